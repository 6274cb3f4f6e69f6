/-
  DERIVED. GIVEN WITH THE SEED: THE CARDS: each row of YtlcbgklealipoaaGreatDoorRows.lean that lists a variable, with what it lists TIED to the program's text (the seventh form; the later family's looks); each row that meets fmt, with fmt's text TOLD by the authors' own Lean function (tested against real Go, not proved from fmt's source: count such statements apart). THE CARD IS WHAT COUNTS. Prove the row's statement (the work); the ties are given (YtlcbgklealipoaaGreatDoorTie.lean); close each card by the builder's one call (the guide's Derived/Test/ToyasCard.lean, 'card_holds'). Laid BY PROGRAM, IN A SANDBOX (cutbox-door.mjs). By AI agents, Wed Nov 11 2026. No macro, syntax, notation, axiom, sorry.
-/
import Derived.Test.YtlcbgklealipoaaGreatDoorRows
import GoSem.ClaimSeven
namespace Go.Proofs.YtlcbgklealipoaaGreatDoor
namespace Rows

/-- THE TIED CARD OF 'spoorlaw05.BatchNames'. -/
def batchNamesCard : Claim7 := { stood := { row := batchNamesRow, standIns := [], harness := (true, "4bf19f0ec381310282f57ca127a36ae9f69538a467f06503864cf0dde1b9b75a"), looks := true }, kinds := [], alts := [], laidByText := true, laidKinds := [.data, .handle, .pinned], laidTests := true, laidLooks := .later }
def BatchNamesCardSaid : Prop := Claim7.holds Tryz.pinned (.plain (OpenSpec.ofChange batchNamesSpec)) batchNamesCard

/-- THE TIED CARD OF 'spoorlaw05.BatchBack'. -/
def batchBackCard : Claim7 := { stood := { row := batchBackRow, standIns := [], harness := (true, "4bf19f0ec381310282f57ca127a36ae9f69538a467f06503864cf0dde1b9b75a"), looks := true }, kinds := [], alts := [], laidByText := true, laidKinds := [.data, .handle, .pinned], laidTests := true, laidLooks := .later }
def BatchBackCardSaid : Prop := Claim7.holds Tryz.pinned (.plain (OpenSpec.ofChange batchBackSpec)) batchBackCard

/-- THE TIED CARD OF 'spoorlaw05.BatchForm'. -/
def batchFormCard : Claim7 := { stood := { row := batchFormRow, standIns := [], harness := (true, "4bf19f0ec381310282f57ca127a36ae9f69538a467f06503864cf0dde1b9b75a"), looks := true }, kinds := [], alts := [], laidByText := true, laidKinds := [.data, .handle, .pinned], laidTests := true, laidLooks := .later }
def BatchFormCardSaid : Prop := Claim7.holds Tryz.pinned (.plain (OpenSpec.ofChange batchFormSpec)) batchFormCard

/-- THE TIED CARD OF 'spoorlaw05.BatchLonger'. -/
def batchLongerCard : Claim7 := { stood := { row := batchLongerRow, standIns := [], harness := (true, "4bf19f0ec381310282f57ca127a36ae9f69538a467f06503864cf0dde1b9b75a"), looks := true }, kinds := [], alts := [], laidByText := true, laidKinds := [.data, .handle, .pinned], laidTests := true, laidLooks := .later }
def BatchLongerCardSaid : Prop := Claim7.holds Tryz.pinned (.plain (OpenSpec.ofChange batchLongerSpec)) batchLongerCard

/-- THE TIED CARD OF 'spoorlaw05.BatchEncodes'. -/
def batchEncodesCard : Claim7 := { stood := { row := batchEncodesRow, standIns := [], harness := (true, "4bf19f0ec381310282f57ca127a36ae9f69538a467f06503864cf0dde1b9b75a"), looks := true }, kinds := [], alts := [], laidByText := true, laidKinds := [.data, .handle, .pinned], laidTests := true, laidLooks := .later }
def BatchEncodesCardSaid : Prop := Claim7.holds Tryz.pinned (.plain (OpenSpec.ofChange batchEncodesSpec)) batchEncodesCard

/-- THE TIED CARD OF 'spoorlaw05.BatchDecodes'. -/
def batchDecodesCard : Claim7 := { stood := { row := batchDecodesRow, standIns := [], harness := (true, "4bf19f0ec381310282f57ca127a36ae9f69538a467f06503864cf0dde1b9b75a"), looks := true }, kinds := [], alts := [], laidByText := true, laidKinds := [.data, .handle, .pinned], laidTests := true, laidLooks := .later }
def BatchDecodesCardSaid : Prop := Claim7.holds Tryz.pinned (.plain (OpenSpec.ofChange batchDecodesSpec)) batchDecodesCard

/-- THE TIED CARD OF 'spoorlaw05.BatchWhole'. -/
def batchWholeCard : Claim7 := { stood := { row := batchWholeRow, standIns := [], harness := (true, "4bf19f0ec381310282f57ca127a36ae9f69538a467f06503864cf0dde1b9b75a"), looks := true }, kinds := [], alts := [], laidByText := true, laidKinds := [.data, .handle, .pinned], laidTests := true, laidLooks := .later }
def BatchWholeCardSaid : Prop := Claim7.holds Tryz.pinned (.plain (OpenSpec.ofChange batchWholeSpec)) batchWholeCard

/-- THE SECOND FORM's CARD OF 'spoorlaw05.BatchNames'. -/
def batchNamesUptoCard : Claim7 := { stood := { row := batchNamesUptoRow, standIns := [], harness := (true, "4bf19f0ec381310282f57ca127a36ae9f69538a467f06503864cf0dde1b9b75a"), looks := true }, kinds := [], alts := [], laidByText := true, laidKinds := [.data, .handle, .pinned], laidTests := true, laidLooks := .later }
def BatchNamesUptoCardSaid : Prop := Claim7.holds Tryz.pinned (.plain (OpenSpec.upto batchNamesSpec)) batchNamesUptoCard

/-- THE SECOND FORM's CARD OF 'spoorlaw05.BatchBack'. -/
def batchBackUptoCard : Claim7 := { stood := { row := batchBackUptoRow, standIns := [], harness := (true, "4bf19f0ec381310282f57ca127a36ae9f69538a467f06503864cf0dde1b9b75a"), looks := true }, kinds := [], alts := [], laidByText := true, laidKinds := [.data, .handle, .pinned], laidTests := true, laidLooks := .later }
def BatchBackUptoCardSaid : Prop := Claim7.holds Tryz.pinned (.plain (OpenSpec.upto batchBackSpec)) batchBackUptoCard

/-- THE SECOND FORM's CARD OF 'spoorlaw05.BatchForm'. -/
def batchFormUptoCard : Claim7 := { stood := { row := batchFormUptoRow, standIns := [], harness := (true, "4bf19f0ec381310282f57ca127a36ae9f69538a467f06503864cf0dde1b9b75a"), looks := true }, kinds := [], alts := [], laidByText := true, laidKinds := [.data, .handle, .pinned], laidTests := true, laidLooks := .later }
def BatchFormUptoCardSaid : Prop := Claim7.holds Tryz.pinned (.plain (OpenSpec.upto batchFormSpec)) batchFormUptoCard

/-- THE SECOND FORM's CARD OF 'spoorlaw05.BatchLonger'. -/
def batchLongerUptoCard : Claim7 := { stood := { row := batchLongerUptoRow, standIns := [], harness := (true, "4bf19f0ec381310282f57ca127a36ae9f69538a467f06503864cf0dde1b9b75a"), looks := true }, kinds := [], alts := [], laidByText := true, laidKinds := [.data, .handle, .pinned], laidTests := true, laidLooks := .later }
def BatchLongerUptoCardSaid : Prop := Claim7.holds Tryz.pinned (.plain (OpenSpec.upto batchLongerSpec)) batchLongerUptoCard

/-- THE SECOND FORM's CARD OF 'spoorlaw05.BatchEncodes'. -/
def batchEncodesUptoCard : Claim7 := { stood := { row := batchEncodesUptoRow, standIns := [], harness := (true, "4bf19f0ec381310282f57ca127a36ae9f69538a467f06503864cf0dde1b9b75a"), looks := true }, kinds := [], alts := [], laidByText := true, laidKinds := [.data, .handle, .pinned], laidTests := true, laidLooks := .later }
def BatchEncodesUptoCardSaid : Prop := Claim7.holds Tryz.pinned (.plain (OpenSpec.upto batchEncodesSpec)) batchEncodesUptoCard

/-- THE SECOND FORM's CARD OF 'spoorlaw05.BatchDecodes'. -/
def batchDecodesUptoCard : Claim7 := { stood := { row := batchDecodesUptoRow, standIns := [], harness := (true, "4bf19f0ec381310282f57ca127a36ae9f69538a467f06503864cf0dde1b9b75a"), looks := true }, kinds := [], alts := [], laidByText := true, laidKinds := [.data, .handle, .pinned], laidTests := true, laidLooks := .later }
def BatchDecodesUptoCardSaid : Prop := Claim7.holds Tryz.pinned (.plain (OpenSpec.upto batchDecodesSpec)) batchDecodesUptoCard

/-- THE SECOND FORM's CARD OF 'spoorlaw05.BatchWhole'. -/
def batchWholeUptoCard : Claim7 := { stood := { row := batchWholeUptoRow, standIns := [], harness := (true, "4bf19f0ec381310282f57ca127a36ae9f69538a467f06503864cf0dde1b9b75a"), looks := true }, kinds := [], alts := [], laidByText := true, laidKinds := [.data, .handle, .pinned], laidTests := true, laidLooks := .later }
def BatchWholeUptoCardSaid : Prop := Claim7.holds Tryz.pinned (.plain (OpenSpec.upto batchWholeSpec)) batchWholeUptoCard
end Rows
end Go.Proofs.YtlcbgklealipoaaGreatDoor
