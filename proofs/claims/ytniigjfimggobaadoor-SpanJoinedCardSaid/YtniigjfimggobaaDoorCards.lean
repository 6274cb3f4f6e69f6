/-
  DERIVED. GIVEN WITH THE SEED: THE CARDS: each row of YtniigjfimggobaaDoorRows.lean that lists a variable, with what it lists TIED to the program's text (the seventh form; the later family's looks); each row that meets fmt, with fmt's text TOLD by the authors' own Lean function (tested against real Go, not proved from fmt's source: count such statements apart). THE CARD IS WHAT COUNTS. Prove the row's statement (the work); the ties are given (YtniigjfimggobaaDoorTie.lean); close each card by the builder's one call (the guide's Derived/Test/ToyasCard.lean, 'card_holds'). Laid BY PROGRAM, IN A SANDBOX (cutbox-door.mjs). By AI agents, Wed Nov 11 2026. No macro, syntax, notation, axiom, sorry.
-/
import Derived.Test.YtniigjfimggobaaDoorRows
import GoSem.ClaimSeven
namespace Go.Proofs.YtniigjfimggobaaDoor
namespace Rows

/-- THE TIED CARD OF 'spoorlaw04.SpanNames'. -/
def spanNamesCard : Claim7 := { stood := { row := spanNamesRow, standIns := [], harness := (true, "c99cafd9c9b5e40d7b0884619eb50567e047a2a2b1556b5eed6039557d9881a3"), looks := false }, kinds := [], alts := [], laidByText := true, laidKinds := [.data, .pinned], laidTests := true, laidLooks := .later }
def SpanNamesCardSaid : Prop := Claim7.holds Tryd.pinned (.plain (OpenSpec.ofChange spanNamesSpec)) spanNamesCard

/-- THE TIED CARD OF 'spoorlaw04.SpanJoined'. -/
def spanJoinedCard : Claim7 := { stood := { row := spanJoinedRow, standIns := [], harness := (true, "c99cafd9c9b5e40d7b0884619eb50567e047a2a2b1556b5eed6039557d9881a3"), looks := false }, kinds := [], alts := [], laidByText := true, laidKinds := [.data, .pinned], laidTests := true, laidLooks := .later }
def SpanJoinedCardSaid : Prop := Claim7.holds Tryd.pinned (.plain (OpenSpec.ofChange spanJoinedSpec)) spanJoinedCard

/-- THE TIED CARD OF 'spoorlaw04.SpanBack'. -/
def spanBackCard : Claim7 := { stood := { row := spanBackRow, standIns := [], harness := (true, "c99cafd9c9b5e40d7b0884619eb50567e047a2a2b1556b5eed6039557d9881a3"), looks := false }, kinds := [], alts := [], laidByText := true, laidKinds := [.data, .pinned], laidTests := true, laidLooks := .later }
def SpanBackCardSaid : Prop := Claim7.holds Tryd.pinned (.plain (OpenSpec.ofChange spanBackSpec)) spanBackCard

/-- THE TIED CARD OF 'spoorlaw04.SpanOne'. -/
def spanOneCard : Claim7 := { stood := { row := spanOneRow, standIns := [], harness := (true, "c99cafd9c9b5e40d7b0884619eb50567e047a2a2b1556b5eed6039557d9881a3"), looks := false }, kinds := [], alts := [], laidByText := true, laidKinds := [.data, .pinned], laidTests := true, laidLooks := .later }
def SpanOneCardSaid : Prop := Claim7.holds Tryd.pinned (.plain (OpenSpec.ofChange spanOneSpec)) spanOneCard

/-- THE TIED CARD OF 'spoorlaw04.SpanOrder'. -/
def spanOrderCard : Claim7 := { stood := { row := spanOrderRow, standIns := [], harness := (true, "c99cafd9c9b5e40d7b0884619eb50567e047a2a2b1556b5eed6039557d9881a3"), looks := false }, kinds := [], alts := [], laidByText := true, laidKinds := [.data, .pinned], laidTests := true, laidLooks := .later }
def SpanOrderCardSaid : Prop := Claim7.holds Tryd.pinned (.plain (OpenSpec.ofChange spanOrderSpec)) spanOrderCard

/-- THE SECOND FORM's CARD OF 'spoorlaw04.SpanNames'. -/
def spanNamesUptoCard : Claim7 := { stood := { row := spanNamesUptoRow, standIns := [], harness := (true, "c99cafd9c9b5e40d7b0884619eb50567e047a2a2b1556b5eed6039557d9881a3"), looks := false }, kinds := [], alts := [], laidByText := true, laidKinds := [.data, .pinned], laidTests := true, laidLooks := .later }
def SpanNamesUptoCardSaid : Prop := Claim7.holds Tryd.pinned (.plain (OpenSpec.upto spanNamesSpec)) spanNamesUptoCard

/-- THE SECOND FORM's CARD OF 'spoorlaw04.SpanJoined'. -/
def spanJoinedUptoCard : Claim7 := { stood := { row := spanJoinedUptoRow, standIns := [], harness := (true, "c99cafd9c9b5e40d7b0884619eb50567e047a2a2b1556b5eed6039557d9881a3"), looks := false }, kinds := [], alts := [], laidByText := true, laidKinds := [.data, .pinned], laidTests := true, laidLooks := .later }
def SpanJoinedUptoCardSaid : Prop := Claim7.holds Tryd.pinned (.plain (OpenSpec.upto spanJoinedSpec)) spanJoinedUptoCard

/-- THE SECOND FORM's CARD OF 'spoorlaw04.SpanBack'. -/
def spanBackUptoCard : Claim7 := { stood := { row := spanBackUptoRow, standIns := [], harness := (true, "c99cafd9c9b5e40d7b0884619eb50567e047a2a2b1556b5eed6039557d9881a3"), looks := false }, kinds := [], alts := [], laidByText := true, laidKinds := [.data, .pinned], laidTests := true, laidLooks := .later }
def SpanBackUptoCardSaid : Prop := Claim7.holds Tryd.pinned (.plain (OpenSpec.upto spanBackSpec)) spanBackUptoCard

/-- THE SECOND FORM's CARD OF 'spoorlaw04.SpanOne'. -/
def spanOneUptoCard : Claim7 := { stood := { row := spanOneUptoRow, standIns := [], harness := (true, "c99cafd9c9b5e40d7b0884619eb50567e047a2a2b1556b5eed6039557d9881a3"), looks := false }, kinds := [], alts := [], laidByText := true, laidKinds := [.data, .pinned], laidTests := true, laidLooks := .later }
def SpanOneUptoCardSaid : Prop := Claim7.holds Tryd.pinned (.plain (OpenSpec.upto spanOneSpec)) spanOneUptoCard

/-- THE SECOND FORM's CARD OF 'spoorlaw04.SpanOrder'. -/
def spanOrderUptoCard : Claim7 := { stood := { row := spanOrderUptoRow, standIns := [], harness := (true, "c99cafd9c9b5e40d7b0884619eb50567e047a2a2b1556b5eed6039557d9881a3"), looks := false }, kinds := [], alts := [], laidByText := true, laidKinds := [.data, .pinned], laidTests := true, laidLooks := .later }
def SpanOrderUptoCardSaid : Prop := Claim7.holds Tryd.pinned (.plain (OpenSpec.upto spanOrderSpec)) spanOrderUptoCard
end Rows
end Go.Proofs.YtniigjfimggobaaDoor
