/- SpanJoined returns true of any three spans, and the tables of unicode/utf8 that it reads hold, when the call begins, what the program's text lays in them (tied): the card. The translation is of the pruned project that the seat bears. -/
import Derived.Test.YtniigjfimggobaaDoorRSpanJoined
import Derived.Test.YtniigjfimggobaaDoorTie
import Derived.Test.YtniigjfimggobaaDoorCards
import Derived.SevenTiedAt
namespace Go.Proofs.YtniigjfimggobaaDoor.spanJoined
open Go

/-- The statement. -/
theorem card : Rows.SpanJoinedCardSaid :=
  Claim7.holds_tied_plain_at .later [] [.data, .pinned] true (true, "c99cafd9c9b5e40d7b0884619eb50567e047a2a2b1556b5eed6039557d9881a3") false
    over (fun _ h => by cases h) (by kernel_rfl) (fun _ h => by cases h) spanJoined_row_tie rfl ⟨rfl, rfl⟩ (by kernel_rfl) rfl
    (fun f fn hf hfn => by
      obtain rfl : f = 4 := Option.some.inj ((show Tryd.prog.funcNamed "spoor/spoorlaw04.SpanJoined" = some 4 by kernel_rfl).symm.trans hf) |>.symm
      obtain rfl : fn = Tryd.f4 := (Option.some.inj (Tryd.func4.symm.trans hfn)).symm
      exact ⟨by kernel_rfl, fun j t ht => by
        rw [Tryd.params4] at ht
        have hm : t ∈ [33] := by
          have h := Array.mem_of_getElem? ht
          simp at h
          simp [h]
        have hall : ([33].all fun u => !Tryd.prog.wantsStandIn u) = true := by kernel_rfl
        exact (show Tryd.prog.wantsStandIn t = false by simpa using List.all_eq_true.1 hall t hm)⟩)
    (by kernel_rfl)
#print axioms card
end Go.Proofs.YtniigjfimggobaaDoor.spanJoined
