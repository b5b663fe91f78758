/-
  DERIVED. GIVEN WITH THE SEED: THE CARDS: each row of YtkfkkkalcchpkaaGreatDoorRows.lean that lists a variable, with what it lists TIED to the program's text (the seventh form; the later family's looks); each row that meets fmt, with fmt's text TOLD by the authors' own Lean function (tested against real Go, not proved from fmt's source: count such statements apart). THE CARD IS WHAT COUNTS. Prove the row's statement (the work); the ties are given (YtkfkkkalcchpkaaGreatDoorTie.lean); close each card by the builder's one call (the guide's Derived/Test/ToyasCard.lean, 'card_holds'). Laid BY PROGRAM, IN A SANDBOX (cutbox-door.mjs). By AI agents, Wed Nov 11 2026. No macro, syntax, notation, axiom, sorry.
-/
import Derived.Test.YtkfkkkalcchpkaaGreatDoorRows
import GoSem.ClaimSeven
namespace Go.Proofs.YtkfkkkalcchpkaaGreatDoor
namespace Rows

/-- THE TIED CARD OF 'vizardlaw13.ConnHello'. -/
def connHelloCard : Claim7 := { stood := { row := connHelloRow, standIns := [], harness := (true, "e30389e81ed1150d2dd9307bcfef00374caae176206965edc50f8e8c55c5fbaa"), looks := true }, kinds := [], alts := [], laidByText := true, laidKinds := [.data, .data], laidTests := true, laidLooks := .later }
def ConnHelloCardSaid : Prop := Claim7.holds Tryz.pinned (.plain (OpenSpec.ofChange connHelloSpec)) connHelloCard

/-- THE TIED CARD OF 'vizardlaw13.ConnWhole'. -/
def connWholeCard : Claim7 := { stood := { row := connWholeRow, standIns := [], harness := (true, "e30389e81ed1150d2dd9307bcfef00374caae176206965edc50f8e8c55c5fbaa"), looks := true }, kinds := [], alts := [], laidByText := true, laidKinds := [.data, .data], laidTests := true, laidLooks := .later }
def ConnWholeCardSaid : Prop := Claim7.holds Tryz.pinned (.plain (OpenSpec.ofChange connWholeSpec)) connWholeCard

/-- THE TIED CARD OF 'vizardlaw13.ConnGrams'. -/
def connGramsCard : Claim7 := { stood := { row := connGramsRow, standIns := [], harness := (true, "e30389e81ed1150d2dd9307bcfef00374caae176206965edc50f8e8c55c5fbaa"), looks := true }, kinds := [], alts := [], laidByText := true, laidKinds := [.data, .data], laidTests := true, laidLooks := .later }
def ConnGramsCardSaid : Prop := Claim7.holds Tryz.pinned (.plain (OpenSpec.ofChange connGramsSpec)) connGramsCard

/-- THE TIED CARD OF 'vizardlaw13.ConnTwice'. -/
def connTwiceCard : Claim7 := { stood := { row := connTwiceRow, standIns := [], harness := (true, "e30389e81ed1150d2dd9307bcfef00374caae176206965edc50f8e8c55c5fbaa"), looks := true }, kinds := [], alts := [], laidByText := true, laidKinds := [.data, .data], laidTests := true, laidLooks := .later }
def ConnTwiceCardSaid : Prop := Claim7.holds Tryz.pinned (.plain (OpenSpec.ofChange connTwiceSpec)) connTwiceCard

/-- THE TIED CARD OF 'vizardlaw13.ConnCloses'. -/
def connClosesCard : Claim7 := { stood := { row := connClosesRow, standIns := [], harness := (true, "e30389e81ed1150d2dd9307bcfef00374caae176206965edc50f8e8c55c5fbaa"), looks := true }, kinds := [], alts := [], laidByText := true, laidKinds := [.data, .data], laidTests := true, laidLooks := .later }
def ConnClosesCardSaid : Prop := Claim7.holds Tryz.pinned (.plain (OpenSpec.ofChange connClosesSpec)) connClosesCard

/-- THE SECOND FORM's CARD OF 'vizardlaw13.ConnHello'. -/
def connHelloUptoCard : Claim7 := { stood := { row := connHelloUptoRow, standIns := [], harness := (true, "e30389e81ed1150d2dd9307bcfef00374caae176206965edc50f8e8c55c5fbaa"), looks := true }, kinds := [], alts := [], laidByText := true, laidKinds := [.data, .data], laidTests := true, laidLooks := .later }
def ConnHelloUptoCardSaid : Prop := Claim7.holds Tryz.pinned (.plain (OpenSpec.upto connHelloSpec)) connHelloUptoCard

/-- THE SECOND FORM's CARD OF 'vizardlaw13.ConnWhole'. -/
def connWholeUptoCard : Claim7 := { stood := { row := connWholeUptoRow, standIns := [], harness := (true, "e30389e81ed1150d2dd9307bcfef00374caae176206965edc50f8e8c55c5fbaa"), looks := true }, kinds := [], alts := [], laidByText := true, laidKinds := [.data, .data], laidTests := true, laidLooks := .later }
def ConnWholeUptoCardSaid : Prop := Claim7.holds Tryz.pinned (.plain (OpenSpec.upto connWholeSpec)) connWholeUptoCard

/-- THE SECOND FORM's CARD OF 'vizardlaw13.ConnGrams'. -/
def connGramsUptoCard : Claim7 := { stood := { row := connGramsUptoRow, standIns := [], harness := (true, "e30389e81ed1150d2dd9307bcfef00374caae176206965edc50f8e8c55c5fbaa"), looks := true }, kinds := [], alts := [], laidByText := true, laidKinds := [.data, .data], laidTests := true, laidLooks := .later }
def ConnGramsUptoCardSaid : Prop := Claim7.holds Tryz.pinned (.plain (OpenSpec.upto connGramsSpec)) connGramsUptoCard

/-- THE SECOND FORM's CARD OF 'vizardlaw13.ConnTwice'. -/
def connTwiceUptoCard : Claim7 := { stood := { row := connTwiceUptoRow, standIns := [], harness := (true, "e30389e81ed1150d2dd9307bcfef00374caae176206965edc50f8e8c55c5fbaa"), looks := true }, kinds := [], alts := [], laidByText := true, laidKinds := [.data, .data], laidTests := true, laidLooks := .later }
def ConnTwiceUptoCardSaid : Prop := Claim7.holds Tryz.pinned (.plain (OpenSpec.upto connTwiceSpec)) connTwiceUptoCard

/-- THE SECOND FORM's CARD OF 'vizardlaw13.ConnCloses'. -/
def connClosesUptoCard : Claim7 := { stood := { row := connClosesUptoRow, standIns := [], harness := (true, "e30389e81ed1150d2dd9307bcfef00374caae176206965edc50f8e8c55c5fbaa"), looks := true }, kinds := [], alts := [], laidByText := true, laidKinds := [.data, .data], laidTests := true, laidLooks := .later }
def ConnClosesUptoCardSaid : Prop := Claim7.holds Tryz.pinned (.plain (OpenSpec.upto connClosesSpec)) connClosesUptoCard
end Rows
end Go.Proofs.YtkfkkkalcchpkaaGreatDoor
