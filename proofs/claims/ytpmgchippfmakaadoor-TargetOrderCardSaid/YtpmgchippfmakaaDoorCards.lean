/-
  DERIVED. GIVEN WITH THE SEED: THE CARDS: each row of YtpmgchippfmakaaDoorRows.lean that lists a variable, with what it lists TIED to the program's text (the seventh form; the later family's looks); each row that meets fmt, with fmt's text TOLD by the authors' own Lean function (tested against real Go, not proved from fmt's source: count such statements apart). THE CARD IS WHAT COUNTS. Prove the row's statement (the work); the ties are given (YtpmgchippfmakaaDoorTie.lean); close each card by the builder's one call (the guide's Derived/Test/ToyasCard.lean, 'card_holds'). Laid BY PROGRAM, IN A SANDBOX (cutbox-door.mjs). By AI agents, Wed Nov 11 2026. No macro, syntax, notation, axiom, sorry.
-/
import Derived.Test.YtpmgchippfmakaaDoorRows
import GoSem.ClaimSeven
namespace Go.Proofs.YtpmgchippfmakaaDoor
namespace Rows

/-- THE TIED CARD OF 'vizardlaw17.TargetWrites'. -/
def targetWritesCard : Claim7 := { stood := { row := targetWritesRow, standIns := [], harness := (true, "a68edfe205576e17ced6331a05e252b1f68488cc1f2ad69c2af1ac63b606be4e"), looks := true }, kinds := [], alts := [], laidByText := true, laidKinds := [.data, .data, .data], laidTests := true, laidLooks := .later }
def TargetWritesCardSaid : Prop := Claim7.holds Tryd.pinned (.plain (OpenSpec.ofChange targetWritesSpec)) targetWritesCard

/-- THE TIED CARD OF 'vizardlaw17.TargetParses'. -/
def targetParsesCard : Claim7 := { stood := { row := targetParsesRow, standIns := [], harness := (true, "a68edfe205576e17ced6331a05e252b1f68488cc1f2ad69c2af1ac63b606be4e"), looks := true }, kinds := [], alts := [], laidByText := true, laidKinds := [.data, .data, .data, .data, .sentinel, .sentinel, .pinned], laidTests := true, laidLooks := .later }
def TargetParsesCardSaid : Prop := Claim7.holds Tryd.pinned (.plain (OpenSpec.ofChange targetParsesSpec)) targetParsesCard

/-- THE TIED CARD OF 'vizardlaw17.TargetBack'. -/
def targetBackCard : Claim7 := { stood := { row := targetBackRow, standIns := [], harness := (true, "a68edfe205576e17ced6331a05e252b1f68488cc1f2ad69c2af1ac63b606be4e"), looks := true }, kinds := [], alts := [], laidByText := true, laidKinds := [.data, .data, .data, .data, .sentinel, .sentinel, .pinned], laidTests := true, laidLooks := .later }
def TargetBackCardSaid : Prop := Claim7.holds Tryd.pinned (.plain (OpenSpec.ofChange targetBackSpec)) targetBackCard

/-- THE TIED CARD OF 'vizardlaw17.TargetStatus'. -/
def targetStatusCard : Claim7 := { stood := { row := targetStatusRow, standIns := [], harness := (true, "a68edfe205576e17ced6331a05e252b1f68488cc1f2ad69c2af1ac63b606be4e"), looks := true }, kinds := [], alts := [], laidByText := true, laidKinds := [.data, .data, .data, .data, .sentinel, .sentinel, .pinned], laidTests := true, laidLooks := .later }
def TargetStatusCardSaid : Prop := Claim7.holds Tryd.pinned (.plain (OpenSpec.ofChange targetStatusSpec)) targetStatusCard

/-- THE TIED CARD OF 'vizardlaw17.TargetOrder'. -/
def targetOrderCard : Claim7 := { stood := { row := targetOrderRow, standIns := [], harness := (true, "a68edfe205576e17ced6331a05e252b1f68488cc1f2ad69c2af1ac63b606be4e"), looks := true }, kinds := [], alts := [], laidByText := true, laidKinds := [.data, .data, .data, .data, .sentinel, .sentinel, .pinned], laidTests := true, laidLooks := .later }
def TargetOrderCardSaid : Prop := Claim7.holds Tryd.pinned (.plain (OpenSpec.ofChange targetOrderSpec)) targetOrderCard

/-- THE SECOND FORM's CARD OF 'vizardlaw17.TargetWrites'. -/
def targetWritesUptoCard : Claim7 := { stood := { row := targetWritesUptoRow, standIns := [], harness := (true, "a68edfe205576e17ced6331a05e252b1f68488cc1f2ad69c2af1ac63b606be4e"), looks := true }, kinds := [], alts := [], laidByText := true, laidKinds := [.data, .data, .data], laidTests := true, laidLooks := .later }
def TargetWritesUptoCardSaid : Prop := Claim7.holds Tryd.pinned (.plain (OpenSpec.upto targetWritesSpec)) targetWritesUptoCard

/-- THE SECOND FORM's CARD OF 'vizardlaw17.TargetParses'. -/
def targetParsesUptoCard : Claim7 := { stood := { row := targetParsesUptoRow, standIns := [], harness := (true, "a68edfe205576e17ced6331a05e252b1f68488cc1f2ad69c2af1ac63b606be4e"), looks := true }, kinds := [], alts := [], laidByText := true, laidKinds := [.data, .data, .data, .data, .sentinel, .sentinel, .pinned], laidTests := true, laidLooks := .later }
def TargetParsesUptoCardSaid : Prop := Claim7.holds Tryd.pinned (.plain (OpenSpec.upto targetParsesSpec)) targetParsesUptoCard

/-- THE SECOND FORM's CARD OF 'vizardlaw17.TargetBack'. -/
def targetBackUptoCard : Claim7 := { stood := { row := targetBackUptoRow, standIns := [], harness := (true, "a68edfe205576e17ced6331a05e252b1f68488cc1f2ad69c2af1ac63b606be4e"), looks := true }, kinds := [], alts := [], laidByText := true, laidKinds := [.data, .data, .data, .data, .sentinel, .sentinel, .pinned], laidTests := true, laidLooks := .later }
def TargetBackUptoCardSaid : Prop := Claim7.holds Tryd.pinned (.plain (OpenSpec.upto targetBackSpec)) targetBackUptoCard

/-- THE SECOND FORM's CARD OF 'vizardlaw17.TargetStatus'. -/
def targetStatusUptoCard : Claim7 := { stood := { row := targetStatusUptoRow, standIns := [], harness := (true, "a68edfe205576e17ced6331a05e252b1f68488cc1f2ad69c2af1ac63b606be4e"), looks := true }, kinds := [], alts := [], laidByText := true, laidKinds := [.data, .data, .data, .data, .sentinel, .sentinel, .pinned], laidTests := true, laidLooks := .later }
def TargetStatusUptoCardSaid : Prop := Claim7.holds Tryd.pinned (.plain (OpenSpec.upto targetStatusSpec)) targetStatusUptoCard

/-- THE SECOND FORM's CARD OF 'vizardlaw17.TargetOrder'. -/
def targetOrderUptoCard : Claim7 := { stood := { row := targetOrderUptoRow, standIns := [], harness := (true, "a68edfe205576e17ced6331a05e252b1f68488cc1f2ad69c2af1ac63b606be4e"), looks := true }, kinds := [], alts := [], laidByText := true, laidKinds := [.data, .data, .data, .data, .sentinel, .sentinel, .pinned], laidTests := true, laidLooks := .later }
def TargetOrderUptoCardSaid : Prop := Claim7.holds Tryd.pinned (.plain (OpenSpec.upto targetOrderSpec)) targetOrderUptoCard
end Rows
end Go.Proofs.YtpmgchippfmakaaDoor
