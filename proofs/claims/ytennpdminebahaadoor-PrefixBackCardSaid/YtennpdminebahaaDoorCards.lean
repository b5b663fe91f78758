/-
  DERIVED. GIVEN WITH THE SEED: THE CARDS: each row of YtennpdminebahaaDoorRows.lean that lists a variable, with what it lists TIED to the program's text (the seventh form; the later family's looks); each row that meets fmt, with fmt's text TOLD by the authors' own Lean function (tested against real Go, not proved from fmt's source: count such statements apart). THE CARD IS WHAT COUNTS. Prove the row's statement (the work); the ties are given (YtennpdminebahaaDoorTie.lean); close each card by the builder's one call (the guide's Derived/Test/ToyasCard.lean, 'card_holds'). Laid BY PROGRAM, IN A SANDBOX (cutbox-door.mjs). By AI agents, Wed Nov 11 2026. No macro, syntax, notation, axiom, sorry.
-/
import Derived.Test.YtennpdminebahaaDoorRows
import GoSem.ClaimSeven
namespace Go.Proofs.YtennpdminebahaaDoor
namespace Rows

/-- THE TIED CARD OF 'vizardlaw04.PrefixWrites'. -/
def prefixWritesCard : Claim7 := { stood := { row := prefixWritesRow, standIns := [], harness := (true, "a612a95992bd4bd681c2070a3dceba332be053e4245b84840b465548d937d557"), looks := true }, kinds := [], alts := [], laidByText := true, laidKinds := [.data, .data, .data, .data, .sentinel, .sentinel, .pinned], laidTests := true, laidLooks := .later }
def PrefixWritesCardSaid : Prop := Claim7.holds Tryd.pinned (.plain (OpenSpec.ofChange prefixWritesSpec)) prefixWritesCard

/-- THE TIED CARD OF 'vizardlaw04.PrefixOnce'. -/
def prefixOnceCard : Claim7 := { stood := { row := prefixOnceRow, standIns := [], harness := (true, "a612a95992bd4bd681c2070a3dceba332be053e4245b84840b465548d937d557"), looks := true }, kinds := [], alts := [], laidByText := true, laidKinds := [.data, .data, .data, .data, .sentinel, .sentinel, .pinned], laidTests := true, laidLooks := .later }
def PrefixOnceCardSaid : Prop := Claim7.holds Tryd.pinned (.plain (OpenSpec.ofChange prefixOnceSpec)) prefixOnceCard

/-- THE TIED CARD OF 'vizardlaw04.PrefixHalves'. -/
def prefixHalvesCard : Claim7 := { stood := { row := prefixHalvesRow, standIns := [], harness := (true, "a612a95992bd4bd681c2070a3dceba332be053e4245b84840b465548d937d557"), looks := true }, kinds := [], alts := [], laidByText := true, laidKinds := [.data, .data, .data, .data, .sentinel, .sentinel, .pinned], laidTests := true, laidLooks := .later }
def PrefixHalvesCardSaid : Prop := Claim7.holds Tryd.pinned (.plain (OpenSpec.ofChange prefixHalvesSpec)) prefixHalvesCard

/-- THE TIED CARD OF 'vizardlaw04.PrefixEdges'. -/
def prefixEdgesCard : Claim7 := { stood := { row := prefixEdgesRow, standIns := [], harness := (true, "a612a95992bd4bd681c2070a3dceba332be053e4245b84840b465548d937d557"), looks := true }, kinds := [], alts := [], laidByText := true, laidKinds := [.data, .data, .data, .data, .sentinel, .sentinel, .pinned], laidTests := true, laidLooks := .later }
def PrefixEdgesCardSaid : Prop := Claim7.holds Tryd.pinned (.plain (OpenSpec.ofChange prefixEdgesSpec)) prefixEdgesCard

/-- THE TIED CARD OF 'vizardlaw04.PrefixBack'. -/
def prefixBackCard : Claim7 := { stood := { row := prefixBackRow, standIns := [], harness := (true, "a612a95992bd4bd681c2070a3dceba332be053e4245b84840b465548d937d557"), looks := true }, kinds := [], alts := [], laidByText := true, laidKinds := [.data, .data, .data, .data, .sentinel, .sentinel, .pinned], laidTests := true, laidLooks := .later }
def PrefixBackCardSaid : Prop := Claim7.holds Tryd.pinned (.plain (OpenSpec.ofChange prefixBackSpec)) prefixBackCard

/-- THE SECOND FORM's CARD OF 'vizardlaw04.PrefixWrites'. -/
def prefixWritesUptoCard : Claim7 := { stood := { row := prefixWritesUptoRow, standIns := [], harness := (true, "a612a95992bd4bd681c2070a3dceba332be053e4245b84840b465548d937d557"), looks := true }, kinds := [], alts := [], laidByText := true, laidKinds := [.data, .data, .data, .data, .sentinel, .sentinel, .pinned], laidTests := true, laidLooks := .later }
def PrefixWritesUptoCardSaid : Prop := Claim7.holds Tryd.pinned (.plain (OpenSpec.upto prefixWritesSpec)) prefixWritesUptoCard

/-- THE SECOND FORM's CARD OF 'vizardlaw04.PrefixOnce'. -/
def prefixOnceUptoCard : Claim7 := { stood := { row := prefixOnceUptoRow, standIns := [], harness := (true, "a612a95992bd4bd681c2070a3dceba332be053e4245b84840b465548d937d557"), looks := true }, kinds := [], alts := [], laidByText := true, laidKinds := [.data, .data, .data, .data, .sentinel, .sentinel, .pinned], laidTests := true, laidLooks := .later }
def PrefixOnceUptoCardSaid : Prop := Claim7.holds Tryd.pinned (.plain (OpenSpec.upto prefixOnceSpec)) prefixOnceUptoCard

/-- THE SECOND FORM's CARD OF 'vizardlaw04.PrefixHalves'. -/
def prefixHalvesUptoCard : Claim7 := { stood := { row := prefixHalvesUptoRow, standIns := [], harness := (true, "a612a95992bd4bd681c2070a3dceba332be053e4245b84840b465548d937d557"), looks := true }, kinds := [], alts := [], laidByText := true, laidKinds := [.data, .data, .data, .data, .sentinel, .sentinel, .pinned], laidTests := true, laidLooks := .later }
def PrefixHalvesUptoCardSaid : Prop := Claim7.holds Tryd.pinned (.plain (OpenSpec.upto prefixHalvesSpec)) prefixHalvesUptoCard

/-- THE SECOND FORM's CARD OF 'vizardlaw04.PrefixEdges'. -/
def prefixEdgesUptoCard : Claim7 := { stood := { row := prefixEdgesUptoRow, standIns := [], harness := (true, "a612a95992bd4bd681c2070a3dceba332be053e4245b84840b465548d937d557"), looks := true }, kinds := [], alts := [], laidByText := true, laidKinds := [.data, .data, .data, .data, .sentinel, .sentinel, .pinned], laidTests := true, laidLooks := .later }
def PrefixEdgesUptoCardSaid : Prop := Claim7.holds Tryd.pinned (.plain (OpenSpec.upto prefixEdgesSpec)) prefixEdgesUptoCard

/-- THE SECOND FORM's CARD OF 'vizardlaw04.PrefixBack'. -/
def prefixBackUptoCard : Claim7 := { stood := { row := prefixBackUptoRow, standIns := [], harness := (true, "a612a95992bd4bd681c2070a3dceba332be053e4245b84840b465548d937d557"), looks := true }, kinds := [], alts := [], laidByText := true, laidKinds := [.data, .data, .data, .data, .sentinel, .sentinel, .pinned], laidTests := true, laidLooks := .later }
def PrefixBackUptoCardSaid : Prop := Claim7.holds Tryd.pinned (.plain (OpenSpec.upto prefixBackSpec)) prefixBackUptoCard
end Rows
end Go.Proofs.YtennpdminebahaaDoor
