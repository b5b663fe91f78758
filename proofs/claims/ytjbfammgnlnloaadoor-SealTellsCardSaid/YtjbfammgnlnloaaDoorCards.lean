/-
  DERIVED. GIVEN WITH THE SEED: THE CARDS: each row of YtjbfammgnlnloaaDoorRows.lean that lists a variable, with what it lists TIED to the program's text (the seventh form; the later family's looks); each row that meets fmt, with fmt's text TOLD by the authors' own Lean function (tested against real Go, not proved from fmt's source: count such statements apart). THE CARD IS WHAT COUNTS. Prove the row's statement (the work); the ties are given (YtjbfammgnlnloaaDoorTie.lean); close each card by the builder's one call (the guide's Derived/Test/ToyasCard.lean, 'card_holds'). Laid BY PROGRAM, IN A SANDBOX (cutbox-door.mjs). By AI agents, Wed Nov 11 2026. No macro, syntax, notation, axiom, sorry.
-/
import Derived.Test.YtjbfammgnlnloaaDoorRows
import GoSem.ClaimSeven
namespace Go.Proofs.YtjbfammgnlnloaaDoor
namespace Rows

/-- THE TIED CARD OF 'vizardlaw05.ShaParts'. -/
def shaPartsCard : Claim7 := { stood := { row := shaPartsRow, standIns := [], harness := (true, "4c7bab5d9c851a2d4348debadce011039f81f138805cb321ffd100df1fecff1c"), looks := false }, kinds := [], alts := [], laidByText := true, laidKinds := [.data], laidTests := true, laidLooks := .later }
def ShaPartsCardSaid : Prop := Claim7.holds Tryd.pinned (.plain (OpenSpec.ofChange shaPartsSpec)) shaPartsCard

/-- THE TIED CARD OF 'vizardlaw05.ShaOwn'. -/
def shaOwnCard : Claim7 := { stood := { row := shaOwnRow, standIns := [], harness := (true, "4c7bab5d9c851a2d4348debadce011039f81f138805cb321ffd100df1fecff1c"), looks := false }, kinds := [], alts := [], laidByText := true, laidKinds := [.data], laidTests := true, laidLooks := .later }
def ShaOwnCardSaid : Prop := Claim7.holds Tryd.pinned (.plain (OpenSpec.ofChange shaOwnSpec)) shaOwnCard

/-- THE TIED CARD OF 'vizardlaw05.ShaSums'. -/
def shaSumsCard : Claim7 := { stood := { row := shaSumsRow, standIns := [], harness := (true, "4c7bab5d9c851a2d4348debadce011039f81f138805cb321ffd100df1fecff1c"), looks := false }, kinds := [], alts := [], laidByText := true, laidKinds := [.data, .data], laidTests := true, laidLooks := .later }
def ShaSumsCardSaid : Prop := Claim7.holds Tryd.pinned (.plain (OpenSpec.ofChange shaSumsSpec)) shaSumsCard

/-- THE TIED CARD OF 'vizardlaw05.ShaKeys'. -/
def shaKeysCard : Claim7 := { stood := { row := shaKeysRow, standIns := [], harness := (true, "4c7bab5d9c851a2d4348debadce011039f81f138805cb321ffd100df1fecff1c"), looks := false }, kinds := [], alts := [], laidByText := true, laidKinds := [.data, .data], laidTests := true, laidLooks := .later }
def ShaKeysCardSaid : Prop := Claim7.holds Tryd.pinned (.plain (OpenSpec.ofChange shaKeysSpec)) shaKeysCard

/-- THE TIED CARD OF 'vizardlaw06.SealTells'. -/
def sealTellsCard : Claim7 := { stood := { row := sealTellsRow, standIns := [], harness := (true, "4c7bab5d9c851a2d4348debadce011039f81f138805cb321ffd100df1fecff1c"), looks := false }, kinds := [], alts := [], laidByText := true, laidKinds := [.data, .data], laidTests := true, laidLooks := .later }
def SealTellsCardSaid : Prop := Claim7.holds Tryd.pinned (.plain (OpenSpec.ofChange sealTellsSpec)) sealTellsCard

/-- THE TIED CARD OF 'vizardlaw06.SealOwn'. -/
def sealOwnCard : Claim7 := { stood := { row := sealOwnRow, standIns := [], harness := (true, "4c7bab5d9c851a2d4348debadce011039f81f138805cb321ffd100df1fecff1c"), looks := false }, kinds := [], alts := [], laidByText := true, laidKinds := [.data, .data], laidTests := true, laidLooks := .later }
def SealOwnCardSaid : Prop := Claim7.holds Tryd.pinned (.plain (OpenSpec.ofChange sealOwnSpec)) sealOwnCard

/-- THE TIED CARD OF 'vizardlaw06.SealBytes'. -/
def sealBytesCard : Claim7 := { stood := { row := sealBytesRow, standIns := [], harness := (true, "4c7bab5d9c851a2d4348debadce011039f81f138805cb321ffd100df1fecff1c"), looks := false }, kinds := [], alts := [], laidByText := true, laidKinds := [.data, .data], laidTests := true, laidLooks := .later }
def SealBytesCardSaid : Prop := Claim7.holds Tryd.pinned (.plain (OpenSpec.ofChange sealBytesSpec)) sealBytesCard

/-- THE TIED CARD OF 'vizardlaw06.SealShort'. -/
def sealShortCard : Claim7 := { stood := { row := sealShortRow, standIns := [], harness := (true, "4c7bab5d9c851a2d4348debadce011039f81f138805cb321ffd100df1fecff1c"), looks := false }, kinds := [], alts := [], laidByText := true, laidKinds := [.data, .data], laidTests := true, laidLooks := .later }
def SealShortCardSaid : Prop := Claim7.holds Tryd.pinned (.plain (OpenSpec.ofChange sealShortSpec)) sealShortCard

/-- THE TIED CARD OF 'vizardlaw06.SealDoes'. -/
def sealDoesCard : Claim7 := { stood := { row := sealDoesRow, standIns := [], harness := (true, "4c7bab5d9c851a2d4348debadce011039f81f138805cb321ffd100df1fecff1c"), looks := false }, kinds := [], alts := [], laidByText := true, laidKinds := [.data, .data], laidTests := true, laidLooks := .later }
def SealDoesCardSaid : Prop := Claim7.holds Tryd.pinned (.plain (OpenSpec.ofChange sealDoesSpec)) sealDoesCard

/-- THE SECOND FORM's CARD OF 'vizardlaw05.ShaParts'. -/
def shaPartsUptoCard : Claim7 := { stood := { row := shaPartsUptoRow, standIns := [], harness := (true, "4c7bab5d9c851a2d4348debadce011039f81f138805cb321ffd100df1fecff1c"), looks := false }, kinds := [], alts := [], laidByText := true, laidKinds := [.data], laidTests := true, laidLooks := .later }
def ShaPartsUptoCardSaid : Prop := Claim7.holds Tryd.pinned (.plain (OpenSpec.upto shaPartsSpec)) shaPartsUptoCard

/-- THE SECOND FORM's CARD OF 'vizardlaw05.ShaOwn'. -/
def shaOwnUptoCard : Claim7 := { stood := { row := shaOwnUptoRow, standIns := [], harness := (true, "4c7bab5d9c851a2d4348debadce011039f81f138805cb321ffd100df1fecff1c"), looks := false }, kinds := [], alts := [], laidByText := true, laidKinds := [.data], laidTests := true, laidLooks := .later }
def ShaOwnUptoCardSaid : Prop := Claim7.holds Tryd.pinned (.plain (OpenSpec.upto shaOwnSpec)) shaOwnUptoCard

/-- THE SECOND FORM's CARD OF 'vizardlaw05.ShaSums'. -/
def shaSumsUptoCard : Claim7 := { stood := { row := shaSumsUptoRow, standIns := [], harness := (true, "4c7bab5d9c851a2d4348debadce011039f81f138805cb321ffd100df1fecff1c"), looks := false }, kinds := [], alts := [], laidByText := true, laidKinds := [.data, .data], laidTests := true, laidLooks := .later }
def ShaSumsUptoCardSaid : Prop := Claim7.holds Tryd.pinned (.plain (OpenSpec.upto shaSumsSpec)) shaSumsUptoCard

/-- THE SECOND FORM's CARD OF 'vizardlaw05.ShaKeys'. -/
def shaKeysUptoCard : Claim7 := { stood := { row := shaKeysUptoRow, standIns := [], harness := (true, "4c7bab5d9c851a2d4348debadce011039f81f138805cb321ffd100df1fecff1c"), looks := false }, kinds := [], alts := [], laidByText := true, laidKinds := [.data, .data], laidTests := true, laidLooks := .later }
def ShaKeysUptoCardSaid : Prop := Claim7.holds Tryd.pinned (.plain (OpenSpec.upto shaKeysSpec)) shaKeysUptoCard

/-- THE SECOND FORM's CARD OF 'vizardlaw06.SealTells'. -/
def sealTellsUptoCard : Claim7 := { stood := { row := sealTellsUptoRow, standIns := [], harness := (true, "4c7bab5d9c851a2d4348debadce011039f81f138805cb321ffd100df1fecff1c"), looks := false }, kinds := [], alts := [], laidByText := true, laidKinds := [.data, .data], laidTests := true, laidLooks := .later }
def SealTellsUptoCardSaid : Prop := Claim7.holds Tryd.pinned (.plain (OpenSpec.upto sealTellsSpec)) sealTellsUptoCard

/-- THE SECOND FORM's CARD OF 'vizardlaw06.SealOwn'. -/
def sealOwnUptoCard : Claim7 := { stood := { row := sealOwnUptoRow, standIns := [], harness := (true, "4c7bab5d9c851a2d4348debadce011039f81f138805cb321ffd100df1fecff1c"), looks := false }, kinds := [], alts := [], laidByText := true, laidKinds := [.data, .data], laidTests := true, laidLooks := .later }
def SealOwnUptoCardSaid : Prop := Claim7.holds Tryd.pinned (.plain (OpenSpec.upto sealOwnSpec)) sealOwnUptoCard

/-- THE SECOND FORM's CARD OF 'vizardlaw06.SealBytes'. -/
def sealBytesUptoCard : Claim7 := { stood := { row := sealBytesUptoRow, standIns := [], harness := (true, "4c7bab5d9c851a2d4348debadce011039f81f138805cb321ffd100df1fecff1c"), looks := false }, kinds := [], alts := [], laidByText := true, laidKinds := [.data, .data], laidTests := true, laidLooks := .later }
def SealBytesUptoCardSaid : Prop := Claim7.holds Tryd.pinned (.plain (OpenSpec.upto sealBytesSpec)) sealBytesUptoCard

/-- THE SECOND FORM's CARD OF 'vizardlaw06.SealShort'. -/
def sealShortUptoCard : Claim7 := { stood := { row := sealShortUptoRow, standIns := [], harness := (true, "4c7bab5d9c851a2d4348debadce011039f81f138805cb321ffd100df1fecff1c"), looks := false }, kinds := [], alts := [], laidByText := true, laidKinds := [.data, .data], laidTests := true, laidLooks := .later }
def SealShortUptoCardSaid : Prop := Claim7.holds Tryd.pinned (.plain (OpenSpec.upto sealShortSpec)) sealShortUptoCard

/-- THE SECOND FORM's CARD OF 'vizardlaw06.SealDoes'. -/
def sealDoesUptoCard : Claim7 := { stood := { row := sealDoesUptoRow, standIns := [], harness := (true, "4c7bab5d9c851a2d4348debadce011039f81f138805cb321ffd100df1fecff1c"), looks := false }, kinds := [], alts := [], laidByText := true, laidKinds := [.data, .data], laidTests := true, laidLooks := .later }
def SealDoesUptoCardSaid : Prop := Claim7.holds Tryd.pinned (.plain (OpenSpec.upto sealDoesSpec)) sealDoesUptoCard
end Rows
end Go.Proofs.YtjbfammgnlnloaaDoor
