/-
  DERIVED. GIVEN WITH THE SEED: THE CARDS: each row of YtjbfpeeigjjbdaaDoorRows.lean that lists a variable, with what it lists TIED to the program's text (the seventh form; the later family's looks); each row that meets fmt, with fmt's text TOLD by the authors' own Lean function (tested against real Go, not proved from fmt's source: count such statements apart). THE CARD IS WHAT COUNTS. Prove the row's statement (the work); the ties are given (YtjbfpeeigjjbdaaDoorTie.lean); close each card by the builder's one call (the guide's Derived/Test/ToyasCard.lean, 'card_holds'). Laid BY PROGRAM, IN A SANDBOX (cutbox-door.mjs). By AI agents, Wed Nov 11 2026. No macro, syntax, notation, axiom, sorry.
-/
import Derived.Test.YtjbfpeeigjjbdaaDoorRows
import GoSem.ClaimSeven
namespace Go.Proofs.YtjbfpeeigjjbdaaDoor
namespace Rows

/-- THE TIED CARD OF 'vizardlaw04.PrefixCovers'. -/
def prefixCoversCard : Claim7 := { stood := { row := prefixCoversRow, standIns := [], harness := (true, "eb4cf6a1515deef29e470a6aba48b51ec2c3c950c867edd6e73243791d9d4f5b"), looks := false }, kinds := [], alts := [], laidByText := true, laidKinds := [.data], laidTests := true, laidLooks := .later }
def PrefixCoversCardSaid : Prop := Claim7.holds Tryd.pinned (.plain (OpenSpec.ofChange prefixCoversSpec)) prefixCoversCard

/-- THE SECOND FORM's CARD OF 'vizardlaw04.PrefixCovers'. -/
def prefixCoversUptoCard : Claim7 := { stood := { row := prefixCoversUptoRow, standIns := [], harness := (true, "eb4cf6a1515deef29e470a6aba48b51ec2c3c950c867edd6e73243791d9d4f5b"), looks := false }, kinds := [], alts := [], laidByText := true, laidKinds := [.data], laidTests := true, laidLooks := .later }
def PrefixCoversUptoCardSaid : Prop := Claim7.holds Tryd.pinned (.plain (OpenSpec.upto prefixCoversSpec)) prefixCoversUptoCard
end Rows
end Go.Proofs.YtjbfpeeigjjbdaaDoor
