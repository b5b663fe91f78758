/-
  No cell of these rows narrows 'for every input' (looked for: loops, veiled, ifaces, maps, wideKeys, modest, calm, conditions, laid).
  DERIVED. THE GIVEN ROWS OF THIS SEAT. 10 by the template 'for every input the law returns true; each argument reads behind the call as it read before'; 0 by the template 'total and deterministic' (their statements: YtjbfpeeigjjbdaaTotals.lean).
  GIVEN WITH THE SEED: the statements are not yours to turn. If you find one false, say at which input.
  Laid BY PROGRAM, IN A SANDBOX (cutbox-rows.mjs): the forced cells as the released guide's own fill.sh prints them over the translation 47e304b067cd8081… (all of the seat's roots in one cut). By AI agents, Wed Nov 11 2026. No macro, syntax, notation, axiom, sorry.
-/
import Derived.Test.YtjbfpeeigjjbdaaChecked
import GoSem.Claim
import GoSem.ClaimJoined
import GoSem.ClaimMapViews
import Derived.JoinedTies
import Derived.KernelRfl
namespace Go.Proofs.Ytjbfpeeigjjbdaa
/- THE CELL 'sum', in the pinned program and in every row, IS THE sha256 OF THE DUMP (.gsa) THAT YtjbfpeeigjjbdaaProg.lean LOADS. Nothing in Lean hashes anything: it is a label: what it is worth is what the hold of that sum in a sandbox is worth. -/
noncomputable def Try.pinned : Pinned := { name := "ytjbfpeeigjjbdaa", sum := "47e304b067cd808129ea192ac7d64c65fe688bba4f7d85a913a8c8588824141d", checked := Try.checked }
namespace Rows
def none {H : Type} : Left H := { results := [], args := [] }

/-- 'vizardlaw04.PrefixHas': WHATEVER THE INPUT: true; the input reads as it did. -/
def prefixHasSpec : ChangeSpec := { name := "prefixHas", fn := fun _ => fun
  | [d1, d2] => { results := [.lit (.bool true)], args := [d1, d2] }
  | _ => none }
def prefixHasRow : OpenClaim := { program := "ytjbfpeeigjjbdaa", sum := "47e304b067cd808129ea192ac7d64c65fe688bba4f7d85a913a8c8588824141d", func := "vizard/vizardlaw04.PrefixHas", spec := "prefixHas", apart := false }
def PrefixHasSaid : Prop := prefixHasRow.holds Try.pinned (OpenSpec.ofChange prefixHasSpec)

/-- ITS FALSE NEIGHBOUR: 'it returns false'. Refute it at one input. -/
def prefixHasWrong : ChangeSpec := { name := "prefixHas", fn := fun _ => fun
  | [d1, d2] => { results := [.lit (.bool false)], args := [d1, d2] }
  | _ => none }
def PrefixHasWrongFalsely : Prop := prefixHasRow.holds Try.pinned (OpenSpec.ofChange prefixHasWrong)

/-- 'vizardlaw22.TunnelPacks': WHATEVER THE INPUT: true; the input reads as it did. -/
def tunnelPacksSpec : ChangeSpec := { name := "tunnelPacks", fn := fun _ => fun
  | [d1, d2] => { results := [.lit (.bool true)], args := [d1, d2] }
  | _ => none }
def tunnelPacksRow : OpenClaim := { program := "ytjbfpeeigjjbdaa", sum := "47e304b067cd808129ea192ac7d64c65fe688bba4f7d85a913a8c8588824141d", func := "vizard/vizardlaw22.TunnelPacks", spec := "tunnelPacks", unfollowed := true, recurses := true, apart := false }
def TunnelPacksSaid : Prop := tunnelPacksRow.holds Try.pinned (OpenSpec.ofChange tunnelPacksSpec)

/-- ITS FALSE NEIGHBOUR: 'it returns false'. Refute it at one input. -/
def tunnelPacksWrong : ChangeSpec := { name := "tunnelPacks", fn := fun _ => fun
  | [d1, d2] => { results := [.lit (.bool false)], args := [d1, d2] }
  | _ => none }
def TunnelPacksWrongFalsely : Prop := tunnelPacksRow.holds Try.pinned (OpenSpec.ofChange tunnelPacksWrong)

/-- 'vizardlaw18.PolicyAllows': WHATEVER THE INPUT: true; the input reads as it did. -/
def policyAllowsSpec : ChangeSpec := { name := "policyAllows", fn := fun _ => fun
  | [d1, d2, d3, d4] => { results := [.lit (.bool true)], args := [d1, d2, d3, d4] }
  | _ => none }
def policyAllowsRow : OpenClaim := { program := "ytjbfpeeigjjbdaa", sum := "47e304b067cd808129ea192ac7d64c65fe688bba4f7d85a913a8c8588824141d", func := "vizard/vizardlaw18.PolicyAllows", spec := "policyAllows", apart := false }
def PolicyAllowsSaid : Prop := policyAllowsRow.holds Try.pinned (OpenSpec.ofChange policyAllowsSpec)

/-- ITS FALSE NEIGHBOUR: 'it returns false'. Refute it at one input. -/
def policyAllowsWrong : ChangeSpec := { name := "policyAllows", fn := fun _ => fun
  | [d1, d2, d3, d4] => { results := [.lit (.bool false)], args := [d1, d2, d3, d4] }
  | _ => none }
def PolicyAllowsWrongFalsely : Prop := policyAllowsRow.holds Try.pinned (OpenSpec.ofChange policyAllowsWrong)

/-- 'vizardlaw11.InboxFirst': WHATEVER THE INPUT: true; the input reads as it did. -/
def inboxFirstSpec : ChangeSpec := { name := "inboxFirst", fn := fun _ => fun
  | [d1, d2, d3] => { results := [.lit (.bool true)], args := [d1, d2, d3] }
  | _ => none }
def inboxFirstRow : OpenClaim := { program := "ytjbfpeeigjjbdaa", sum := "47e304b067cd808129ea192ac7d64c65fe688bba4f7d85a913a8c8588824141d", func := "vizard/vizardlaw11.InboxFirst", spec := "inboxFirst", apart := false }
def InboxFirstSaid : Prop := inboxFirstRow.holds Try.pinned (OpenSpec.ofChange inboxFirstSpec)

/-- ITS FALSE NEIGHBOUR: 'it returns false'. Refute it at one input. -/
def inboxFirstWrong : ChangeSpec := { name := "inboxFirst", fn := fun _ => fun
  | [d1, d2, d3] => { results := [.lit (.bool false)], args := [d1, d2, d3] }
  | _ => none }
def InboxFirstWrongFalsely : Prop := inboxFirstRow.holds Try.pinned (OpenSpec.ofChange inboxFirstWrong)

/-- 'vizardlaw11.InboxWhole': WHATEVER THE INPUT: true; the input reads as it did. -/
def inboxWholeSpec : ChangeSpec := { name := "inboxWhole", fn := fun _ => fun
  | [d1, d2, d3] => { results := [.lit (.bool true)], args := [d1, d2, d3] }
  | _ => none }
def inboxWholeRow : OpenClaim := { program := "ytjbfpeeigjjbdaa", sum := "47e304b067cd808129ea192ac7d64c65fe688bba4f7d85a913a8c8588824141d", func := "vizard/vizardlaw11.InboxWhole", spec := "inboxWhole", apart := false }
def InboxWholeSaid : Prop := inboxWholeRow.holds Try.pinned (OpenSpec.ofChange inboxWholeSpec)

/-- ITS FALSE NEIGHBOUR: 'it returns false'. Refute it at one input. -/
def inboxWholeWrong : ChangeSpec := { name := "inboxWhole", fn := fun _ => fun
  | [d1, d2, d3] => { results := [.lit (.bool false)], args := [d1, d2, d3] }
  | _ => none }
def InboxWholeWrongFalsely : Prop := inboxWholeRow.holds Try.pinned (OpenSpec.ofChange inboxWholeWrong)

/-- 'vizardlaw11.InboxFlow': WHATEVER THE INPUT: true; the input reads as it did. -/
def inboxFlowSpec : ChangeSpec := { name := "inboxFlow", fn := fun _ => fun
  | [d] => { results := [.lit (.bool true)], args := [d] }
  | _ => none }
def inboxFlowRow : OpenClaim := { program := "ytjbfpeeigjjbdaa", sum := "47e304b067cd808129ea192ac7d64c65fe688bba4f7d85a913a8c8588824141d", func := "vizard/vizardlaw11.InboxFlow", spec := "inboxFlow", apart := false }
def InboxFlowSaid : Prop := inboxFlowRow.holds Try.pinned (OpenSpec.ofChange inboxFlowSpec)

/-- ITS FALSE NEIGHBOUR: 'it returns false'. Refute it at one input. -/
def inboxFlowWrong : ChangeSpec := { name := "inboxFlow", fn := fun _ => fun
  | [d] => { results := [.lit (.bool false)], args := [d] }
  | _ => none }
def InboxFlowWrongFalsely : Prop := inboxFlowRow.holds Try.pinned (OpenSpec.ofChange inboxFlowWrong)

/-- 'vizardlaw11.InboxDoes': WHATEVER THE INPUT: true; the input reads as it did. -/
def inboxDoesSpec : ChangeSpec := { name := "inboxDoes", fn := fun _ => fun
  | [d] => { results := [.lit (.bool true)], args := [d] }
  | _ => none }
def inboxDoesRow : OpenClaim := { program := "ytjbfpeeigjjbdaa", sum := "47e304b067cd808129ea192ac7d64c65fe688bba4f7d85a913a8c8588824141d", func := "vizard/vizardlaw11.InboxDoes", spec := "inboxDoes", apart := false }
def InboxDoesSaid : Prop := inboxDoesRow.holds Try.pinned (OpenSpec.ofChange inboxDoesSpec)

/-- ITS FALSE NEIGHBOUR: 'it returns false'. Refute it at one input. -/
def inboxDoesWrong : ChangeSpec := { name := "inboxDoes", fn := fun _ => fun
  | [d] => { results := [.lit (.bool false)], args := [d] }
  | _ => none }
def InboxDoesWrongFalsely : Prop := inboxDoesRow.holds Try.pinned (OpenSpec.ofChange inboxDoesWrong)

/-- 'vizardlaw12.OutboxEnd': WHATEVER THE INPUT: true; the input reads as it did. -/
def outboxEndSpec : ChangeSpec := { name := "outboxEnd", fn := fun _ => fun
  | [d1, d2] => { results := [.lit (.bool true)], args := [d1, d2] }
  | _ => none }
def outboxEndRow : OpenClaim := { program := "ytjbfpeeigjjbdaa", sum := "47e304b067cd808129ea192ac7d64c65fe688bba4f7d85a913a8c8588824141d", func := "vizard/vizardlaw12.OutboxEnd", spec := "outboxEnd", apart := false }
def OutboxEndSaid : Prop := outboxEndRow.holds Try.pinned (OpenSpec.ofChange outboxEndSpec)

/-- ITS FALSE NEIGHBOUR: 'it returns false'. Refute it at one input. -/
def outboxEndWrong : ChangeSpec := { name := "outboxEnd", fn := fun _ => fun
  | [d1, d2] => { results := [.lit (.bool false)], args := [d1, d2] }
  | _ => none }
def OutboxEndWrongFalsely : Prop := outboxEndRow.holds Try.pinned (OpenSpec.ofChange outboxEndWrong)

/-- 'vizardlaw12.OutboxPieces': WHATEVER THE INPUT: true; the input reads as it did. -/
def outboxPiecesSpec : ChangeSpec := { name := "outboxPieces", fn := fun _ => fun
  | [d1, d2, d3] => { results := [.lit (.bool true)], args := [d1, d2, d3] }
  | _ => none }
def outboxPiecesRow : OpenClaim := { program := "ytjbfpeeigjjbdaa", sum := "47e304b067cd808129ea192ac7d64c65fe688bba4f7d85a913a8c8588824141d", func := "vizard/vizardlaw12.OutboxPieces", spec := "outboxPieces", apart := false }
def OutboxPiecesSaid : Prop := outboxPiecesRow.holds Try.pinned (OpenSpec.ofChange outboxPiecesSpec)

/-- ITS FALSE NEIGHBOUR: 'it returns false'. Refute it at one input. -/
def outboxPiecesWrong : ChangeSpec := { name := "outboxPieces", fn := fun _ => fun
  | [d1, d2, d3] => { results := [.lit (.bool false)], args := [d1, d2, d3] }
  | _ => none }
def OutboxPiecesWrongFalsely : Prop := outboxPiecesRow.holds Try.pinned (OpenSpec.ofChange outboxPiecesWrong)

/-- 'vizardlaw12.OutboxThere': WHATEVER THE INPUT: true; the input reads as it did. -/
def outboxThereSpec : ChangeSpec := { name := "outboxThere", fn := fun _ => fun
  | [d1, d2, d3, d4] => { results := [.lit (.bool true)], args := [d1, d2, d3, d4] }
  | _ => none }
def outboxThereRow : OpenClaim := { program := "ytjbfpeeigjjbdaa", sum := "47e304b067cd808129ea192ac7d64c65fe688bba4f7d85a913a8c8588824141d", func := "vizard/vizardlaw12.OutboxThere", spec := "outboxThere", apart := false }
def OutboxThereSaid : Prop := outboxThereRow.holds Try.pinned (OpenSpec.ofChange outboxThereSpec)

/-- ITS FALSE NEIGHBOUR: 'it returns false'. Refute it at one input. -/
def outboxThereWrong : ChangeSpec := { name := "outboxThere", fn := fun _ => fun
  | [d1, d2, d3, d4] => { results := [.lit (.bool false)], args := [d1, d2, d3, d4] }
  | _ => none }
def OutboxThereWrongFalsely : Prop := outboxThereRow.holds Try.pinned (OpenSpec.ofChange outboxThereWrong)

/- THE SECOND FORM. 'bulk': how many values and letters a reading holds, each counted each time it is reached (what is shared counts as often as it is met; a slice's spare places count too). A statement '..UptoSaid' is the law's where the arguments, and the package variables that the reading takes, are together of bulk at most 1048576: NARROWER than '..Said'. Prove '..Said' where nothing that the law and all that it calls make is longer than what came in: it says more and counts as full. Else prove '..UptoSaid'. A law counts once. -/
mutual
def uptoBulk {H : Type} : DataW H → Nat
  | .lit (.string bytes) => bytes.length + 1
  | .lit _ => 1
  | .nil => 1
  | .ptr d => uptoBulk d + 1
  | .slice elems spare => uptoBulkAll elems + uptoBulkAll spare + 1
  | .agg parts => uptoBulkAll parts + 1
  | .iface _ d => uptoBulk d + 1
  | .map entries => uptoBulkEntries entries + 1
  | .held _ => 1
def uptoBulkAll {H : Type} : List (DataW H) → Nat
  | [] => 0
  | d :: r => uptoBulk d + uptoBulkAll r
def uptoBulkEntries {H : Type} : List (Lit × DataW H) → Nat
  | [] => 0
  | x :: r => uptoBulkEntry x + uptoBulkEntries r
def uptoBulkEntry {H : Type} : Lit × DataW H → Nat
  | (.string bytes, d) => bytes.length + uptoBulk d + 1
  | (_, d) => uptoBulk d + 1
 end
def uptoSmall : (H : Type) → List (DataW H) → Bool := fun _ ds => decide (uptoBulkAll ds ≤ 1048576)
def OpenSpec.upto (s : _root_.Go.ChangeSpec) : _root_.Go.OpenSpec := { _root_.Go.OpenSpec.ofChange s with cond := some uptoSmall }

/-- 'vizardlaw04.PrefixHas', WHERE WHAT IT READS IS OF BULK AT MOST 1048576: true; the input reads as it did. -/
def prefixHasUptoRow : OpenClaim := { program := "ytjbfpeeigjjbdaa", sum := "47e304b067cd808129ea192ac7d64c65fe688bba4f7d85a913a8c8588824141d", func := "vizard/vizardlaw04.PrefixHas", spec := "prefixHas", apart := false, narrowed := true }
def PrefixHasUptoSaid : Prop := prefixHasUptoRow.holds Try.pinned (OpenSpec.upto prefixHasSpec)

/-- 'vizardlaw22.TunnelPacks', WHERE WHAT IT READS IS OF BULK AT MOST 1048576: true; the input reads as it did. -/
def tunnelPacksUptoRow : OpenClaim := { program := "ytjbfpeeigjjbdaa", sum := "47e304b067cd808129ea192ac7d64c65fe688bba4f7d85a913a8c8588824141d", func := "vizard/vizardlaw22.TunnelPacks", spec := "tunnelPacks", unfollowed := true, recurses := true, apart := false, narrowed := true }
def TunnelPacksUptoSaid : Prop := tunnelPacksUptoRow.holds Try.pinned (OpenSpec.upto tunnelPacksSpec)

/-- 'vizardlaw18.PolicyAllows', WHERE WHAT IT READS IS OF BULK AT MOST 1048576: true; the input reads as it did. -/
def policyAllowsUptoRow : OpenClaim := { program := "ytjbfpeeigjjbdaa", sum := "47e304b067cd808129ea192ac7d64c65fe688bba4f7d85a913a8c8588824141d", func := "vizard/vizardlaw18.PolicyAllows", spec := "policyAllows", apart := false, narrowed := true }
def PolicyAllowsUptoSaid : Prop := policyAllowsUptoRow.holds Try.pinned (OpenSpec.upto policyAllowsSpec)

/-- 'vizardlaw11.InboxFirst', WHERE WHAT IT READS IS OF BULK AT MOST 1048576: true; the input reads as it did. -/
def inboxFirstUptoRow : OpenClaim := { program := "ytjbfpeeigjjbdaa", sum := "47e304b067cd808129ea192ac7d64c65fe688bba4f7d85a913a8c8588824141d", func := "vizard/vizardlaw11.InboxFirst", spec := "inboxFirst", apart := false, narrowed := true }
def InboxFirstUptoSaid : Prop := inboxFirstUptoRow.holds Try.pinned (OpenSpec.upto inboxFirstSpec)

/-- 'vizardlaw11.InboxWhole', WHERE WHAT IT READS IS OF BULK AT MOST 1048576: true; the input reads as it did. -/
def inboxWholeUptoRow : OpenClaim := { program := "ytjbfpeeigjjbdaa", sum := "47e304b067cd808129ea192ac7d64c65fe688bba4f7d85a913a8c8588824141d", func := "vizard/vizardlaw11.InboxWhole", spec := "inboxWhole", apart := false, narrowed := true }
def InboxWholeUptoSaid : Prop := inboxWholeUptoRow.holds Try.pinned (OpenSpec.upto inboxWholeSpec)

/-- 'vizardlaw11.InboxFlow', WHERE WHAT IT READS IS OF BULK AT MOST 1048576: true; the input reads as it did. -/
def inboxFlowUptoRow : OpenClaim := { program := "ytjbfpeeigjjbdaa", sum := "47e304b067cd808129ea192ac7d64c65fe688bba4f7d85a913a8c8588824141d", func := "vizard/vizardlaw11.InboxFlow", spec := "inboxFlow", apart := false, narrowed := true }
def InboxFlowUptoSaid : Prop := inboxFlowUptoRow.holds Try.pinned (OpenSpec.upto inboxFlowSpec)

/-- 'vizardlaw11.InboxDoes', WHERE WHAT IT READS IS OF BULK AT MOST 1048576: true; the input reads as it did. -/
def inboxDoesUptoRow : OpenClaim := { program := "ytjbfpeeigjjbdaa", sum := "47e304b067cd808129ea192ac7d64c65fe688bba4f7d85a913a8c8588824141d", func := "vizard/vizardlaw11.InboxDoes", spec := "inboxDoes", apart := false, narrowed := true }
def InboxDoesUptoSaid : Prop := inboxDoesUptoRow.holds Try.pinned (OpenSpec.upto inboxDoesSpec)

/-- 'vizardlaw12.OutboxEnd', WHERE WHAT IT READS IS OF BULK AT MOST 1048576: true; the input reads as it did. -/
def outboxEndUptoRow : OpenClaim := { program := "ytjbfpeeigjjbdaa", sum := "47e304b067cd808129ea192ac7d64c65fe688bba4f7d85a913a8c8588824141d", func := "vizard/vizardlaw12.OutboxEnd", spec := "outboxEnd", apart := false, narrowed := true }
def OutboxEndUptoSaid : Prop := outboxEndUptoRow.holds Try.pinned (OpenSpec.upto outboxEndSpec)

/-- 'vizardlaw12.OutboxPieces', WHERE WHAT IT READS IS OF BULK AT MOST 1048576: true; the input reads as it did. -/
def outboxPiecesUptoRow : OpenClaim := { program := "ytjbfpeeigjjbdaa", sum := "47e304b067cd808129ea192ac7d64c65fe688bba4f7d85a913a8c8588824141d", func := "vizard/vizardlaw12.OutboxPieces", spec := "outboxPieces", apart := false, narrowed := true }
def OutboxPiecesUptoSaid : Prop := outboxPiecesUptoRow.holds Try.pinned (OpenSpec.upto outboxPiecesSpec)

/-- 'vizardlaw12.OutboxThere', WHERE WHAT IT READS IS OF BULK AT MOST 1048576: true; the input reads as it did. -/
def outboxThereUptoRow : OpenClaim := { program := "ytjbfpeeigjjbdaa", sum := "47e304b067cd808129ea192ac7d64c65fe688bba4f7d85a913a8c8588824141d", func := "vizard/vizardlaw12.OutboxThere", spec := "outboxThere", apart := false, narrowed := true }
def OutboxThereUptoSaid : Prop := outboxThereUptoRow.holds Try.pinned (OpenSpec.upto outboxThereSpec)

end Rows
end Go.Proofs.Ytjbfpeeigjjbdaa
