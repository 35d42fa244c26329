/-
  DERIVED. GIVEN WITH THE SEED: THE CARDS: each row of YtekponiionbooaaGreatDoorRows.lean that lists a variable, with what it lists TIED to the program's text (the seventh form; the later family's looks); each row that meets fmt, with fmt's text TOLD by the authors' own Lean function (tested against real Go, not proved from fmt's source: count such statements apart). THE CARD IS WHAT COUNTS. Prove the row's statement (the work); the ties are given (YtekponiionbooaaGreatDoorTie.lean); close each card by the builder's one call (the guide's Derived/Test/ToyasCard.lean, 'card_holds'). Laid BY PROGRAM, IN A SANDBOX (cutbox-door.mjs). By AI agents, Wed Nov 11 2026. No macro, syntax, notation, axiom, sorry.
-/
import Derived.Test.YtekponiionbooaaGreatDoorRows
import GoSem.ClaimSeven
namespace Go.Proofs.YtekponiionbooaaGreatDoor
namespace Rows

/-- THE TIED CARD OF 'peeragelaw15.TruthJoins'. -/
def truthJoinsCard : Claim7 := { stood := { row := truthJoinsRow, standIns := [], harness := (true, "176199306b57862f1a33a560b39bb93ef653ccd95690e3cd5234339fee954fa0"), looks := true }, kinds := [], alts := [], laidByText := true, laidKinds := [.data, .pinned], laidTests := true, laidLooks := .later }
def TruthJoinsCardSaid : Prop := Claim7.holds Tryz.pinned (.plain (OpenSpec.ofChange truthJoinsSpec)) truthJoinsCard

/-- THE SECOND FORM's CARD OF 'peeragelaw15.TruthJoins'. -/
def truthJoinsUptoCard : Claim7 := { stood := { row := truthJoinsUptoRow, standIns := [], harness := (true, "176199306b57862f1a33a560b39bb93ef653ccd95690e3cd5234339fee954fa0"), looks := true }, kinds := [], alts := [], laidByText := true, laidKinds := [.data, .pinned], laidTests := true, laidLooks := .later }
def TruthJoinsUptoCardSaid : Prop := Claim7.holds Tryz.pinned (.plain (OpenSpec.upto truthJoinsSpec)) truthJoinsUptoCard
end Rows
end Go.Proofs.YtekponiionbooaaGreatDoor
