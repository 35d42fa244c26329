/-
  DERIVED. GIVEN WITH THE SEED: THE CARDS: each row of YtneihhmjeeiomaaGreatDoorRows.lean that lists a variable, with what it lists TIED to the program's text (the seventh form; the later family's looks); each row that meets fmt, with fmt's text TOLD by the authors' own Lean function (tested against real Go, not proved from fmt's source: count such statements apart). THE CARD IS WHAT COUNTS. Prove the row's statement (the work); the ties are given (YtneihhmjeeiomaaGreatDoorTie.lean); close each card by the builder's one call (the guide's Derived/Test/ToyasCard.lean, 'card_holds'). Laid BY PROGRAM, IN A SANDBOX (cutbox-door.mjs). By AI agents, Wed Nov 11 2026. No macro, syntax, notation, axiom, sorry.
-/
import Derived.Test.YtneihhmjeeiomaaGreatDoorRows
import GoSem.ClaimSeven
namespace Go.Proofs.YtneihhmjeeiomaaGreatDoor
namespace Rows

/-- THE TIED CARD OF 'peeragelaw25.LockNobody'. -/
def lockNobodyCard : Claim7 := { stood := { row := lockNobodyRow, standIns := [], harness := (true, "185302bb444f31035d4f7641e293a4640da97427590802300340b6bad54b6b14"), looks := false }, kinds := [], alts := [], laidByText := true, laidKinds := [.data, .pinned], laidTests := true, laidLooks := .later }
def LockNobodyCardSaid : Prop := Claim7.holds Tryz.pinned (.plain (OpenSpec.ofChange lockNobodySpec)) lockNobodyCard

/-- THE SECOND FORM's CARD OF 'peeragelaw25.LockNobody'. -/
def lockNobodyUptoCard : Claim7 := { stood := { row := lockNobodyUptoRow, standIns := [], harness := (true, "185302bb444f31035d4f7641e293a4640da97427590802300340b6bad54b6b14"), looks := false }, kinds := [], alts := [], laidByText := true, laidKinds := [.data, .pinned], laidTests := true, laidLooks := .later }
def LockNobodyUptoCardSaid : Prop := Claim7.holds Tryz.pinned (.plain (OpenSpec.upto lockNobodySpec)) lockNobodyUptoCard
end Rows
end Go.Proofs.YtneihhmjeeiomaaGreatDoor
