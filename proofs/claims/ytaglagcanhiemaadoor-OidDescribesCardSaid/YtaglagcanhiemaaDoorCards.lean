/-
  DERIVED. GIVEN WITH THE SEED: THE CARDS: each row of YtaglagcanhiemaaDoorRows.lean that lists a variable, with what it lists TIED to the program's text (the seventh form; the later family's looks); each row that meets fmt, with fmt's text TOLD by the authors' own Lean function (tested against real Go, not proved from fmt's source: count such statements apart). THE CARD IS WHAT COUNTS. Prove the row's statement (the work); the ties are given (YtaglagcanhiemaaDoorTie.lean); close each card by the builder's one call (the guide's Derived/Test/ToyasCard.lean, 'card_holds'). Laid BY PROGRAM, IN A SANDBOX (cutbox-door.mjs). By AI agents, Wed Nov 11 2026. No macro, syntax, notation, axiom, sorry.
-/
import Derived.Test.YtaglagcanhiemaaDoorRows
import GoSem.ClaimSeven
namespace Go.Proofs.YtaglagcanhiemaaDoor
namespace Rows

/-- THE TIED CARD OF 'peeragelaw07.OidBack'. -/
def oidBackCard : Claim7 := { stood := { row := oidBackRow, standIns := [], harness := (true, "42c11fe81e663f7f618ecc81ca3ac1461f81d72f344e1afb10dadda5cf5290e3"), looks := false }, kinds := [], alts := [], laidByText := true, laidKinds := [.data, .pinned], laidTests := true, laidLooks := .later }
def OidBackCardSaid : Prop := Claim7.holds Tryd.pinned (.plain (OpenSpec.ofChange oidBackSpec)) oidBackCard

/-- THE TIED CARD OF 'peeragelaw07.OidTells'. -/
def oidTellsCard : Claim7 := { stood := { row := oidTellsRow, standIns := [], harness := (true, "42c11fe81e663f7f618ecc81ca3ac1461f81d72f344e1afb10dadda5cf5290e3"), looks := false }, kinds := [], alts := [], laidByText := true, laidKinds := [.data, .pinned], laidTests := true, laidLooks := .later }
def OidTellsCardSaid : Prop := Claim7.holds Tryd.pinned (.plain (OpenSpec.ofChange oidTellsSpec)) oidTellsCard

/-- THE TIED CARD OF 'peeragelaw07.OidDescribes'. -/
def oidDescribesCard : Claim7 := { stood := { row := oidDescribesRow, standIns := [], harness := (true, "42c11fe81e663f7f618ecc81ca3ac1461f81d72f344e1afb10dadda5cf5290e3"), looks := false }, kinds := [], alts := [], laidByText := true, laidKinds := [.data, .pinned], laidTests := true, laidLooks := .later }
def OidDescribesCardSaid : Prop := Claim7.holds Tryd.pinned (.plain (OpenSpec.ofChange oidDescribesSpec)) oidDescribesCard

/-- THE TIED CARD OF 'peeragelaw07.OidAgain'. -/
def oidAgainCard : Claim7 := { stood := { row := oidAgainRow, standIns := [], harness := (true, "42c11fe81e663f7f618ecc81ca3ac1461f81d72f344e1afb10dadda5cf5290e3"), looks := false }, kinds := [], alts := [], laidByText := true, laidKinds := [.data, .pinned], laidTests := true, laidLooks := .later }
def OidAgainCardSaid : Prop := Claim7.holds Tryd.pinned (.plain (OpenSpec.ofChange oidAgainSpec)) oidAgainCard

/-- THE SECOND FORM's CARD OF 'peeragelaw07.OidBack'. -/
def oidBackUptoCard : Claim7 := { stood := { row := oidBackUptoRow, standIns := [], harness := (true, "42c11fe81e663f7f618ecc81ca3ac1461f81d72f344e1afb10dadda5cf5290e3"), looks := false }, kinds := [], alts := [], laidByText := true, laidKinds := [.data, .pinned], laidTests := true, laidLooks := .later }
def OidBackUptoCardSaid : Prop := Claim7.holds Tryd.pinned (.plain (OpenSpec.upto oidBackSpec)) oidBackUptoCard

/-- THE SECOND FORM's CARD OF 'peeragelaw07.OidTells'. -/
def oidTellsUptoCard : Claim7 := { stood := { row := oidTellsUptoRow, standIns := [], harness := (true, "42c11fe81e663f7f618ecc81ca3ac1461f81d72f344e1afb10dadda5cf5290e3"), looks := false }, kinds := [], alts := [], laidByText := true, laidKinds := [.data, .pinned], laidTests := true, laidLooks := .later }
def OidTellsUptoCardSaid : Prop := Claim7.holds Tryd.pinned (.plain (OpenSpec.upto oidTellsSpec)) oidTellsUptoCard

/-- THE SECOND FORM's CARD OF 'peeragelaw07.OidDescribes'. -/
def oidDescribesUptoCard : Claim7 := { stood := { row := oidDescribesUptoRow, standIns := [], harness := (true, "42c11fe81e663f7f618ecc81ca3ac1461f81d72f344e1afb10dadda5cf5290e3"), looks := false }, kinds := [], alts := [], laidByText := true, laidKinds := [.data, .pinned], laidTests := true, laidLooks := .later }
def OidDescribesUptoCardSaid : Prop := Claim7.holds Tryd.pinned (.plain (OpenSpec.upto oidDescribesSpec)) oidDescribesUptoCard

/-- THE SECOND FORM's CARD OF 'peeragelaw07.OidAgain'. -/
def oidAgainUptoCard : Claim7 := { stood := { row := oidAgainUptoRow, standIns := [], harness := (true, "42c11fe81e663f7f618ecc81ca3ac1461f81d72f344e1afb10dadda5cf5290e3"), looks := false }, kinds := [], alts := [], laidByText := true, laidKinds := [.data, .pinned], laidTests := true, laidLooks := .later }
def OidAgainUptoCardSaid : Prop := Claim7.holds Tryd.pinned (.plain (OpenSpec.upto oidAgainSpec)) oidAgainUptoCard
end Rows
end Go.Proofs.YtaglagcanhiemaaDoor
