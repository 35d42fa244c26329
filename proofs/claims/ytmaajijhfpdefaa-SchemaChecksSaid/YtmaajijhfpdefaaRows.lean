/-
  No cell of these rows narrows 'for every input' (looked for: loops, veiled, ifaces, maps, wideKeys, modest, calm, conditions, laid).
  DERIVED. THE GIVEN ROWS OF THIS SEAT. 5 by the template 'for every input the law returns true; each argument reads behind the call as it read before'; 0 by the template 'total and deterministic' (their statements: YtmaajijhfpdefaaTotals.lean).
  GIVEN WITH THE SEED: the statements are not yours to turn. If you find one false, say at which input.
  Laid BY PROGRAM, IN A SANDBOX (cutbox-rows.mjs): the forced cells as the released guide's own fill.sh prints them over the translation 21bc1bf5ee60e698… (all of the seat's roots in one cut). By AI agents, Wed Nov 11 2026. No macro, syntax, notation, axiom, sorry.
-/
import Derived.Test.YtmaajijhfpdefaaChecked
import GoSem.Claim
import GoSem.ClaimJoined
import GoSem.ClaimMapViews
import Derived.JoinedTies
import Derived.KernelRfl
namespace Go.Proofs.Ytmaajijhfpdefaa
/- THE CELL 'sum', in the pinned program and in every row, IS THE sha256 OF THE DUMP (.gsa) THAT YtmaajijhfpdefaaProg.lean LOADS. Nothing in Lean hashes anything: it is a label: what it is worth is what the hold of that sum in a sandbox is worth. -/
noncomputable def Try.pinned : Pinned := { name := "ytmaajijhfpdefaa", sum := "21bc1bf5ee60e69867ed8c465d053c733c122e922070b2a93b84eddb8290b000", checked := Try.checked }
namespace Rows
def none {H : Type} : Left H := { results := [], args := [] }

/-- 'peeragelaw08.SchemaFinds': WHATEVER THE INPUT: true; the input reads as it did. -/
def schemaFindsSpec : ChangeSpec := { name := "schemaFinds", fn := fun _ => fun
  | [d] => { results := [.lit (.bool true)], args := [d] }
  | _ => none }
def schemaFindsRow : OpenClaim := { program := "ytmaajijhfpdefaa", sum := "21bc1bf5ee60e69867ed8c465d053c733c122e922070b2a93b84eddb8290b000", func := "peerage/peeragelaw08.SchemaFinds", spec := "schemaFinds", apart := false }
def SchemaFindsSaid : Prop := schemaFindsRow.holds Try.pinned (OpenSpec.ofChange schemaFindsSpec)

/-- ITS FALSE NEIGHBOUR: 'it returns false'. Refute it at one input. -/
def schemaFindsWrong : ChangeSpec := { name := "schemaFinds", fn := fun _ => fun
  | [d] => { results := [.lit (.bool false)], args := [d] }
  | _ => none }
def SchemaFindsWrongFalsely : Prop := schemaFindsRow.holds Try.pinned (OpenSpec.ofChange schemaFindsWrong)

/-- 'peeragelaw08.SchemaNames': WHATEVER THE INPUT: true; the input reads as it did. -/
def schemaNamesSpec : ChangeSpec := { name := "schemaNames", fn := fun _ => fun
  | [d] => { results := [.lit (.bool true)], args := [d] }
  | _ => none }
def schemaNamesRow : OpenClaim := { program := "ytmaajijhfpdefaa", sum := "21bc1bf5ee60e69867ed8c465d053c733c122e922070b2a93b84eddb8290b000", func := "peerage/peeragelaw08.SchemaNames", spec := "schemaNames", apart := false }
def SchemaNamesSaid : Prop := schemaNamesRow.holds Try.pinned (OpenSpec.ofChange schemaNamesSpec)

/-- ITS FALSE NEIGHBOUR: 'it returns false'. Refute it at one input. -/
def schemaNamesWrong : ChangeSpec := { name := "schemaNames", fn := fun _ => fun
  | [d] => { results := [.lit (.bool false)], args := [d] }
  | _ => none }
def SchemaNamesWrongFalsely : Prop := schemaNamesRow.holds Try.pinned (OpenSpec.ofChange schemaNamesWrong)

/-- 'peeragelaw08.SchemaMore': WHATEVER THE INPUT: true; the input reads as it did. -/
def schemaMoreSpec : ChangeSpec := { name := "schemaMore", fn := fun _ => fun
  | [d1, d2, d3] => { results := [.lit (.bool true)], args := [d1, d2, d3] }
  | _ => none }
def schemaMoreRow : OpenClaim := { program := "ytmaajijhfpdefaa", sum := "21bc1bf5ee60e69867ed8c465d053c733c122e922070b2a93b84eddb8290b000", func := "peerage/peeragelaw08.SchemaMore", spec := "schemaMore", unfollowed := true, recurses := true, apart := false }
def SchemaMoreSaid : Prop := schemaMoreRow.holds Try.pinned (OpenSpec.ofChange schemaMoreSpec)

/-- ITS FALSE NEIGHBOUR: 'it returns false'. Refute it at one input. -/
def schemaMoreWrong : ChangeSpec := { name := "schemaMore", fn := fun _ => fun
  | [d1, d2, d3] => { results := [.lit (.bool false)], args := [d1, d2, d3] }
  | _ => none }
def SchemaMoreWrongFalsely : Prop := schemaMoreRow.holds Try.pinned (OpenSpec.ofChange schemaMoreWrong)

/-- 'peeragelaw08.SchemaChecks': WHATEVER THE INPUT: true; the input reads as it did. -/
def schemaChecksSpec : ChangeSpec := { name := "schemaChecks", fn := fun _ => fun
  | [d1, d2] => { results := [.lit (.bool true)], args := [d1, d2] }
  | _ => none }
def schemaChecksRow : OpenClaim := { program := "ytmaajijhfpdefaa", sum := "21bc1bf5ee60e69867ed8c465d053c733c122e922070b2a93b84eddb8290b000", func := "peerage/peeragelaw08.SchemaChecks", spec := "schemaChecks", unfollowed := true, recurses := true, apart := false }
def SchemaChecksSaid : Prop := schemaChecksRow.holds Try.pinned (OpenSpec.ofChange schemaChecksSpec)

/-- ITS FALSE NEIGHBOUR: 'it returns false'. Refute it at one input. -/
def schemaChecksWrong : ChangeSpec := { name := "schemaChecks", fn := fun _ => fun
  | [d1, d2] => { results := [.lit (.bool false)], args := [d1, d2] }
  | _ => none }
def SchemaChecksWrongFalsely : Prop := schemaChecksRow.holds Try.pinned (OpenSpec.ofChange schemaChecksWrong)

/-- 'peeragelaw08.SchemaNeeds': WHATEVER THE INPUT: true; the input reads as it did. -/
def schemaNeedsSpec : ChangeSpec := { name := "schemaNeeds", fn := fun _ => fun
  | [d1, d2] => { results := [.lit (.bool true)], args := [d1, d2] }
  | _ => none }
def schemaNeedsRow : OpenClaim := { program := "ytmaajijhfpdefaa", sum := "21bc1bf5ee60e69867ed8c465d053c733c122e922070b2a93b84eddb8290b000", func := "peerage/peeragelaw08.SchemaNeeds", spec := "schemaNeeds", unfollowed := true, recurses := true, apart := false }
def SchemaNeedsSaid : Prop := schemaNeedsRow.holds Try.pinned (OpenSpec.ofChange schemaNeedsSpec)

/-- ITS FALSE NEIGHBOUR: 'it returns false'. Refute it at one input. -/
def schemaNeedsWrong : ChangeSpec := { name := "schemaNeeds", fn := fun _ => fun
  | [d1, d2] => { results := [.lit (.bool false)], args := [d1, d2] }
  | _ => none }
def SchemaNeedsWrongFalsely : Prop := schemaNeedsRow.holds Try.pinned (OpenSpec.ofChange schemaNeedsWrong)

/- THE SECOND FORM. 'bulk': how many values and letters a reading holds, each counted each time it is reached (what is shared counts as often as it is met; a slice's spare places count too). A statement '..UptoSaid' is the law's where the arguments, and the package variables that the reading takes, are together of bulk at most 1048576: NARROWER than '..Said'. Prove '..Said' where nothing that the law and all that it calls make is longer than what came in: it says more and counts as full. Else prove '..UptoSaid'. A law counts once. -/
mutual
def uptoBulk {H : Type} : DataW H → Nat
  | .lit (.string bytes) => bytes.length + 1
  | .lit _ => 1
  | .nil => 1
  | .ptr d => uptoBulk d + 1
  | .slice elems spare => uptoBulkAll elems + uptoBulkAll spare + 1
  | .agg parts => uptoBulkAll parts + 1
  | .iface _ d => uptoBulk d + 1
  | .map entries => uptoBulkEntries entries + 1
  | .held _ => 1
def uptoBulkAll {H : Type} : List (DataW H) → Nat
  | [] => 0
  | d :: r => uptoBulk d + uptoBulkAll r
def uptoBulkEntries {H : Type} : List (Lit × DataW H) → Nat
  | [] => 0
  | x :: r => uptoBulkEntry x + uptoBulkEntries r
def uptoBulkEntry {H : Type} : Lit × DataW H → Nat
  | (.string bytes, d) => bytes.length + uptoBulk d + 1
  | (_, d) => uptoBulk d + 1
 end
def uptoSmall : (H : Type) → List (DataW H) → Bool := fun _ ds => decide (uptoBulkAll ds ≤ 1048576)
def OpenSpec.upto (s : _root_.Go.ChangeSpec) : _root_.Go.OpenSpec := { _root_.Go.OpenSpec.ofChange s with cond := some uptoSmall }

/-- 'peeragelaw08.SchemaFinds', WHERE WHAT IT READS IS OF BULK AT MOST 1048576: true; the input reads as it did. -/
def schemaFindsUptoRow : OpenClaim := { program := "ytmaajijhfpdefaa", sum := "21bc1bf5ee60e69867ed8c465d053c733c122e922070b2a93b84eddb8290b000", func := "peerage/peeragelaw08.SchemaFinds", spec := "schemaFinds", apart := false, narrowed := true }
def SchemaFindsUptoSaid : Prop := schemaFindsUptoRow.holds Try.pinned (OpenSpec.upto schemaFindsSpec)

/-- 'peeragelaw08.SchemaNames', WHERE WHAT IT READS IS OF BULK AT MOST 1048576: true; the input reads as it did. -/
def schemaNamesUptoRow : OpenClaim := { program := "ytmaajijhfpdefaa", sum := "21bc1bf5ee60e69867ed8c465d053c733c122e922070b2a93b84eddb8290b000", func := "peerage/peeragelaw08.SchemaNames", spec := "schemaNames", apart := false, narrowed := true }
def SchemaNamesUptoSaid : Prop := schemaNamesUptoRow.holds Try.pinned (OpenSpec.upto schemaNamesSpec)

/-- 'peeragelaw08.SchemaMore', WHERE WHAT IT READS IS OF BULK AT MOST 1048576: true; the input reads as it did. -/
def schemaMoreUptoRow : OpenClaim := { program := "ytmaajijhfpdefaa", sum := "21bc1bf5ee60e69867ed8c465d053c733c122e922070b2a93b84eddb8290b000", func := "peerage/peeragelaw08.SchemaMore", spec := "schemaMore", unfollowed := true, recurses := true, apart := false, narrowed := true }
def SchemaMoreUptoSaid : Prop := schemaMoreUptoRow.holds Try.pinned (OpenSpec.upto schemaMoreSpec)

/-- 'peeragelaw08.SchemaChecks', WHERE WHAT IT READS IS OF BULK AT MOST 1048576: true; the input reads as it did. -/
def schemaChecksUptoRow : OpenClaim := { program := "ytmaajijhfpdefaa", sum := "21bc1bf5ee60e69867ed8c465d053c733c122e922070b2a93b84eddb8290b000", func := "peerage/peeragelaw08.SchemaChecks", spec := "schemaChecks", unfollowed := true, recurses := true, apart := false, narrowed := true }
def SchemaChecksUptoSaid : Prop := schemaChecksUptoRow.holds Try.pinned (OpenSpec.upto schemaChecksSpec)

/-- 'peeragelaw08.SchemaNeeds', WHERE WHAT IT READS IS OF BULK AT MOST 1048576: true; the input reads as it did. -/
def schemaNeedsUptoRow : OpenClaim := { program := "ytmaajijhfpdefaa", sum := "21bc1bf5ee60e69867ed8c465d053c733c122e922070b2a93b84eddb8290b000", func := "peerage/peeragelaw08.SchemaNeeds", spec := "schemaNeeds", unfollowed := true, recurses := true, apart := false, narrowed := true }
def SchemaNeedsUptoSaid : Prop := schemaNeedsUptoRow.holds Try.pinned (OpenSpec.upto schemaNeedsSpec)

end Rows
end Go.Proofs.Ytmaajijhfpdefaa
