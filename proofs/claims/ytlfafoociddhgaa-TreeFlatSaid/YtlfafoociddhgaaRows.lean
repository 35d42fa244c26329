/-
  No cell of these rows narrows 'for every input' (looked for: loops, veiled, ifaces, maps, wideKeys, modest, calm, conditions, laid).
  DERIVED. THE GIVEN ROWS OF THIS SEAT. 2 by the template 'for every input the law returns true; each argument reads behind the call as it read before'; 0 by the template 'total and deterministic' (their statements: YtlfafoociddhgaaTotals.lean).
  GIVEN WITH THE SEED: the statements are not yours to turn. If you find one false, say at which input.
  Laid BY PROGRAM, IN A SANDBOX (cutbox-rows.mjs): the forced cells as the released guide's own fill.sh prints them over the translation 6a8971d685ef020a… (all of the seat's roots in one cut). By AI agents, Wed Nov 11 2026. No macro, syntax, notation, axiom, sorry.
-/
import Derived.Test.YtlfafoociddhgaaChecked
import GoSem.Claim
import GoSem.ClaimJoined
import GoSem.ClaimMapViews
import Derived.JoinedTies
import Derived.KernelRfl
namespace Go.Proofs.Ytlfafoociddhgaa
/- THE CELL 'sum', in the pinned program and in every row, IS THE sha256 OF THE DUMP (.gsa) THAT YtlfafoociddhgaaProg.lean LOADS. Nothing in Lean hashes anything: it is a label: what it is worth is what the hold of that sum in a sandbox is worth. -/
noncomputable def Try.pinned : Pinned := { name := "ytlfafoociddhgaa", sum := "6a8971d685ef020a3991d126e4bc7538f37ebbdb9b1443247ef3295574310414", checked := Try.checked }
namespace Rows
def none {H : Type} : Left H := { results := [], args := [] }

/-- 'peeragelaw19.TreeFlat': WHATEVER THE INPUT: true; the input reads as it did. -/
def treeFlatSpec : ChangeSpec := { name := "treeFlat", fn := fun _ => fun
  | [d1, d2] => { results := [.lit (.bool true)], args := [d1, d2] }
  | _ => none }
def treeFlatRow : OpenClaim := { program := "ytlfafoociddhgaa", sum := "6a8971d685ef020a3991d126e4bc7538f37ebbdb9b1443247ef3295574310414", func := "peerage/peeragelaw19.TreeFlat", spec := "treeFlat", inPlace := ["internal/abi.NoEscape", "internal/bytealg.MakeNoZero", "internal/bytealg.abigen_runtime_cmpstring"], unfollowed := true, recurses := true, apart := false }
def TreeFlatSaid : Prop := treeFlatRow.holds Try.pinned (OpenSpec.ofChange treeFlatSpec)

/-- ITS FALSE NEIGHBOUR: 'it returns false'. Refute it at one input. -/
def treeFlatWrong : ChangeSpec := { name := "treeFlat", fn := fun _ => fun
  | [d1, d2] => { results := [.lit (.bool false)], args := [d1, d2] }
  | _ => none }
def TreeFlatWrongFalsely : Prop := treeFlatRow.holds Try.pinned (OpenSpec.ofChange treeFlatWrong)

/-- 'peeragelaw19.TreeFamily': WHATEVER THE INPUT: true; the input reads as it did. -/
def treeFamilySpec : ChangeSpec := { name := "treeFamily", fn := fun _ => fun
  | [d1, d2] => { results := [.lit (.bool true)], args := [d1, d2] }
  | _ => none }
def treeFamilyRow : OpenClaim := { program := "ytlfafoociddhgaa", sum := "6a8971d685ef020a3991d126e4bc7538f37ebbdb9b1443247ef3295574310414", func := "peerage/peeragelaw19.TreeFamily", spec := "treeFamily", inPlace := ["math.Float64frombits", "math.Float64bits", "internal/abi.NoEscape", "internal/bytealg.MakeNoZero", "internal/bytealg.abigen_runtime_cmpstring"], unfollowed := true, recurses := true, apart := false }
def TreeFamilySaid : Prop := treeFamilyRow.holds Try.pinned (OpenSpec.ofChange treeFamilySpec)

/-- ITS FALSE NEIGHBOUR: 'it returns false'. Refute it at one input. -/
def treeFamilyWrong : ChangeSpec := { name := "treeFamily", fn := fun _ => fun
  | [d1, d2] => { results := [.lit (.bool false)], args := [d1, d2] }
  | _ => none }
def TreeFamilyWrongFalsely : Prop := treeFamilyRow.holds Try.pinned (OpenSpec.ofChange treeFamilyWrong)

/- THE SECOND FORM. 'bulk': how many values and letters a reading holds, each counted each time it is reached (what is shared counts as often as it is met; a slice's spare places count too). A statement '..UptoSaid' is the law's where the arguments, and the package variables that the reading takes, are together of bulk at most 1048576: NARROWER than '..Said'. Prove '..Said' where nothing that the law and all that it calls make is longer than what came in: it says more and counts as full. Else prove '..UptoSaid'. A law counts once. -/
mutual
def uptoBulk {H : Type} : DataW H → Nat
  | .lit (.string bytes) => bytes.length + 1
  | .lit _ => 1
  | .nil => 1
  | .ptr d => uptoBulk d + 1
  | .slice elems spare => uptoBulkAll elems + uptoBulkAll spare + 1
  | .agg parts => uptoBulkAll parts + 1
  | .iface _ d => uptoBulk d + 1
  | .map entries => uptoBulkEntries entries + 1
  | .held _ => 1
def uptoBulkAll {H : Type} : List (DataW H) → Nat
  | [] => 0
  | d :: r => uptoBulk d + uptoBulkAll r
def uptoBulkEntries {H : Type} : List (Lit × DataW H) → Nat
  | [] => 0
  | x :: r => uptoBulkEntry x + uptoBulkEntries r
def uptoBulkEntry {H : Type} : Lit × DataW H → Nat
  | (.string bytes, d) => bytes.length + uptoBulk d + 1
  | (_, d) => uptoBulk d + 1
 end
def uptoSmall : (H : Type) → List (DataW H) → Bool := fun _ ds => decide (uptoBulkAll ds ≤ 1048576)
def OpenSpec.upto (s : _root_.Go.ChangeSpec) : _root_.Go.OpenSpec := { _root_.Go.OpenSpec.ofChange s with cond := some uptoSmall }

/-- 'peeragelaw19.TreeFlat', WHERE WHAT IT READS IS OF BULK AT MOST 1048576: true; the input reads as it did. -/
def treeFlatUptoRow : OpenClaim := { program := "ytlfafoociddhgaa", sum := "6a8971d685ef020a3991d126e4bc7538f37ebbdb9b1443247ef3295574310414", func := "peerage/peeragelaw19.TreeFlat", spec := "treeFlat", inPlace := ["internal/abi.NoEscape", "internal/bytealg.MakeNoZero", "internal/bytealg.abigen_runtime_cmpstring"], unfollowed := true, recurses := true, apart := false, narrowed := true }
def TreeFlatUptoSaid : Prop := treeFlatUptoRow.holds Try.pinned (OpenSpec.upto treeFlatSpec)

/-- 'peeragelaw19.TreeFamily', WHERE WHAT IT READS IS OF BULK AT MOST 1048576: true; the input reads as it did. -/
def treeFamilyUptoRow : OpenClaim := { program := "ytlfafoociddhgaa", sum := "6a8971d685ef020a3991d126e4bc7538f37ebbdb9b1443247ef3295574310414", func := "peerage/peeragelaw19.TreeFamily", spec := "treeFamily", inPlace := ["math.Float64frombits", "math.Float64bits", "internal/abi.NoEscape", "internal/bytealg.MakeNoZero", "internal/bytealg.abigen_runtime_cmpstring"], unfollowed := true, recurses := true, apart := false, narrowed := true }
def TreeFamilyUptoSaid : Prop := treeFamilyUptoRow.holds Try.pinned (OpenSpec.upto treeFamilySpec)

end Rows
end Go.Proofs.Ytlfafoociddhgaa
