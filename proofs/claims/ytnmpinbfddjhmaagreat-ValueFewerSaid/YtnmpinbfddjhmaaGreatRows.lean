/-
  No cell of these rows narrows 'for every input' (looked for: loops, veiled, ifaces, maps, wideKeys, modest, calm, conditions, laid).
  DERIVED. THE GIVEN ROWS OF THIS SEAT. 3 by the template 'for every input the law returns true; each argument reads behind the call as it read before'; 0 by the template 'total and deterministic' (their statements: YtnmpinbfddjhmaaGreatTotals.lean).
  GIVEN WITH THE SEED: the statements are not yours to turn. If you find one false, say at which input.
  Laid BY PROGRAM, IN A SANDBOX (cutbox-rows.mjs): the forced cells as the released guide's own fill.sh prints them over the translation 12017d1ef16f5357… (all of the seat's roots in one cut). By AI agents, Wed Nov 11 2026. No macro, syntax, notation, axiom, sorry.
-/
import Derived.Test.YtnmpinbfddjhmaaGreatChecked
import GoSem.Claim
import GoSem.ClaimJoined
import GoSem.ClaimMapViews
import Derived.JoinedTies
import Derived.KernelRfl
namespace Go.Proofs.YtnmpinbfddjhmaaGreat
/- THE CELL 'sum', in the pinned program and in every row, IS THE sha256 OF THE DUMP (.gsa) THAT YtnmpinbfddjhmaaGreatProg.lean LOADS. Nothing in Lean hashes anything: it is a label: what it is worth is what the hold of that sum in a sandbox is worth. -/
noncomputable def Tryz.pinned : Pinned := { name := "ytnmpinbfddjhmaagreat", sum := "12017d1ef16f5357d9e9bed8f17c4bd02fb36480e4e3769847a5fd3d319c06c6", checked := Tryz.checked }
namespace Rows
def none {H : Type} : Left H := { results := [], args := [] }

/-- 'peeragelaw09.ValueSought': WHATEVER THE INPUT: true; the input reads as it did. -/
def valueSoughtSpec : ChangeSpec := { name := "valueSought", fn := fun _ => fun
  | [d1, d2, d3] => { results := [.lit (.bool true)], args := [d1, d2, d3] }
  | _ => none }
def valueSoughtRow : OpenClaim := { program := "ytnmpinbfddjhmaagreat", sum := "12017d1ef16f5357d9e9bed8f17c4bd02fb36480e4e3769847a5fd3d319c06c6", func := "peerage/peeragelaw09.ValueSought", spec := "valueSought", inPlace := ["internal/bytealg.IndexByteString", "internal/bytealg.IndexString", "math.Float64frombits", "math.Float64bits"], unfollowed := true, recurses := true, named := ["internal/bytealg.MaxLen"], apart := false }
def ValueSoughtSaid : Prop := valueSoughtRow.holds Tryz.pinned (OpenSpec.ofChange valueSoughtSpec)

/-- ITS FALSE NEIGHBOUR: 'it returns false'. Refute it at one input. -/
def valueSoughtWrong : ChangeSpec := { name := "valueSought", fn := fun _ => fun
  | [d1, d2, d3] => { results := [.lit (.bool false)], args := [d1, d2, d3] }
  | _ => none }
def ValueSoughtWrongFalsely : Prop := valueSoughtRow.holds Tryz.pinned (OpenSpec.ofChange valueSoughtWrong)

/-- 'peeragelaw09.ValueFewer': WHATEVER THE INPUT: true; the input reads as it did. -/
def valueFewerSpec : ChangeSpec := { name := "valueFewer", fn := fun _ => fun
  | [d1, d2, d3] => { results := [.lit (.bool true)], args := [d1, d2, d3] }
  | _ => none }
def valueFewerRow : OpenClaim := { program := "ytnmpinbfddjhmaagreat", sum := "12017d1ef16f5357d9e9bed8f17c4bd02fb36480e4e3769847a5fd3d319c06c6", func := "peerage/peeragelaw09.ValueFewer", spec := "valueFewer", inPlace := ["internal/bytealg.IndexByteString", "internal/bytealg.IndexString"], unfollowed := true, recurses := true, named := ["internal/bytealg.MaxLen"], apart := false }
def ValueFewerSaid : Prop := valueFewerRow.holds Tryz.pinned (OpenSpec.ofChange valueFewerSpec)

/-- ITS FALSE NEIGHBOUR: 'it returns false'. Refute it at one input. -/
def valueFewerWrong : ChangeSpec := { name := "valueFewer", fn := fun _ => fun
  | [d1, d2, d3] => { results := [.lit (.bool false)], args := [d1, d2, d3] }
  | _ => none }
def ValueFewerWrongFalsely : Prop := valueFewerRow.holds Tryz.pinned (OpenSpec.ofChange valueFewerWrong)

/-- 'peeragelaw09.ValueTells': WHATEVER THE INPUT: true; the input reads as it did. -/
def valueTellsSpec : ChangeSpec := { name := "valueTells", fn := fun _ => fun
  | [d1, d2, d3] => { results := [.lit (.bool true)], args := [d1, d2, d3] }
  | _ => none }
def valueTellsRow : OpenClaim := { program := "ytnmpinbfddjhmaagreat", sum := "12017d1ef16f5357d9e9bed8f17c4bd02fb36480e4e3769847a5fd3d319c06c6", func := "peerage/peeragelaw09.ValueTells", spec := "valueTells", inPlace := ["math.Float64frombits", "math.Float64bits"], unfollowed := true, recurses := true, apart := false }
def ValueTellsSaid : Prop := valueTellsRow.holds Tryz.pinned (OpenSpec.ofChange valueTellsSpec)

/-- ITS FALSE NEIGHBOUR: 'it returns false'. Refute it at one input. -/
def valueTellsWrong : ChangeSpec := { name := "valueTells", fn := fun _ => fun
  | [d1, d2, d3] => { results := [.lit (.bool false)], args := [d1, d2, d3] }
  | _ => none }
def ValueTellsWrongFalsely : Prop := valueTellsRow.holds Tryz.pinned (OpenSpec.ofChange valueTellsWrong)

/- THE SECOND FORM. 'bulk': how many values and letters a reading holds, each counted each time it is reached (what is shared counts as often as it is met; a slice's spare places count too). A statement '..UptoSaid' is the law's where the arguments, and the package variables that the reading takes, are together of bulk at most 1048576: NARROWER than '..Said'. Prove '..Said' where nothing that the law and all that it calls make is longer than what came in: it says more and counts as full. Else prove '..UptoSaid'. A law counts once. -/
mutual
def uptoBulk {H : Type} : DataW H → Nat
  | .lit (.string bytes) => bytes.length + 1
  | .lit _ => 1
  | .nil => 1
  | .ptr d => uptoBulk d + 1
  | .slice elems spare => uptoBulkAll elems + uptoBulkAll spare + 1
  | .agg parts => uptoBulkAll parts + 1
  | .iface _ d => uptoBulk d + 1
  | .map entries => uptoBulkEntries entries + 1
  | .held _ => 1
def uptoBulkAll {H : Type} : List (DataW H) → Nat
  | [] => 0
  | d :: r => uptoBulk d + uptoBulkAll r
def uptoBulkEntries {H : Type} : List (Lit × DataW H) → Nat
  | [] => 0
  | x :: r => uptoBulkEntry x + uptoBulkEntries r
def uptoBulkEntry {H : Type} : Lit × DataW H → Nat
  | (.string bytes, d) => bytes.length + uptoBulk d + 1
  | (_, d) => uptoBulk d + 1
 end
def uptoSmall : (H : Type) → List (DataW H) → Bool := fun _ ds => decide (uptoBulkAll ds ≤ 1048576)
def OpenSpec.upto (s : _root_.Go.ChangeSpec) : _root_.Go.OpenSpec := { _root_.Go.OpenSpec.ofChange s with cond := some uptoSmall }

/-- 'peeragelaw09.ValueSought', WHERE WHAT IT READS IS OF BULK AT MOST 1048576: true; the input reads as it did. -/
def valueSoughtUptoRow : OpenClaim := { program := "ytnmpinbfddjhmaagreat", sum := "12017d1ef16f5357d9e9bed8f17c4bd02fb36480e4e3769847a5fd3d319c06c6", func := "peerage/peeragelaw09.ValueSought", spec := "valueSought", inPlace := ["internal/bytealg.IndexByteString", "internal/bytealg.IndexString", "math.Float64frombits", "math.Float64bits"], unfollowed := true, recurses := true, named := ["internal/bytealg.MaxLen"], apart := false, narrowed := true }
def ValueSoughtUptoSaid : Prop := valueSoughtUptoRow.holds Tryz.pinned (OpenSpec.upto valueSoughtSpec)

/-- 'peeragelaw09.ValueFewer', WHERE WHAT IT READS IS OF BULK AT MOST 1048576: true; the input reads as it did. -/
def valueFewerUptoRow : OpenClaim := { program := "ytnmpinbfddjhmaagreat", sum := "12017d1ef16f5357d9e9bed8f17c4bd02fb36480e4e3769847a5fd3d319c06c6", func := "peerage/peeragelaw09.ValueFewer", spec := "valueFewer", inPlace := ["internal/bytealg.IndexByteString", "internal/bytealg.IndexString"], unfollowed := true, recurses := true, named := ["internal/bytealg.MaxLen"], apart := false, narrowed := true }
def ValueFewerUptoSaid : Prop := valueFewerUptoRow.holds Tryz.pinned (OpenSpec.upto valueFewerSpec)

/-- 'peeragelaw09.ValueTells', WHERE WHAT IT READS IS OF BULK AT MOST 1048576: true; the input reads as it did. -/
def valueTellsUptoRow : OpenClaim := { program := "ytnmpinbfddjhmaagreat", sum := "12017d1ef16f5357d9e9bed8f17c4bd02fb36480e4e3769847a5fd3d319c06c6", func := "peerage/peeragelaw09.ValueTells", spec := "valueTells", inPlace := ["math.Float64frombits", "math.Float64bits"], unfollowed := true, recurses := true, apart := false, narrowed := true }
def ValueTellsUptoSaid : Prop := valueTellsUptoRow.holds Tryz.pinned (OpenSpec.upto valueTellsSpec)

end Rows
end Go.Proofs.YtnmpinbfddjhmaaGreat
