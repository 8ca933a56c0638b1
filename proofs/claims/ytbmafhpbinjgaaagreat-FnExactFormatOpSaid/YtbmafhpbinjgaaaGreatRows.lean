/-
  No cell of these rows narrows 'for every input' (looked for: loops, veiled, ifaces, maps, wideKeys, modest, calm, conditions, laid).
  DERIVED. THE GIVEN ROWS OF THIS SEAT. 4 by the template 'for every input the law returns true; each argument reads behind the call as it read before'; 0 by the template 'total and deterministic' (their statements: YtbmafhpbinjgaaaGreatTotals.lean).
  GIVEN WITH THE SEED: the statements are not yours to turn. If you find one false, say at which input.
  Laid BY PROGRAM, IN A SANDBOX (cutbox-rows.mjs): the forced cells as the released guide's own fill.sh prints them over the translation 6d29697806af3686… (all of the seat's roots in one cut). By AI agents, Wed Nov 11 2026. No macro, syntax, notation, axiom, sorry.
-/
import Derived.Test.YtbmafhpbinjgaaaGreatChecked
import GoSem.Claim
import GoSem.ClaimJoined
import GoSem.ClaimMapViews
import Derived.JoinedTies
import Derived.KernelRfl
namespace Go.Proofs.YtbmafhpbinjgaaaGreat
/- THE CELL 'sum', in the pinned program and in every row, IS THE sha256 OF THE DUMP (.gsa) THAT YtbmafhpbinjgaaaGreatProg.lean LOADS. Nothing in Lean hashes anything: it is a label: what it is worth is what the hold of that sum in a sandbox is worth. -/
noncomputable def Tryz.pinned : Pinned := { name := "ytbmafhpbinjgaaagreat", sum := "6d29697806af368673e1905d498bf6db0b5e13d570d9af47a2fa828277aa8219", checked := Tryz.checked }
namespace Rows
def none {H : Type} : Left H := { results := [], args := [] }

/-- 'laws.FnExactFormatOp': WHATEVER THE INPUT: true; the input reads as it did. -/
def fnExactFormatOpSpec : ChangeSpec := { name := "fnExactFormatOp", fn := fun _ => fun
  | [d] => { results := [.lit (.bool true)], args := [d] }
  | _ => none }
def fnExactFormatOpRow : OpenClaim := { program := "ytbmafhpbinjgaaagreat", sum := "6d29697806af368673e1905d498bf6db0b5e13d570d9af47a2fa828277aa8219", func := "loop.example/g01920/laws.FnExactFormatOp", spec := "fnExactFormatOp", unfollowed := true, recurses := true, apart := false }
def FnExactFormatOpSaid : Prop := fnExactFormatOpRow.holds Tryz.pinned (OpenSpec.ofChange fnExactFormatOpSpec)

/-- ITS FALSE NEIGHBOUR: 'it returns false'. Refute it at one input. -/
def fnExactFormatOpWrong : ChangeSpec := { name := "fnExactFormatOp", fn := fun _ => fun
  | [d] => { results := [.lit (.bool false)], args := [d] }
  | _ => none }
def FnExactFormatOpWrongFalsely : Prop := fnExactFormatOpRow.holds Tryz.pinned (OpenSpec.ofChange fnExactFormatOpWrong)

/-- 'laws.FnExactParseOp': WHATEVER THE INPUT: true; the input reads as it did. -/
def fnExactParseOpSpec : ChangeSpec := { name := "fnExactParseOp", fn := fun _ => fun
  | [d] => { results := [.lit (.bool true)], args := [d] }
  | _ => none }
def fnExactParseOpRow : OpenClaim := { program := "ytbmafhpbinjgaaagreat", sum := "6d29697806af368673e1905d498bf6db0b5e13d570d9af47a2fa828277aa8219", func := "loop.example/g01920/laws.FnExactParseOp", spec := "fnExactParseOp", unfollowed := true, recurses := true, apart := false }
def FnExactParseOpSaid : Prop := fnExactParseOpRow.holds Tryz.pinned (OpenSpec.ofChange fnExactParseOpSpec)

/-- ITS FALSE NEIGHBOUR: 'it returns false'. Refute it at one input. -/
def fnExactParseOpWrong : ChangeSpec := { name := "fnExactParseOp", fn := fun _ => fun
  | [d] => { results := [.lit (.bool false)], args := [d] }
  | _ => none }
def FnExactParseOpWrongFalsely : Prop := fnExactParseOpRow.holds Tryz.pinned (OpenSpec.ofChange fnExactParseOpWrong)

/-- 'laws.FnCheckpointRoundTrip': WHATEVER THE INPUT: true; the input reads as it did. -/
def fnCheckpointRoundTripSpec : ChangeSpec := { name := "fnCheckpointRoundTrip", fn := fun _ => fun
  | [d] => { results := [.lit (.bool true)], args := [d] }
  | _ => none }
def fnCheckpointRoundTripRow : OpenClaim := { program := "ytbmafhpbinjgaaagreat", sum := "6d29697806af368673e1905d498bf6db0b5e13d570d9af47a2fa828277aa8219", func := "loop.example/g01920/laws.FnCheckpointRoundTrip", spec := "fnCheckpointRoundTrip", unfollowed := true, recurses := true, apart := false }
def FnCheckpointRoundTripSaid : Prop := fnCheckpointRoundTripRow.holds Tryz.pinned (OpenSpec.ofChange fnCheckpointRoundTripSpec)

/-- ITS FALSE NEIGHBOUR: 'it returns false'. Refute it at one input. -/
def fnCheckpointRoundTripWrong : ChangeSpec := { name := "fnCheckpointRoundTrip", fn := fun _ => fun
  | [d] => { results := [.lit (.bool false)], args := [d] }
  | _ => none }
def FnCheckpointRoundTripWrongFalsely : Prop := fnCheckpointRoundTripRow.holds Tryz.pinned (OpenSpec.ofChange fnCheckpointRoundTripWrong)

/-- 'laws.FnExactRunWithCheckpoints': WHATEVER THE INPUT: true; the input reads as it did. -/
def fnExactRunWithCheckpointsSpec : ChangeSpec := { name := "fnExactRunWithCheckpoints", fn := fun _ => fun
  | [d1, d2, d3] => { results := [.lit (.bool true)], args := [d1, d2, d3] }
  | _ => none }
def fnExactRunWithCheckpointsRow : OpenClaim := { program := "ytbmafhpbinjgaaagreat", sum := "6d29697806af368673e1905d498bf6db0b5e13d570d9af47a2fa828277aa8219", func := "loop.example/g01920/laws.FnExactRunWithCheckpoints", spec := "fnExactRunWithCheckpoints", unfollowed := true, recurses := true, apart := false }
def FnExactRunWithCheckpointsSaid : Prop := fnExactRunWithCheckpointsRow.holds Tryz.pinned (OpenSpec.ofChange fnExactRunWithCheckpointsSpec)

/-- ITS FALSE NEIGHBOUR: 'it returns false'. Refute it at one input. -/
def fnExactRunWithCheckpointsWrong : ChangeSpec := { name := "fnExactRunWithCheckpoints", fn := fun _ => fun
  | [d1, d2, d3] => { results := [.lit (.bool false)], args := [d1, d2, d3] }
  | _ => none }
def FnExactRunWithCheckpointsWrongFalsely : Prop := fnExactRunWithCheckpointsRow.holds Tryz.pinned (OpenSpec.ofChange fnExactRunWithCheckpointsWrong)

/- THE SECOND FORM. 'bulk': how many values and letters a reading holds, each counted each time it is reached (what is shared counts as often as it is met; a slice's spare places count too). A statement '..UptoSaid' is the law's where the arguments, and the package variables that the reading takes, are together of bulk at most 1048576: NARROWER than '..Said'. Prove '..Said' where nothing that the law and all that it calls make is longer than what came in: it says more and counts as full. Else prove '..UptoSaid'. A law counts once. -/
mutual
def uptoBulk {H : Type} : DataW H → Nat
  | .lit (.string bytes) => bytes.length + 1
  | .lit _ => 1
  | .nil => 1
  | .ptr d => uptoBulk d + 1
  | .slice elems spare => uptoBulkAll elems + uptoBulkAll spare + 1
  | .agg parts => uptoBulkAll parts + 1
  | .iface _ d => uptoBulk d + 1
  | .map entries => uptoBulkEntries entries + 1
  | .held _ => 1
def uptoBulkAll {H : Type} : List (DataW H) → Nat
  | [] => 0
  | d :: r => uptoBulk d + uptoBulkAll r
def uptoBulkEntries {H : Type} : List (Lit × DataW H) → Nat
  | [] => 0
  | x :: r => uptoBulkEntry x + uptoBulkEntries r
def uptoBulkEntry {H : Type} : Lit × DataW H → Nat
  | (.string bytes, d) => bytes.length + uptoBulk d + 1
  | (_, d) => uptoBulk d + 1
 end
def uptoSmall : (H : Type) → List (DataW H) → Bool := fun _ ds => decide (uptoBulkAll ds ≤ 1048576)
def OpenSpec.upto (s : _root_.Go.ChangeSpec) : _root_.Go.OpenSpec := { _root_.Go.OpenSpec.ofChange s with cond := some uptoSmall }

/-- 'laws.FnExactFormatOp', WHERE WHAT IT READS IS OF BULK AT MOST 1048576: true; the input reads as it did. -/
def fnExactFormatOpUptoRow : OpenClaim := { program := "ytbmafhpbinjgaaagreat", sum := "6d29697806af368673e1905d498bf6db0b5e13d570d9af47a2fa828277aa8219", func := "loop.example/g01920/laws.FnExactFormatOp", spec := "fnExactFormatOp", unfollowed := true, recurses := true, apart := false, narrowed := true }
def FnExactFormatOpUptoSaid : Prop := fnExactFormatOpUptoRow.holds Tryz.pinned (OpenSpec.upto fnExactFormatOpSpec)

/-- 'laws.FnExactParseOp', WHERE WHAT IT READS IS OF BULK AT MOST 1048576: true; the input reads as it did. -/
def fnExactParseOpUptoRow : OpenClaim := { program := "ytbmafhpbinjgaaagreat", sum := "6d29697806af368673e1905d498bf6db0b5e13d570d9af47a2fa828277aa8219", func := "loop.example/g01920/laws.FnExactParseOp", spec := "fnExactParseOp", unfollowed := true, recurses := true, apart := false, narrowed := true }
def FnExactParseOpUptoSaid : Prop := fnExactParseOpUptoRow.holds Tryz.pinned (OpenSpec.upto fnExactParseOpSpec)

/-- 'laws.FnCheckpointRoundTrip', WHERE WHAT IT READS IS OF BULK AT MOST 1048576: true; the input reads as it did. -/
def fnCheckpointRoundTripUptoRow : OpenClaim := { program := "ytbmafhpbinjgaaagreat", sum := "6d29697806af368673e1905d498bf6db0b5e13d570d9af47a2fa828277aa8219", func := "loop.example/g01920/laws.FnCheckpointRoundTrip", spec := "fnCheckpointRoundTrip", unfollowed := true, recurses := true, apart := false, narrowed := true }
def FnCheckpointRoundTripUptoSaid : Prop := fnCheckpointRoundTripUptoRow.holds Tryz.pinned (OpenSpec.upto fnCheckpointRoundTripSpec)

/-- 'laws.FnExactRunWithCheckpoints', WHERE WHAT IT READS IS OF BULK AT MOST 1048576: true; the input reads as it did. -/
def fnExactRunWithCheckpointsUptoRow : OpenClaim := { program := "ytbmafhpbinjgaaagreat", sum := "6d29697806af368673e1905d498bf6db0b5e13d570d9af47a2fa828277aa8219", func := "loop.example/g01920/laws.FnExactRunWithCheckpoints", spec := "fnExactRunWithCheckpoints", unfollowed := true, recurses := true, apart := false, narrowed := true }
def FnExactRunWithCheckpointsUptoSaid : Prop := fnExactRunWithCheckpointsUptoRow.holds Tryz.pinned (OpenSpec.upto fnExactRunWithCheckpointsSpec)

end Rows
end Go.Proofs.YtbmafhpbinjgaaaGreat
