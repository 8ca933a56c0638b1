/-
  No cell of these rows narrows 'for every input' (looked for: loops, veiled, ifaces, maps, wideKeys, modest, calm, conditions, laid).
  DERIVED. THE GIVEN ROWS OF THIS SEAT. 12 by the template 'for every input the law returns true; each argument reads behind the call as it read before'; 0 by the template 'total and deterministic' (their statements: YtnihikajdbcoaaaGreatTotals.lean).
  GIVEN WITH THE SEED: the statements are not yours to turn. If you find one false, say at which input.
  Laid BY PROGRAM, IN A SANDBOX (cutbox-rows.mjs): the forced cells as the released guide's own fill.sh prints them over the translation fb886c1e443f3c38… (all of the seat's roots in one cut). By AI agents, Wed Nov 11 2026. No macro, syntax, notation, axiom, sorry.
-/
import Derived.Test.YtnihikajdbcoaaaGreatChecked
import GoSem.Claim
import GoSem.ClaimJoined
import GoSem.ClaimMapViews
import Derived.JoinedTies
import Derived.KernelRfl
namespace Go.Proofs.YtnihikajdbcoaaaGreat
/- THE CELL 'sum', in the pinned program and in every row, IS THE sha256 OF THE DUMP (.gsa) THAT YtnihikajdbcoaaaGreatProg.lean LOADS. Nothing in Lean hashes anything: it is a label: what it is worth is what the hold of that sum in a sandbox is worth. -/
noncomputable def Tryz.pinned : Pinned := { name := "ytnihikajdbcoaaagreat", sum := "fb886c1e443f3c382d126258323ceb227a9b274290eafb9eb059ece1cc66e1be", checked := Tryz.checked }
namespace Rows
def none {H : Type} : Left H := { results := [], args := [] }

/-- 'laws.FnExactAddOp': WHATEVER THE INPUT: true; the input reads as it did. -/
def fnExactAddOpSpec : ChangeSpec := { name := "fnExactAddOp", fn := fun _ => fun
  | [d1, d2, d3, d4] => { results := [.lit (.bool true)], args := [d1, d2, d3, d4] }
  | _ => none }
def fnExactAddOpRow : OpenClaim := { program := "ytnihikajdbcoaaagreat", sum := "fb886c1e443f3c382d126258323ceb227a9b274290eafb9eb059ece1cc66e1be", func := "loop.example/g01920/laws.FnExactAddOp", spec := "fnExactAddOp", unfollowed := true, recurses := true, apart := false }
def FnExactAddOpSaid : Prop := fnExactAddOpRow.holds Tryz.pinned (OpenSpec.ofChange fnExactAddOpSpec)

/-- ITS FALSE NEIGHBOUR: 'it returns false'. Refute it at one input. -/
def fnExactAddOpWrong : ChangeSpec := { name := "fnExactAddOp", fn := fun _ => fun
  | [d1, d2, d3, d4] => { results := [.lit (.bool false)], args := [d1, d2, d3, d4] }
  | _ => none }
def FnExactAddOpWrongFalsely : Prop := fnExactAddOpRow.holds Tryz.pinned (OpenSpec.ofChange fnExactAddOpWrong)

/-- 'laws.FnExactStepOp': WHATEVER THE INPUT: true; the input reads as it did. -/
def fnExactStepOpSpec : ChangeSpec := { name := "fnExactStepOp", fn := fun _ => fun
  | [d1, d2] => { results := [.lit (.bool true)], args := [d1, d2] }
  | _ => none }
def fnExactStepOpRow : OpenClaim := { program := "ytnihikajdbcoaaagreat", sum := "fb886c1e443f3c382d126258323ceb227a9b274290eafb9eb059ece1cc66e1be", func := "loop.example/g01920/laws.FnExactStepOp", spec := "fnExactStepOp", unfollowed := true, recurses := true, apart := false }
def FnExactStepOpSaid : Prop := fnExactStepOpRow.holds Tryz.pinned (OpenSpec.ofChange fnExactStepOpSpec)

/-- ITS FALSE NEIGHBOUR: 'it returns false'. Refute it at one input. -/
def fnExactStepOpWrong : ChangeSpec := { name := "fnExactStepOp", fn := fun _ => fun
  | [d1, d2] => { results := [.lit (.bool false)], args := [d1, d2] }
  | _ => none }
def FnExactStepOpWrongFalsely : Prop := fnExactStepOpRow.holds Tryz.pinned (OpenSpec.ofChange fnExactStepOpWrong)

/-- 'laws.FnExactStepSystem': WHATEVER THE INPUT: true; the input reads as it did. -/
def fnExactStepSystemSpec : ChangeSpec := { name := "fnExactStepSystem", fn := fun _ => fun
  | [d] => { results := [.lit (.bool true)], args := [d] }
  | _ => none }
def fnExactStepSystemRow : OpenClaim := { program := "ytnihikajdbcoaaagreat", sum := "fb886c1e443f3c382d126258323ceb227a9b274290eafb9eb059ece1cc66e1be", func := "loop.example/g01920/laws.FnExactStepSystem", spec := "fnExactStepSystem", inPlace := ["slices.overlaps[loop.example/g01920/impl.Client]"], unfollowed := true, recurses := true, apart := false }
def FnExactStepSystemSaid : Prop := fnExactStepSystemRow.holds Tryz.pinned (OpenSpec.ofChange fnExactStepSystemSpec)

/-- ITS FALSE NEIGHBOUR: 'it returns false'. Refute it at one input. -/
def fnExactStepSystemWrong : ChangeSpec := { name := "fnExactStepSystem", fn := fun _ => fun
  | [d] => { results := [.lit (.bool false)], args := [d] }
  | _ => none }
def FnExactStepSystemWrongFalsely : Prop := fnExactStepSystemRow.holds Tryz.pinned (OpenSpec.ofChange fnExactStepSystemWrong)

/-- 'laws.FnExactRunSystem': WHATEVER THE INPUT: true; the input reads as it did. -/
def fnExactRunSystemSpec : ChangeSpec := { name := "fnExactRunSystem", fn := fun _ => fun
  | [d1, d2] => { results := [.lit (.bool true)], args := [d1, d2] }
  | _ => none }
def fnExactRunSystemRow : OpenClaim := { program := "ytnihikajdbcoaaagreat", sum := "fb886c1e443f3c382d126258323ceb227a9b274290eafb9eb059ece1cc66e1be", func := "loop.example/g01920/laws.FnExactRunSystem", spec := "fnExactRunSystem", inPlace := ["slices.overlaps[loop.example/g01920/impl.Client]"], unfollowed := true, recurses := true, apart := false }
def FnExactRunSystemSaid : Prop := fnExactRunSystemRow.holds Tryz.pinned (OpenSpec.ofChange fnExactRunSystemSpec)

/-- ITS FALSE NEIGHBOUR: 'it returns false'. Refute it at one input. -/
def fnExactRunSystemWrong : ChangeSpec := { name := "fnExactRunSystem", fn := fun _ => fun
  | [d1, d2] => { results := [.lit (.bool false)], args := [d1, d2] }
  | _ => none }
def FnExactRunSystemWrongFalsely : Prop := fnExactRunSystemRow.holds Tryz.pinned (OpenSpec.ofChange fnExactRunSystemWrong)

/-- 'laws.FnSystemStep': WHATEVER THE INPUT: true; the input reads as it did. -/
def fnSystemStepSpec : ChangeSpec := { name := "fnSystemStep", fn := fun _ => fun
  | [d] => { results := [.lit (.bool true)], args := [d] }
  | _ => none }
def fnSystemStepRow : OpenClaim := { program := "ytnihikajdbcoaaagreat", sum := "fb886c1e443f3c382d126258323ceb227a9b274290eafb9eb059ece1cc66e1be", func := "loop.example/g01920/laws.FnSystemStep", spec := "fnSystemStep", inPlace := ["slices.overlaps[loop.example/g01920/impl.Client]"], unfollowed := true, recurses := true, apart := false }
def FnSystemStepSaid : Prop := fnSystemStepRow.holds Tryz.pinned (OpenSpec.ofChange fnSystemStepSpec)

/-- ITS FALSE NEIGHBOUR: 'it returns false'. Refute it at one input. -/
def fnSystemStepWrong : ChangeSpec := { name := "fnSystemStep", fn := fun _ => fun
  | [d] => { results := [.lit (.bool false)], args := [d] }
  | _ => none }
def FnSystemStepWrongFalsely : Prop := fnSystemStepRow.holds Tryz.pinned (OpenSpec.ofChange fnSystemStepWrong)

/-- 'laws.FnAddOperator': WHATEVER THE INPUT: true; the input reads as it did. -/
def fnAddOperatorSpec : ChangeSpec := { name := "fnAddOperator", fn := fun _ => fun
  | [d] => { results := [.lit (.bool true)], args := [d] }
  | _ => none }
def fnAddOperatorRow : OpenClaim := { program := "ytnihikajdbcoaaagreat", sum := "fb886c1e443f3c382d126258323ceb227a9b274290eafb9eb059ece1cc66e1be", func := "loop.example/g01920/laws.FnAddOperator", spec := "fnAddOperator", unfollowed := true, recurses := true, apart := false }
def FnAddOperatorSaid : Prop := fnAddOperatorRow.holds Tryz.pinned (OpenSpec.ofChange fnAddOperatorSpec)

/-- ITS FALSE NEIGHBOUR: 'it returns false'. Refute it at one input. -/
def fnAddOperatorWrong : ChangeSpec := { name := "fnAddOperator", fn := fun _ => fun
  | [d] => { results := [.lit (.bool false)], args := [d] }
  | _ => none }
def FnAddOperatorWrongFalsely : Prop := fnAddOperatorRow.holds Tryz.pinned (OpenSpec.ofChange fnAddOperatorWrong)

/-- 'laws.FnOperatorSteps': WHATEVER THE INPUT: true; the input reads as it did. -/
def fnOperatorStepsSpec : ChangeSpec := { name := "fnOperatorSteps", fn := fun _ => fun
  | [d] => { results := [.lit (.bool true)], args := [d] }
  | _ => none }
def fnOperatorStepsRow : OpenClaim := { program := "ytnihikajdbcoaaagreat", sum := "fb886c1e443f3c382d126258323ceb227a9b274290eafb9eb059ece1cc66e1be", func := "loop.example/g01920/laws.FnOperatorSteps", spec := "fnOperatorSteps", unfollowed := true, recurses := true, apart := false }
def FnOperatorStepsSaid : Prop := fnOperatorStepsRow.holds Tryz.pinned (OpenSpec.ofChange fnOperatorStepsSpec)

/-- ITS FALSE NEIGHBOUR: 'it returns false'. Refute it at one input. -/
def fnOperatorStepsWrong : ChangeSpec := { name := "fnOperatorSteps", fn := fun _ => fun
  | [d] => { results := [.lit (.bool false)], args := [d] }
  | _ => none }
def FnOperatorStepsWrongFalsely : Prop := fnOperatorStepsRow.holds Tryz.pinned (OpenSpec.ofChange fnOperatorStepsWrong)

/-- 'laws.FnSystemTermination': WHATEVER THE INPUT: true; the input reads as it did. -/
def fnSystemTerminationSpec : ChangeSpec := { name := "fnSystemTermination", fn := fun _ => fun
  | [d] => { results := [.lit (.bool true)], args := [d] }
  | _ => none }
def fnSystemTerminationRow : OpenClaim := { program := "ytnihikajdbcoaaagreat", sum := "fb886c1e443f3c382d126258323ceb227a9b274290eafb9eb059ece1cc66e1be", func := "loop.example/g01920/laws.FnSystemTermination", spec := "fnSystemTermination", inPlace := ["slices.overlaps[loop.example/g01920/impl.Client]"], unfollowed := true, recurses := true, apart := false }
def FnSystemTerminationSaid : Prop := fnSystemTerminationRow.holds Tryz.pinned (OpenSpec.ofChange fnSystemTerminationSpec)

/-- ITS FALSE NEIGHBOUR: 'it returns false'. Refute it at one input. -/
def fnSystemTerminationWrong : ChangeSpec := { name := "fnSystemTermination", fn := fun _ => fun
  | [d] => { results := [.lit (.bool false)], args := [d] }
  | _ => none }
def FnSystemTerminationWrongFalsely : Prop := fnSystemTerminationRow.holds Tryz.pinned (OpenSpec.ofChange fnSystemTerminationWrong)

/-- 'laws.FnTop': WHATEVER THE INPUT: true; the input reads as it did. -/
def fnTopSpec : ChangeSpec := { name := "fnTop", fn := fun _ => fun
  | [d] => { results := [.lit (.bool true)], args := [d] }
  | _ => none }
def fnTopRow : OpenClaim := { program := "ytnihikajdbcoaaagreat", sum := "fb886c1e443f3c382d126258323ceb227a9b274290eafb9eb059ece1cc66e1be", func := "loop.example/g01920/laws.FnTop", spec := "fnTop", inPlace := ["slices.overlaps[loop.example/g01920/impl.Client]"], unfollowed := true, recurses := true, apart := false }
def FnTopSaid : Prop := fnTopRow.holds Tryz.pinned (OpenSpec.ofChange fnTopSpec)

/-- ITS FALSE NEIGHBOUR: 'it returns false'. Refute it at one input. -/
def fnTopWrong : ChangeSpec := { name := "fnTop", fn := fun _ => fun
  | [d] => { results := [.lit (.bool false)], args := [d] }
  | _ => none }
def FnTopWrongFalsely : Prop := fnTopRow.holds Tryz.pinned (OpenSpec.ofChange fnTopWrong)

/-- 'laws.FnCheckpointRoundTrip': WHATEVER THE INPUT: true; the input reads as it did. -/
def fnCheckpointRoundTripSpec : ChangeSpec := { name := "fnCheckpointRoundTrip", fn := fun _ => fun
  | [d] => { results := [.lit (.bool true)], args := [d] }
  | _ => none }
def fnCheckpointRoundTripRow : OpenClaim := { program := "ytnihikajdbcoaaagreat", sum := "fb886c1e443f3c382d126258323ceb227a9b274290eafb9eb059ece1cc66e1be", func := "loop.example/g01920/laws.FnCheckpointRoundTrip", spec := "fnCheckpointRoundTrip", unfollowed := true, recurses := true, apart := false }
def FnCheckpointRoundTripSaid : Prop := fnCheckpointRoundTripRow.holds Tryz.pinned (OpenSpec.ofChange fnCheckpointRoundTripSpec)

/-- ITS FALSE NEIGHBOUR: 'it returns false'. Refute it at one input. -/
def fnCheckpointRoundTripWrong : ChangeSpec := { name := "fnCheckpointRoundTrip", fn := fun _ => fun
  | [d] => { results := [.lit (.bool false)], args := [d] }
  | _ => none }
def FnCheckpointRoundTripWrongFalsely : Prop := fnCheckpointRoundTripRow.holds Tryz.pinned (OpenSpec.ofChange fnCheckpointRoundTripWrong)

/-- 'laws.FnExactRunWithCheckpoints': WHATEVER THE INPUT: true; the input reads as it did. -/
def fnExactRunWithCheckpointsSpec : ChangeSpec := { name := "fnExactRunWithCheckpoints", fn := fun _ => fun
  | [d1, d2, d3] => { results := [.lit (.bool true)], args := [d1, d2, d3] }
  | _ => none }
def fnExactRunWithCheckpointsRow : OpenClaim := { program := "ytnihikajdbcoaaagreat", sum := "fb886c1e443f3c382d126258323ceb227a9b274290eafb9eb059ece1cc66e1be", func := "loop.example/g01920/laws.FnExactRunWithCheckpoints", spec := "fnExactRunWithCheckpoints", unfollowed := true, recurses := true, apart := false }
def FnExactRunWithCheckpointsSaid : Prop := fnExactRunWithCheckpointsRow.holds Tryz.pinned (OpenSpec.ofChange fnExactRunWithCheckpointsSpec)

/-- ITS FALSE NEIGHBOUR: 'it returns false'. Refute it at one input. -/
def fnExactRunWithCheckpointsWrong : ChangeSpec := { name := "fnExactRunWithCheckpoints", fn := fun _ => fun
  | [d1, d2, d3] => { results := [.lit (.bool false)], args := [d1, d2, d3] }
  | _ => none }
def FnExactRunWithCheckpointsWrongFalsely : Prop := fnExactRunWithCheckpointsRow.holds Tryz.pinned (OpenSpec.ofChange fnExactRunWithCheckpointsWrong)

/-- 'laws.FnExactOutputOf': WHATEVER THE INPUT: true; the input reads as it did. -/
def fnExactOutputOfSpec : ChangeSpec := { name := "fnExactOutputOf", fn := fun _ => fun
  | [d1, d2] => { results := [.lit (.bool true)], args := [d1, d2] }
  | _ => none }
def fnExactOutputOfRow : OpenClaim := { program := "ytnihikajdbcoaaagreat", sum := "fb886c1e443f3c382d126258323ceb227a9b274290eafb9eb059ece1cc66e1be", func := "loop.example/g01920/laws.FnExactOutputOf", spec := "fnExactOutputOf", unfollowed := true, recurses := true, apart := false }
def FnExactOutputOfSaid : Prop := fnExactOutputOfRow.holds Tryz.pinned (OpenSpec.ofChange fnExactOutputOfSpec)

/-- ITS FALSE NEIGHBOUR: 'it returns false'. Refute it at one input. -/
def fnExactOutputOfWrong : ChangeSpec := { name := "fnExactOutputOf", fn := fun _ => fun
  | [d1, d2] => { results := [.lit (.bool false)], args := [d1, d2] }
  | _ => none }
def FnExactOutputOfWrongFalsely : Prop := fnExactOutputOfRow.holds Tryz.pinned (OpenSpec.ofChange fnExactOutputOfWrong)

/- THE SECOND FORM. 'bulk': how many values and letters a reading holds, each counted each time it is reached (what is shared counts as often as it is met; a slice's spare places count too). A statement '..UptoSaid' is the law's where the arguments, and the package variables that the reading takes, are together of bulk at most 1048576: NARROWER than '..Said'. Prove '..Said' where nothing that the law and all that it calls make is longer than what came in: it says more and counts as full. Else prove '..UptoSaid'. A law counts once. -/
mutual
def uptoBulk {H : Type} : DataW H → Nat
  | .lit (.string bytes) => bytes.length + 1
  | .lit _ => 1
  | .nil => 1
  | .ptr d => uptoBulk d + 1
  | .slice elems spare => uptoBulkAll elems + uptoBulkAll spare + 1
  | .agg parts => uptoBulkAll parts + 1
  | .iface _ d => uptoBulk d + 1
  | .map entries => uptoBulkEntries entries + 1
  | .held _ => 1
def uptoBulkAll {H : Type} : List (DataW H) → Nat
  | [] => 0
  | d :: r => uptoBulk d + uptoBulkAll r
def uptoBulkEntries {H : Type} : List (Lit × DataW H) → Nat
  | [] => 0
  | x :: r => uptoBulkEntry x + uptoBulkEntries r
def uptoBulkEntry {H : Type} : Lit × DataW H → Nat
  | (.string bytes, d) => bytes.length + uptoBulk d + 1
  | (_, d) => uptoBulk d + 1
 end
def uptoSmall : (H : Type) → List (DataW H) → Bool := fun _ ds => decide (uptoBulkAll ds ≤ 1048576)
def OpenSpec.upto (s : _root_.Go.ChangeSpec) : _root_.Go.OpenSpec := { _root_.Go.OpenSpec.ofChange s with cond := some uptoSmall }

/-- 'laws.FnExactAddOp', WHERE WHAT IT READS IS OF BULK AT MOST 1048576: true; the input reads as it did. -/
def fnExactAddOpUptoRow : OpenClaim := { program := "ytnihikajdbcoaaagreat", sum := "fb886c1e443f3c382d126258323ceb227a9b274290eafb9eb059ece1cc66e1be", func := "loop.example/g01920/laws.FnExactAddOp", spec := "fnExactAddOp", unfollowed := true, recurses := true, apart := false, narrowed := true }
def FnExactAddOpUptoSaid : Prop := fnExactAddOpUptoRow.holds Tryz.pinned (OpenSpec.upto fnExactAddOpSpec)

/-- 'laws.FnExactStepOp', WHERE WHAT IT READS IS OF BULK AT MOST 1048576: true; the input reads as it did. -/
def fnExactStepOpUptoRow : OpenClaim := { program := "ytnihikajdbcoaaagreat", sum := "fb886c1e443f3c382d126258323ceb227a9b274290eafb9eb059ece1cc66e1be", func := "loop.example/g01920/laws.FnExactStepOp", spec := "fnExactStepOp", unfollowed := true, recurses := true, apart := false, narrowed := true }
def FnExactStepOpUptoSaid : Prop := fnExactStepOpUptoRow.holds Tryz.pinned (OpenSpec.upto fnExactStepOpSpec)

/-- 'laws.FnExactStepSystem', WHERE WHAT IT READS IS OF BULK AT MOST 1048576: true; the input reads as it did. -/
def fnExactStepSystemUptoRow : OpenClaim := { program := "ytnihikajdbcoaaagreat", sum := "fb886c1e443f3c382d126258323ceb227a9b274290eafb9eb059ece1cc66e1be", func := "loop.example/g01920/laws.FnExactStepSystem", spec := "fnExactStepSystem", inPlace := ["slices.overlaps[loop.example/g01920/impl.Client]"], unfollowed := true, recurses := true, apart := false, narrowed := true }
def FnExactStepSystemUptoSaid : Prop := fnExactStepSystemUptoRow.holds Tryz.pinned (OpenSpec.upto fnExactStepSystemSpec)

/-- 'laws.FnExactRunSystem', WHERE WHAT IT READS IS OF BULK AT MOST 1048576: true; the input reads as it did. -/
def fnExactRunSystemUptoRow : OpenClaim := { program := "ytnihikajdbcoaaagreat", sum := "fb886c1e443f3c382d126258323ceb227a9b274290eafb9eb059ece1cc66e1be", func := "loop.example/g01920/laws.FnExactRunSystem", spec := "fnExactRunSystem", inPlace := ["slices.overlaps[loop.example/g01920/impl.Client]"], unfollowed := true, recurses := true, apart := false, narrowed := true }
def FnExactRunSystemUptoSaid : Prop := fnExactRunSystemUptoRow.holds Tryz.pinned (OpenSpec.upto fnExactRunSystemSpec)

/-- 'laws.FnSystemStep', WHERE WHAT IT READS IS OF BULK AT MOST 1048576: true; the input reads as it did. -/
def fnSystemStepUptoRow : OpenClaim := { program := "ytnihikajdbcoaaagreat", sum := "fb886c1e443f3c382d126258323ceb227a9b274290eafb9eb059ece1cc66e1be", func := "loop.example/g01920/laws.FnSystemStep", spec := "fnSystemStep", inPlace := ["slices.overlaps[loop.example/g01920/impl.Client]"], unfollowed := true, recurses := true, apart := false, narrowed := true }
def FnSystemStepUptoSaid : Prop := fnSystemStepUptoRow.holds Tryz.pinned (OpenSpec.upto fnSystemStepSpec)

/-- 'laws.FnAddOperator', WHERE WHAT IT READS IS OF BULK AT MOST 1048576: true; the input reads as it did. -/
def fnAddOperatorUptoRow : OpenClaim := { program := "ytnihikajdbcoaaagreat", sum := "fb886c1e443f3c382d126258323ceb227a9b274290eafb9eb059ece1cc66e1be", func := "loop.example/g01920/laws.FnAddOperator", spec := "fnAddOperator", unfollowed := true, recurses := true, apart := false, narrowed := true }
def FnAddOperatorUptoSaid : Prop := fnAddOperatorUptoRow.holds Tryz.pinned (OpenSpec.upto fnAddOperatorSpec)

/-- 'laws.FnOperatorSteps', WHERE WHAT IT READS IS OF BULK AT MOST 1048576: true; the input reads as it did. -/
def fnOperatorStepsUptoRow : OpenClaim := { program := "ytnihikajdbcoaaagreat", sum := "fb886c1e443f3c382d126258323ceb227a9b274290eafb9eb059ece1cc66e1be", func := "loop.example/g01920/laws.FnOperatorSteps", spec := "fnOperatorSteps", unfollowed := true, recurses := true, apart := false, narrowed := true }
def FnOperatorStepsUptoSaid : Prop := fnOperatorStepsUptoRow.holds Tryz.pinned (OpenSpec.upto fnOperatorStepsSpec)

/-- 'laws.FnSystemTermination', WHERE WHAT IT READS IS OF BULK AT MOST 1048576: true; the input reads as it did. -/
def fnSystemTerminationUptoRow : OpenClaim := { program := "ytnihikajdbcoaaagreat", sum := "fb886c1e443f3c382d126258323ceb227a9b274290eafb9eb059ece1cc66e1be", func := "loop.example/g01920/laws.FnSystemTermination", spec := "fnSystemTermination", inPlace := ["slices.overlaps[loop.example/g01920/impl.Client]"], unfollowed := true, recurses := true, apart := false, narrowed := true }
def FnSystemTerminationUptoSaid : Prop := fnSystemTerminationUptoRow.holds Tryz.pinned (OpenSpec.upto fnSystemTerminationSpec)

/-- 'laws.FnTop', WHERE WHAT IT READS IS OF BULK AT MOST 1048576: true; the input reads as it did. -/
def fnTopUptoRow : OpenClaim := { program := "ytnihikajdbcoaaagreat", sum := "fb886c1e443f3c382d126258323ceb227a9b274290eafb9eb059ece1cc66e1be", func := "loop.example/g01920/laws.FnTop", spec := "fnTop", inPlace := ["slices.overlaps[loop.example/g01920/impl.Client]"], unfollowed := true, recurses := true, apart := false, narrowed := true }
def FnTopUptoSaid : Prop := fnTopUptoRow.holds Tryz.pinned (OpenSpec.upto fnTopSpec)

/-- 'laws.FnCheckpointRoundTrip', WHERE WHAT IT READS IS OF BULK AT MOST 1048576: true; the input reads as it did. -/
def fnCheckpointRoundTripUptoRow : OpenClaim := { program := "ytnihikajdbcoaaagreat", sum := "fb886c1e443f3c382d126258323ceb227a9b274290eafb9eb059ece1cc66e1be", func := "loop.example/g01920/laws.FnCheckpointRoundTrip", spec := "fnCheckpointRoundTrip", unfollowed := true, recurses := true, apart := false, narrowed := true }
def FnCheckpointRoundTripUptoSaid : Prop := fnCheckpointRoundTripUptoRow.holds Tryz.pinned (OpenSpec.upto fnCheckpointRoundTripSpec)

/-- 'laws.FnExactRunWithCheckpoints', WHERE WHAT IT READS IS OF BULK AT MOST 1048576: true; the input reads as it did. -/
def fnExactRunWithCheckpointsUptoRow : OpenClaim := { program := "ytnihikajdbcoaaagreat", sum := "fb886c1e443f3c382d126258323ceb227a9b274290eafb9eb059ece1cc66e1be", func := "loop.example/g01920/laws.FnExactRunWithCheckpoints", spec := "fnExactRunWithCheckpoints", unfollowed := true, recurses := true, apart := false, narrowed := true }
def FnExactRunWithCheckpointsUptoSaid : Prop := fnExactRunWithCheckpointsUptoRow.holds Tryz.pinned (OpenSpec.upto fnExactRunWithCheckpointsSpec)

/-- 'laws.FnExactOutputOf', WHERE WHAT IT READS IS OF BULK AT MOST 1048576: true; the input reads as it did. -/
def fnExactOutputOfUptoRow : OpenClaim := { program := "ytnihikajdbcoaaagreat", sum := "fb886c1e443f3c382d126258323ceb227a9b274290eafb9eb059ece1cc66e1be", func := "loop.example/g01920/laws.FnExactOutputOf", spec := "fnExactOutputOf", unfollowed := true, recurses := true, apart := false, narrowed := true }
def FnExactOutputOfUptoSaid : Prop := fnExactOutputOfUptoRow.holds Tryz.pinned (OpenSpec.upto fnExactOutputOfSpec)

end Rows
end Go.Proofs.YtnihikajdbcoaaaGreat
