/-
  No cell of these rows narrows 'for every input' (looked for: loops, veiled, ifaces, maps, wideKeys, modest, calm, conditions, laid).
  DERIVED. THE GIVEN ROWS OF THIS SEAT. 10 by the template 'for every input the law returns true; each argument reads behind the call as it read before'; 0 by the template 'total and deterministic' (their statements: YtceoogjanfbdcaaGreatTotals.lean).
  GIVEN WITH THE SEED: the statements are not yours to turn. If you find one false, say at which input.
  Laid BY PROGRAM, IN A SANDBOX (cutbox-rows.mjs): the forced cells as the released guide's own fill.sh prints them over the translation 9663349e40726384… (all of the seat's roots in one cut). By AI agents, Wed Nov 11 2026. No macro, syntax, notation, axiom, sorry.
-/
import Derived.Test.YtceoogjanfbdcaaGreatChecked
import GoSem.Claim
import GoSem.ClaimJoined
import GoSem.ClaimMapViews
import Derived.JoinedTies
import Derived.KernelRfl
namespace Go.Proofs.YtceoogjanfbdcaaGreat
/- THE CELL 'sum', in the pinned program and in every row, IS THE sha256 OF THE DUMP (.gsa) THAT YtceoogjanfbdcaaGreatProg.lean LOADS. Nothing in Lean hashes anything: it is a label: what it is worth is what the hold of that sum in a sandbox is worth. -/
noncomputable def Tryz.pinned : Pinned := { name := "ytceoogjanfbdcaagreat", sum := "9663349e4072638418915b21e062a6da8ec2c2c369db096947e6dc92c45d081d", checked := Tryz.checked }
namespace Rows
def none {H : Type} : Left H := { results := [], args := [] }

/-- 'laws.FnResumeAfterCrash': WHATEVER THE INPUT: true; the input reads as it did. -/
def fnResumeAfterCrashSpec : ChangeSpec := { name := "fnResumeAfterCrash", fn := fun _ => fun
  | [d] => { results := [.lit (.bool true)], args := [d] }
  | _ => none }
def fnResumeAfterCrashRow : OpenClaim := { program := "ytceoogjanfbdcaagreat", sum := "9663349e4072638418915b21e062a6da8ec2c2c369db096947e6dc92c45d081d", func := "loop.example/g01920/laws.FnResumeAfterCrash", spec := "fnResumeAfterCrash", unfollowed := true, recurses := true, apart := false }
def FnResumeAfterCrashSaid : Prop := fnResumeAfterCrashRow.holds Tryz.pinned (OpenSpec.ofChange fnResumeAfterCrashSpec)

/-- ITS FALSE NEIGHBOUR: 'it returns false'. Refute it at one input. -/
def fnResumeAfterCrashWrong : ChangeSpec := { name := "fnResumeAfterCrash", fn := fun _ => fun
  | [d] => { results := [.lit (.bool false)], args := [d] }
  | _ => none }
def FnResumeAfterCrashWrongFalsely : Prop := fnResumeAfterCrashRow.holds Tryz.pinned (OpenSpec.ofChange fnResumeAfterCrashWrong)

/-- 'laws.FnCheckpointRoundTrip': WHATEVER THE INPUT: true; the input reads as it did. -/
def fnCheckpointRoundTripSpec : ChangeSpec := { name := "fnCheckpointRoundTrip", fn := fun _ => fun
  | [d] => { results := [.lit (.bool true)], args := [d] }
  | _ => none }
def fnCheckpointRoundTripRow : OpenClaim := { program := "ytceoogjanfbdcaagreat", sum := "9663349e4072638418915b21e062a6da8ec2c2c369db096947e6dc92c45d081d", func := "loop.example/g01920/laws.FnCheckpointRoundTrip", spec := "fnCheckpointRoundTrip", unfollowed := true, recurses := true, apart := false }
def FnCheckpointRoundTripSaid : Prop := fnCheckpointRoundTripRow.holds Tryz.pinned (OpenSpec.ofChange fnCheckpointRoundTripSpec)

/-- ITS FALSE NEIGHBOUR: 'it returns false'. Refute it at one input. -/
def fnCheckpointRoundTripWrong : ChangeSpec := { name := "fnCheckpointRoundTrip", fn := fun _ => fun
  | [d] => { results := [.lit (.bool false)], args := [d] }
  | _ => none }
def FnCheckpointRoundTripWrongFalsely : Prop := fnCheckpointRoundTripRow.holds Tryz.pinned (OpenSpec.ofChange fnCheckpointRoundTripWrong)

/-- 'laws.FnExactRunWithCheckpoints': WHATEVER THE INPUT: true; the input reads as it did. -/
def fnExactRunWithCheckpointsSpec : ChangeSpec := { name := "fnExactRunWithCheckpoints", fn := fun _ => fun
  | [d1, d2, d3] => { results := [.lit (.bool true)], args := [d1, d2, d3] }
  | _ => none }
def fnExactRunWithCheckpointsRow : OpenClaim := { program := "ytceoogjanfbdcaagreat", sum := "9663349e4072638418915b21e062a6da8ec2c2c369db096947e6dc92c45d081d", func := "loop.example/g01920/laws.FnExactRunWithCheckpoints", spec := "fnExactRunWithCheckpoints", unfollowed := true, recurses := true, apart := false }
def FnExactRunWithCheckpointsSaid : Prop := fnExactRunWithCheckpointsRow.holds Tryz.pinned (OpenSpec.ofChange fnExactRunWithCheckpointsSpec)

/-- ITS FALSE NEIGHBOUR: 'it returns false'. Refute it at one input. -/
def fnExactRunWithCheckpointsWrong : ChangeSpec := { name := "fnExactRunWithCheckpoints", fn := fun _ => fun
  | [d1, d2, d3] => { results := [.lit (.bool false)], args := [d1, d2, d3] }
  | _ => none }
def FnExactRunWithCheckpointsWrongFalsely : Prop := fnExactRunWithCheckpointsRow.holds Tryz.pinned (OpenSpec.ofChange fnExactRunWithCheckpointsWrong)

/-- 'laws.FnExactResumeSort': WHATEVER THE INPUT: true; the input reads as it did. -/
def fnExactResumeSortSpec : ChangeSpec := { name := "fnExactResumeSort", fn := fun _ => fun
  | [d1, d2, d3] => { results := [.lit (.bool true)], args := [d1, d2, d3] }
  | _ => none }
def fnExactResumeSortRow : OpenClaim := { program := "ytceoogjanfbdcaagreat", sum := "9663349e4072638418915b21e062a6da8ec2c2c369db096947e6dc92c45d081d", func := "loop.example/g01920/laws.FnExactResumeSort", spec := "fnExactResumeSort", unfollowed := true, recurses := true, apart := false }
def FnExactResumeSortSaid : Prop := fnExactResumeSortRow.holds Tryz.pinned (OpenSpec.ofChange fnExactResumeSortSpec)

/-- ITS FALSE NEIGHBOUR: 'it returns false'. Refute it at one input. -/
def fnExactResumeSortWrong : ChangeSpec := { name := "fnExactResumeSort", fn := fun _ => fun
  | [d1, d2, d3] => { results := [.lit (.bool false)], args := [d1, d2, d3] }
  | _ => none }
def FnExactResumeSortWrongFalsely : Prop := fnExactResumeSortRow.holds Tryz.pinned (OpenSpec.ofChange fnExactResumeSortWrong)

/-- 'laws.FnExactIsValidSystem': WHATEVER THE INPUT: true; the input reads as it did. -/
def fnExactIsValidSystemSpec : ChangeSpec := { name := "fnExactIsValidSystem", fn := fun _ => fun
  | [d] => { results := [.lit (.bool true)], args := [d] }
  | _ => none }
def fnExactIsValidSystemRow : OpenClaim := { program := "ytceoogjanfbdcaagreat", sum := "9663349e4072638418915b21e062a6da8ec2c2c369db096947e6dc92c45d081d", func := "loop.example/g01920/laws.FnExactIsValidSystem", spec := "fnExactIsValidSystem", unfollowed := true, recurses := true, apart := false }
def FnExactIsValidSystemSaid : Prop := fnExactIsValidSystemRow.holds Tryz.pinned (OpenSpec.ofChange fnExactIsValidSystemSpec)

/-- ITS FALSE NEIGHBOUR: 'it returns false'. Refute it at one input. -/
def fnExactIsValidSystemWrong : ChangeSpec := { name := "fnExactIsValidSystem", fn := fun _ => fun
  | [d] => { results := [.lit (.bool false)], args := [d] }
  | _ => none }
def FnExactIsValidSystemWrongFalsely : Prop := fnExactIsValidSystemRow.holds Tryz.pinned (OpenSpec.ofChange fnExactIsValidSystemWrong)

/-- 'laws.FnExactMemoryBound': WHATEVER THE INPUT: true; the input reads as it did. -/
def fnExactMemoryBoundSpec : ChangeSpec := { name := "fnExactMemoryBound", fn := fun _ => fun
  | [d] => { results := [.lit (.bool true)], args := [d] }
  | _ => none }
def fnExactMemoryBoundRow : OpenClaim := { program := "ytceoogjanfbdcaagreat", sum := "9663349e4072638418915b21e062a6da8ec2c2c369db096947e6dc92c45d081d", func := "loop.example/g01920/laws.FnExactMemoryBound", spec := "fnExactMemoryBound", unfollowed := true, recurses := true, apart := false }
def FnExactMemoryBoundSaid : Prop := fnExactMemoryBoundRow.holds Tryz.pinned (OpenSpec.ofChange fnExactMemoryBoundSpec)

/-- ITS FALSE NEIGHBOUR: 'it returns false'. Refute it at one input. -/
def fnExactMemoryBoundWrong : ChangeSpec := { name := "fnExactMemoryBound", fn := fun _ => fun
  | [d] => { results := [.lit (.bool false)], args := [d] }
  | _ => none }
def FnExactMemoryBoundWrongFalsely : Prop := fnExactMemoryBoundRow.holds Tryz.pinned (OpenSpec.ofChange fnExactMemoryBoundWrong)

/-- 'laws.FnExactAllDone': WHATEVER THE INPUT: true; the input reads as it did. -/
def fnExactAllDoneSpec : ChangeSpec := { name := "fnExactAllDone", fn := fun _ => fun
  | [d] => { results := [.lit (.bool true)], args := [d] }
  | _ => none }
def fnExactAllDoneRow : OpenClaim := { program := "ytceoogjanfbdcaagreat", sum := "9663349e4072638418915b21e062a6da8ec2c2c369db096947e6dc92c45d081d", func := "loop.example/g01920/laws.FnExactAllDone", spec := "fnExactAllDone", unfollowed := true, recurses := true, apart := false }
def FnExactAllDoneSaid : Prop := fnExactAllDoneRow.holds Tryz.pinned (OpenSpec.ofChange fnExactAllDoneSpec)

/-- ITS FALSE NEIGHBOUR: 'it returns false'. Refute it at one input. -/
def fnExactAllDoneWrong : ChangeSpec := { name := "fnExactAllDone", fn := fun _ => fun
  | [d] => { results := [.lit (.bool false)], args := [d] }
  | _ => none }
def FnExactAllDoneWrongFalsely : Prop := fnExactAllDoneRow.holds Tryz.pinned (OpenSpec.ofChange fnExactAllDoneWrong)

/-- 'laws.FnExactMemoryInUse': WHATEVER THE INPUT: true; the input reads as it did. -/
def fnExactMemoryInUseSpec : ChangeSpec := { name := "fnExactMemoryInUse", fn := fun _ => fun
  | [d] => { results := [.lit (.bool true)], args := [d] }
  | _ => none }
def fnExactMemoryInUseRow : OpenClaim := { program := "ytceoogjanfbdcaagreat", sum := "9663349e4072638418915b21e062a6da8ec2c2c369db096947e6dc92c45d081d", func := "loop.example/g01920/laws.FnExactMemoryInUse", spec := "fnExactMemoryInUse", unfollowed := true, recurses := true, apart := false }
def FnExactMemoryInUseSaid : Prop := fnExactMemoryInUseRow.holds Tryz.pinned (OpenSpec.ofChange fnExactMemoryInUseSpec)

/-- ITS FALSE NEIGHBOUR: 'it returns false'. Refute it at one input. -/
def fnExactMemoryInUseWrong : ChangeSpec := { name := "fnExactMemoryInUse", fn := fun _ => fun
  | [d] => { results := [.lit (.bool false)], args := [d] }
  | _ => none }
def FnExactMemoryInUseWrongFalsely : Prop := fnExactMemoryInUseRow.holds Tryz.pinned (OpenSpec.ofChange fnExactMemoryInUseWrong)

/-- 'laws.FnExactRoundBound': WHATEVER THE INPUT: true; the input reads as it did. -/
def fnExactRoundBoundSpec : ChangeSpec := { name := "fnExactRoundBound", fn := fun _ => fun
  | [d] => { results := [.lit (.bool true)], args := [d] }
  | _ => none }
def fnExactRoundBoundRow : OpenClaim := { program := "ytceoogjanfbdcaagreat", sum := "9663349e4072638418915b21e062a6da8ec2c2c369db096947e6dc92c45d081d", func := "loop.example/g01920/laws.FnExactRoundBound", spec := "fnExactRoundBound", unfollowed := true, recurses := true, apart := false }
def FnExactRoundBoundSaid : Prop := fnExactRoundBoundRow.holds Tryz.pinned (OpenSpec.ofChange fnExactRoundBoundSpec)

/-- ITS FALSE NEIGHBOUR: 'it returns false'. Refute it at one input. -/
def fnExactRoundBoundWrong : ChangeSpec := { name := "fnExactRoundBound", fn := fun _ => fun
  | [d] => { results := [.lit (.bool false)], args := [d] }
  | _ => none }
def FnExactRoundBoundWrongFalsely : Prop := fnExactRoundBoundRow.holds Tryz.pinned (OpenSpec.ofChange fnExactRoundBoundWrong)

/-- 'laws.FnExactOutputOf': WHATEVER THE INPUT: true; the input reads as it did. -/
def fnExactOutputOfSpec : ChangeSpec := { name := "fnExactOutputOf", fn := fun _ => fun
  | [d1, d2] => { results := [.lit (.bool true)], args := [d1, d2] }
  | _ => none }
def fnExactOutputOfRow : OpenClaim := { program := "ytceoogjanfbdcaagreat", sum := "9663349e4072638418915b21e062a6da8ec2c2c369db096947e6dc92c45d081d", func := "loop.example/g01920/laws.FnExactOutputOf", spec := "fnExactOutputOf", unfollowed := true, recurses := true, apart := false }
def FnExactOutputOfSaid : Prop := fnExactOutputOfRow.holds Tryz.pinned (OpenSpec.ofChange fnExactOutputOfSpec)

/-- ITS FALSE NEIGHBOUR: 'it returns false'. Refute it at one input. -/
def fnExactOutputOfWrong : ChangeSpec := { name := "fnExactOutputOf", fn := fun _ => fun
  | [d1, d2] => { results := [.lit (.bool false)], args := [d1, d2] }
  | _ => none }
def FnExactOutputOfWrongFalsely : Prop := fnExactOutputOfRow.holds Tryz.pinned (OpenSpec.ofChange fnExactOutputOfWrong)

/- THE SECOND FORM. 'bulk': how many values and letters a reading holds, each counted each time it is reached (what is shared counts as often as it is met; a slice's spare places count too). A statement '..UptoSaid' is the law's where the arguments, and the package variables that the reading takes, are together of bulk at most 1048576: NARROWER than '..Said'. Prove '..Said' where nothing that the law and all that it calls make is longer than what came in: it says more and counts as full. Else prove '..UptoSaid'. A law counts once. -/
mutual
def uptoBulk {H : Type} : DataW H → Nat
  | .lit (.string bytes) => bytes.length + 1
  | .lit _ => 1
  | .nil => 1
  | .ptr d => uptoBulk d + 1
  | .slice elems spare => uptoBulkAll elems + uptoBulkAll spare + 1
  | .agg parts => uptoBulkAll parts + 1
  | .iface _ d => uptoBulk d + 1
  | .map entries => uptoBulkEntries entries + 1
  | .held _ => 1
def uptoBulkAll {H : Type} : List (DataW H) → Nat
  | [] => 0
  | d :: r => uptoBulk d + uptoBulkAll r
def uptoBulkEntries {H : Type} : List (Lit × DataW H) → Nat
  | [] => 0
  | x :: r => uptoBulkEntry x + uptoBulkEntries r
def uptoBulkEntry {H : Type} : Lit × DataW H → Nat
  | (.string bytes, d) => bytes.length + uptoBulk d + 1
  | (_, d) => uptoBulk d + 1
 end
def uptoSmall : (H : Type) → List (DataW H) → Bool := fun _ ds => decide (uptoBulkAll ds ≤ 1048576)
def OpenSpec.upto (s : _root_.Go.ChangeSpec) : _root_.Go.OpenSpec := { _root_.Go.OpenSpec.ofChange s with cond := some uptoSmall }

/-- 'laws.FnResumeAfterCrash', WHERE WHAT IT READS IS OF BULK AT MOST 1048576: true; the input reads as it did. -/
def fnResumeAfterCrashUptoRow : OpenClaim := { program := "ytceoogjanfbdcaagreat", sum := "9663349e4072638418915b21e062a6da8ec2c2c369db096947e6dc92c45d081d", func := "loop.example/g01920/laws.FnResumeAfterCrash", spec := "fnResumeAfterCrash", unfollowed := true, recurses := true, apart := false, narrowed := true }
def FnResumeAfterCrashUptoSaid : Prop := fnResumeAfterCrashUptoRow.holds Tryz.pinned (OpenSpec.upto fnResumeAfterCrashSpec)

/-- 'laws.FnCheckpointRoundTrip', WHERE WHAT IT READS IS OF BULK AT MOST 1048576: true; the input reads as it did. -/
def fnCheckpointRoundTripUptoRow : OpenClaim := { program := "ytceoogjanfbdcaagreat", sum := "9663349e4072638418915b21e062a6da8ec2c2c369db096947e6dc92c45d081d", func := "loop.example/g01920/laws.FnCheckpointRoundTrip", spec := "fnCheckpointRoundTrip", unfollowed := true, recurses := true, apart := false, narrowed := true }
def FnCheckpointRoundTripUptoSaid : Prop := fnCheckpointRoundTripUptoRow.holds Tryz.pinned (OpenSpec.upto fnCheckpointRoundTripSpec)

/-- 'laws.FnExactRunWithCheckpoints', WHERE WHAT IT READS IS OF BULK AT MOST 1048576: true; the input reads as it did. -/
def fnExactRunWithCheckpointsUptoRow : OpenClaim := { program := "ytceoogjanfbdcaagreat", sum := "9663349e4072638418915b21e062a6da8ec2c2c369db096947e6dc92c45d081d", func := "loop.example/g01920/laws.FnExactRunWithCheckpoints", spec := "fnExactRunWithCheckpoints", unfollowed := true, recurses := true, apart := false, narrowed := true }
def FnExactRunWithCheckpointsUptoSaid : Prop := fnExactRunWithCheckpointsUptoRow.holds Tryz.pinned (OpenSpec.upto fnExactRunWithCheckpointsSpec)

/-- 'laws.FnExactResumeSort', WHERE WHAT IT READS IS OF BULK AT MOST 1048576: true; the input reads as it did. -/
def fnExactResumeSortUptoRow : OpenClaim := { program := "ytceoogjanfbdcaagreat", sum := "9663349e4072638418915b21e062a6da8ec2c2c369db096947e6dc92c45d081d", func := "loop.example/g01920/laws.FnExactResumeSort", spec := "fnExactResumeSort", unfollowed := true, recurses := true, apart := false, narrowed := true }
def FnExactResumeSortUptoSaid : Prop := fnExactResumeSortUptoRow.holds Tryz.pinned (OpenSpec.upto fnExactResumeSortSpec)

/-- 'laws.FnExactIsValidSystem', WHERE WHAT IT READS IS OF BULK AT MOST 1048576: true; the input reads as it did. -/
def fnExactIsValidSystemUptoRow : OpenClaim := { program := "ytceoogjanfbdcaagreat", sum := "9663349e4072638418915b21e062a6da8ec2c2c369db096947e6dc92c45d081d", func := "loop.example/g01920/laws.FnExactIsValidSystem", spec := "fnExactIsValidSystem", unfollowed := true, recurses := true, apart := false, narrowed := true }
def FnExactIsValidSystemUptoSaid : Prop := fnExactIsValidSystemUptoRow.holds Tryz.pinned (OpenSpec.upto fnExactIsValidSystemSpec)

/-- 'laws.FnExactMemoryBound', WHERE WHAT IT READS IS OF BULK AT MOST 1048576: true; the input reads as it did. -/
def fnExactMemoryBoundUptoRow : OpenClaim := { program := "ytceoogjanfbdcaagreat", sum := "9663349e4072638418915b21e062a6da8ec2c2c369db096947e6dc92c45d081d", func := "loop.example/g01920/laws.FnExactMemoryBound", spec := "fnExactMemoryBound", unfollowed := true, recurses := true, apart := false, narrowed := true }
def FnExactMemoryBoundUptoSaid : Prop := fnExactMemoryBoundUptoRow.holds Tryz.pinned (OpenSpec.upto fnExactMemoryBoundSpec)

/-- 'laws.FnExactAllDone', WHERE WHAT IT READS IS OF BULK AT MOST 1048576: true; the input reads as it did. -/
def fnExactAllDoneUptoRow : OpenClaim := { program := "ytceoogjanfbdcaagreat", sum := "9663349e4072638418915b21e062a6da8ec2c2c369db096947e6dc92c45d081d", func := "loop.example/g01920/laws.FnExactAllDone", spec := "fnExactAllDone", unfollowed := true, recurses := true, apart := false, narrowed := true }
def FnExactAllDoneUptoSaid : Prop := fnExactAllDoneUptoRow.holds Tryz.pinned (OpenSpec.upto fnExactAllDoneSpec)

/-- 'laws.FnExactMemoryInUse', WHERE WHAT IT READS IS OF BULK AT MOST 1048576: true; the input reads as it did. -/
def fnExactMemoryInUseUptoRow : OpenClaim := { program := "ytceoogjanfbdcaagreat", sum := "9663349e4072638418915b21e062a6da8ec2c2c369db096947e6dc92c45d081d", func := "loop.example/g01920/laws.FnExactMemoryInUse", spec := "fnExactMemoryInUse", unfollowed := true, recurses := true, apart := false, narrowed := true }
def FnExactMemoryInUseUptoSaid : Prop := fnExactMemoryInUseUptoRow.holds Tryz.pinned (OpenSpec.upto fnExactMemoryInUseSpec)

/-- 'laws.FnExactRoundBound', WHERE WHAT IT READS IS OF BULK AT MOST 1048576: true; the input reads as it did. -/
def fnExactRoundBoundUptoRow : OpenClaim := { program := "ytceoogjanfbdcaagreat", sum := "9663349e4072638418915b21e062a6da8ec2c2c369db096947e6dc92c45d081d", func := "loop.example/g01920/laws.FnExactRoundBound", spec := "fnExactRoundBound", unfollowed := true, recurses := true, apart := false, narrowed := true }
def FnExactRoundBoundUptoSaid : Prop := fnExactRoundBoundUptoRow.holds Tryz.pinned (OpenSpec.upto fnExactRoundBoundSpec)

/-- 'laws.FnExactOutputOf', WHERE WHAT IT READS IS OF BULK AT MOST 1048576: true; the input reads as it did. -/
def fnExactOutputOfUptoRow : OpenClaim := { program := "ytceoogjanfbdcaagreat", sum := "9663349e4072638418915b21e062a6da8ec2c2c369db096947e6dc92c45d081d", func := "loop.example/g01920/laws.FnExactOutputOf", spec := "fnExactOutputOf", unfollowed := true, recurses := true, apart := false, narrowed := true }
def FnExactOutputOfUptoSaid : Prop := fnExactOutputOfUptoRow.holds Tryz.pinned (OpenSpec.upto fnExactOutputOfSpec)

end Rows
end Go.Proofs.YtceoogjanfbdcaaGreat
