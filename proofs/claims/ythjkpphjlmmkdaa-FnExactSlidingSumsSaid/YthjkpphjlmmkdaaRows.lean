/-
  No cell of these rows narrows 'for every input' (looked for: loops, veiled, ifaces, maps, wideKeys, modest, calm, conditions, laid).
  DERIVED. THE GIVEN ROWS OF THIS SEAT. 12 by the template 'for every input the law returns true; each argument reads behind the call as it read before'; 0 by the template 'total and deterministic' (their statements: YthjkpphjlmmkdaaTotals.lean).
  GIVEN WITH THE SEED: the statements are not yours to turn. If you find one false, say at which input.
  Laid BY PROGRAM, IN A SANDBOX (cutbox-rows.mjs): the forced cells as the released guide's own fill.sh prints them over the translation 0a66e44b5359d1c9… (all of the seat's roots in one cut). By AI agents, Wed Nov 11 2026. No macro, syntax, notation, axiom, sorry.
-/
import Derived.Test.YthjkpphjlmmkdaaChecked
import GoSem.Claim
import GoSem.ClaimJoined
import GoSem.ClaimMapViews
import Derived.JoinedTies
import Derived.KernelRfl
namespace Go.Proofs.Ythjkpphjlmmkdaa
/- THE CELL 'sum', in the pinned program and in every row, IS THE sha256 OF THE DUMP (.gsa) THAT YthjkpphjlmmkdaaProg.lean LOADS. Nothing in Lean hashes anything: it is a label: what it is worth is what the hold of that sum in a sandbox is worth. -/
noncomputable def Try.pinned : Pinned := { name := "ythjkpphjlmmkdaa", sum := "0a66e44b5359d1c9599d565ab10b4daae0893545685cf22b9bc7ee9e654daf09", checked := Try.checked }
namespace Rows
def none {H : Type} : Left H := { results := [], args := [] }

/-- 'laws.FnExactTruncate': WHATEVER THE INPUT: true; the input reads as it did. -/
def fnExactTruncateSpec : ChangeSpec := { name := "fnExactTruncate", fn := fun _ => fun
  | [d1, d2] => { results := [.lit (.bool true)], args := [d1, d2] }
  | _ => none }
def fnExactTruncateRow : OpenClaim := { program := "ythjkpphjlmmkdaa", sum := "0a66e44b5359d1c9599d565ab10b4daae0893545685cf22b9bc7ee9e654daf09", func := "loop.example/g01920/laws.FnExactTruncate", spec := "fnExactTruncate", apart := false }
def FnExactTruncateSaid : Prop := fnExactTruncateRow.holds Try.pinned (OpenSpec.ofChange fnExactTruncateSpec)

/-- ITS FALSE NEIGHBOUR: 'it returns false'. Refute it at one input. -/
def fnExactTruncateWrong : ChangeSpec := { name := "fnExactTruncate", fn := fun _ => fun
  | [d1, d2] => { results := [.lit (.bool false)], args := [d1, d2] }
  | _ => none }
def FnExactTruncateWrongFalsely : Prop := fnExactTruncateRow.holds Try.pinned (OpenSpec.ofChange fnExactTruncateWrong)

/-- 'laws.FnExactReceiverFor': WHATEVER THE INPUT: true; the input reads as it did. -/
def fnExactReceiverForSpec : ChangeSpec := { name := "fnExactReceiverFor", fn := fun _ => fun
  | [d1, d2] => { results := [.lit (.bool true)], args := [d1, d2] }
  | _ => none }
def fnExactReceiverForRow : OpenClaim := { program := "ythjkpphjlmmkdaa", sum := "0a66e44b5359d1c9599d565ab10b4daae0893545685cf22b9bc7ee9e654daf09", func := "loop.example/g01920/laws.FnExactReceiverFor", spec := "fnExactReceiverFor", apart := false }
def FnExactReceiverForSaid : Prop := fnExactReceiverForRow.holds Try.pinned (OpenSpec.ofChange fnExactReceiverForSpec)

/-- ITS FALSE NEIGHBOUR: 'it returns false'. Refute it at one input. -/
def fnExactReceiverForWrong : ChangeSpec := { name := "fnExactReceiverFor", fn := fun _ => fun
  | [d1, d2] => { results := [.lit (.bool false)], args := [d1, d2] }
  | _ => none }
def FnExactReceiverForWrongFalsely : Prop := fnExactReceiverForRow.holds Try.pinned (OpenSpec.ofChange fnExactReceiverForWrong)

/-- 'laws.FnExactSlidingSums': WHATEVER THE INPUT: true; the input reads as it did. -/
def fnExactSlidingSumsSpec : ChangeSpec := { name := "fnExactSlidingSums", fn := fun _ => fun
  | [d1, d2] => { results := [.lit (.bool true)], args := [d1, d2] }
  | _ => none }
def fnExactSlidingSumsRow : OpenClaim := { program := "ythjkpphjlmmkdaa", sum := "0a66e44b5359d1c9599d565ab10b4daae0893545685cf22b9bc7ee9e654daf09", func := "loop.example/g01920/laws.FnExactSlidingSums", spec := "fnExactSlidingSums", apart := false }
def FnExactSlidingSumsSaid : Prop := fnExactSlidingSumsRow.holds Try.pinned (OpenSpec.ofChange fnExactSlidingSumsSpec)

/-- ITS FALSE NEIGHBOUR: 'it returns false'. Refute it at one input. -/
def fnExactSlidingSumsWrong : ChangeSpec := { name := "fnExactSlidingSums", fn := fun _ => fun
  | [d1, d2] => { results := [.lit (.bool false)], args := [d1, d2] }
  | _ => none }
def FnExactSlidingSumsWrongFalsely : Prop := fnExactSlidingSumsRow.holds Try.pinned (OpenSpec.ofChange fnExactSlidingSumsWrong)

/-- 'laws.FnExactRowRanks': WHATEVER THE INPUT: true; the input reads as it did. -/
def fnExactRowRanksSpec : ChangeSpec := { name := "fnExactRowRanks", fn := fun _ => fun
  | [d] => { results := [.lit (.bool true)], args := [d] }
  | _ => none }
def fnExactRowRanksRow : OpenClaim := { program := "ythjkpphjlmmkdaa", sum := "0a66e44b5359d1c9599d565ab10b4daae0893545685cf22b9bc7ee9e654daf09", func := "loop.example/g01920/laws.FnExactRowRanks", spec := "fnExactRowRanks", apart := false }
def FnExactRowRanksSaid : Prop := fnExactRowRanksRow.holds Try.pinned (OpenSpec.ofChange fnExactRowRanksSpec)

/-- ITS FALSE NEIGHBOUR: 'it returns false'. Refute it at one input. -/
def fnExactRowRanksWrong : ChangeSpec := { name := "fnExactRowRanks", fn := fun _ => fun
  | [d] => { results := [.lit (.bool false)], args := [d] }
  | _ => none }
def FnExactRowRanksWrongFalsely : Prop := fnExactRowRanksRow.holds Try.pinned (OpenSpec.ofChange fnExactRowRanksWrong)

/-- 'laws.FnExactLastRecord': WHATEVER THE INPUT: true; the input reads as it did. -/
def fnExactLastRecordSpec : ChangeSpec := { name := "fnExactLastRecord", fn := fun _ => fun
  | [d] => { results := [.lit (.bool true)], args := [d] }
  | _ => none }
def fnExactLastRecordRow : OpenClaim := { program := "ythjkpphjlmmkdaa", sum := "0a66e44b5359d1c9599d565ab10b4daae0893545685cf22b9bc7ee9e654daf09", func := "loop.example/g01920/laws.FnExactLastRecord", spec := "fnExactLastRecord", recurses := true, apart := false }
def FnExactLastRecordSaid : Prop := fnExactLastRecordRow.holds Try.pinned (OpenSpec.ofChange fnExactLastRecordSpec)

/-- ITS FALSE NEIGHBOUR: 'it returns false'. Refute it at one input. -/
def fnExactLastRecordWrong : ChangeSpec := { name := "fnExactLastRecord", fn := fun _ => fun
  | [d] => { results := [.lit (.bool false)], args := [d] }
  | _ => none }
def FnExactLastRecordWrongFalsely : Prop := fnExactLastRecordRow.holds Try.pinned (OpenSpec.ofChange fnExactLastRecordWrong)

/-- 'laws.FnExactEqualExchanges': WHATEVER THE INPUT: true; the input reads as it did. -/
def fnExactEqualExchangesSpec : ChangeSpec := { name := "fnExactEqualExchanges", fn := fun _ => fun
  | [d1, d2] => { results := [.lit (.bool true)], args := [d1, d2] }
  | _ => none }
def fnExactEqualExchangesRow : OpenClaim := { program := "ythjkpphjlmmkdaa", sum := "0a66e44b5359d1c9599d565ab10b4daae0893545685cf22b9bc7ee9e654daf09", func := "loop.example/g01920/laws.FnExactEqualExchanges", spec := "fnExactEqualExchanges", apart := false }
def FnExactEqualExchangesSaid : Prop := fnExactEqualExchangesRow.holds Try.pinned (OpenSpec.ofChange fnExactEqualExchangesSpec)

/-- ITS FALSE NEIGHBOUR: 'it returns false'. Refute it at one input. -/
def fnExactEqualExchangesWrong : ChangeSpec := { name := "fnExactEqualExchanges", fn := fun _ => fun
  | [d1, d2] => { results := [.lit (.bool false)], args := [d1, d2] }
  | _ => none }
def FnExactEqualExchangesWrongFalsely : Prop := fnExactEqualExchangesRow.holds Try.pinned (OpenSpec.ofChange fnExactEqualExchangesWrong)

/-- 'laws.FnExactAppendRecord': WHATEVER THE INPUT: true; the input reads as it did. -/
def fnExactAppendRecordSpec : ChangeSpec := { name := "fnExactAppendRecord", fn := fun _ => fun
  | [d1, d2] => { results := [.lit (.bool true)], args := [d1, d2] }
  | _ => none }
def fnExactAppendRecordRow : OpenClaim := { program := "ythjkpphjlmmkdaa", sum := "0a66e44b5359d1c9599d565ab10b4daae0893545685cf22b9bc7ee9e654daf09", func := "loop.example/g01920/laws.FnExactAppendRecord", spec := "fnExactAppendRecord", recurses := true, apart := false }
def FnExactAppendRecordSaid : Prop := fnExactAppendRecordRow.holds Try.pinned (OpenSpec.ofChange fnExactAppendRecordSpec)

/-- ITS FALSE NEIGHBOUR: 'it returns false'. Refute it at one input. -/
def fnExactAppendRecordWrong : ChangeSpec := { name := "fnExactAppendRecord", fn := fun _ => fun
  | [d1, d2] => { results := [.lit (.bool false)], args := [d1, d2] }
  | _ => none }
def FnExactAppendRecordWrongFalsely : Prop := fnExactAppendRecordRow.holds Try.pinned (OpenSpec.ofChange fnExactAppendRecordWrong)

/-- 'laws.FnExactReadRecords': WHATEVER THE INPUT: true; the input reads as it did. -/
def fnExactReadRecordsSpec : ChangeSpec := { name := "fnExactReadRecords", fn := fun _ => fun
  | [d] => { results := [.lit (.bool true)], args := [d] }
  | _ => none }
def fnExactReadRecordsRow : OpenClaim := { program := "ythjkpphjlmmkdaa", sum := "0a66e44b5359d1c9599d565ab10b4daae0893545685cf22b9bc7ee9e654daf09", func := "loop.example/g01920/laws.FnExactReadRecords", spec := "fnExactReadRecords", recurses := true, apart := false }
def FnExactReadRecordsSaid : Prop := fnExactReadRecordsRow.holds Try.pinned (OpenSpec.ofChange fnExactReadRecordsSpec)

/-- ITS FALSE NEIGHBOUR: 'it returns false'. Refute it at one input. -/
def fnExactReadRecordsWrong : ChangeSpec := { name := "fnExactReadRecords", fn := fun _ => fun
  | [d] => { results := [.lit (.bool false)], args := [d] }
  | _ => none }
def FnExactReadRecordsWrongFalsely : Prop := fnExactReadRecordsRow.holds Try.pinned (OpenSpec.ofChange fnExactReadRecordsWrong)

/-- 'laws.FnWindowFunctions': WHATEVER THE INPUT: true; the input reads as it did. -/
def fnWindowFunctionsSpec : ChangeSpec := { name := "fnWindowFunctions", fn := fun _ => fun
  | [d] => { results := [.lit (.bool true)], args := [d] }
  | _ => none }
def fnWindowFunctionsRow : OpenClaim := { program := "ythjkpphjlmmkdaa", sum := "0a66e44b5359d1c9599d565ab10b4daae0893545685cf22b9bc7ee9e654daf09", func := "loop.example/g01920/laws.FnWindowFunctions", spec := "fnWindowFunctions", apart := false }
def FnWindowFunctionsSaid : Prop := fnWindowFunctionsRow.holds Try.pinned (OpenSpec.ofChange fnWindowFunctionsSpec)

/-- ITS FALSE NEIGHBOUR: 'it returns false'. Refute it at one input. -/
def fnWindowFunctionsWrong : ChangeSpec := { name := "fnWindowFunctions", fn := fun _ => fun
  | [d] => { results := [.lit (.bool false)], args := [d] }
  | _ => none }
def FnWindowFunctionsWrongFalsely : Prop := fnWindowFunctionsRow.holds Try.pinned (OpenSpec.ofChange fnWindowFunctionsWrong)

/-- 'laws.FnExactIsValidExchange': WHATEVER THE INPUT: true; the input reads as it did. -/
def fnExactIsValidExchangeSpec : ChangeSpec := { name := "fnExactIsValidExchange", fn := fun _ => fun
  | [d] => { results := [.lit (.bool true)], args := [d] }
  | _ => none }
def fnExactIsValidExchangeRow : OpenClaim := { program := "ythjkpphjlmmkdaa", sum := "0a66e44b5359d1c9599d565ab10b4daae0893545685cf22b9bc7ee9e654daf09", func := "loop.example/g01920/laws.FnExactIsValidExchange", spec := "fnExactIsValidExchange", apart := false }
def FnExactIsValidExchangeSaid : Prop := fnExactIsValidExchangeRow.holds Try.pinned (OpenSpec.ofChange fnExactIsValidExchangeSpec)

/-- ITS FALSE NEIGHBOUR: 'it returns false'. Refute it at one input. -/
def fnExactIsValidExchangeWrong : ChangeSpec := { name := "fnExactIsValidExchange", fn := fun _ => fun
  | [d] => { results := [.lit (.bool false)], args := [d] }
  | _ => none }
def FnExactIsValidExchangeWrongFalsely : Prop := fnExactIsValidExchangeRow.holds Try.pinned (OpenSpec.ofChange fnExactIsValidExchangeWrong)

/-- 'laws.FnExactIsExchangeDone': WHATEVER THE INPUT: true; the input reads as it did. -/
def fnExactIsExchangeDoneSpec : ChangeSpec := { name := "fnExactIsExchangeDone", fn := fun _ => fun
  | [d] => { results := [.lit (.bool true)], args := [d] }
  | _ => none }
def fnExactIsExchangeDoneRow : OpenClaim := { program := "ythjkpphjlmmkdaa", sum := "0a66e44b5359d1c9599d565ab10b4daae0893545685cf22b9bc7ee9e654daf09", func := "loop.example/g01920/laws.FnExactIsExchangeDone", spec := "fnExactIsExchangeDone", apart := false }
def FnExactIsExchangeDoneSaid : Prop := fnExactIsExchangeDoneRow.holds Try.pinned (OpenSpec.ofChange fnExactIsExchangeDoneSpec)

/-- ITS FALSE NEIGHBOUR: 'it returns false'. Refute it at one input. -/
def fnExactIsExchangeDoneWrong : ChangeSpec := { name := "fnExactIsExchangeDone", fn := fun _ => fun
  | [d] => { results := [.lit (.bool false)], args := [d] }
  | _ => none }
def FnExactIsExchangeDoneWrongFalsely : Prop := fnExactIsExchangeDoneRow.holds Try.pinned (OpenSpec.ofChange fnExactIsExchangeDoneWrong)

/-- 'laws.FnExactNewExchange': WHATEVER THE INPUT: true; the input reads as it did. -/
def fnExactNewExchangeSpec : ChangeSpec := { name := "fnExactNewExchange", fn := fun _ => fun
  | [d1, d2, d3] => { results := [.lit (.bool true)], args := [d1, d2, d3] }
  | _ => none }
def fnExactNewExchangeRow : OpenClaim := { program := "ythjkpphjlmmkdaa", sum := "0a66e44b5359d1c9599d565ab10b4daae0893545685cf22b9bc7ee9e654daf09", func := "loop.example/g01920/laws.FnExactNewExchange", spec := "fnExactNewExchange", apart := false }
def FnExactNewExchangeSaid : Prop := fnExactNewExchangeRow.holds Try.pinned (OpenSpec.ofChange fnExactNewExchangeSpec)

/-- ITS FALSE NEIGHBOUR: 'it returns false'. Refute it at one input. -/
def fnExactNewExchangeWrong : ChangeSpec := { name := "fnExactNewExchange", fn := fun _ => fun
  | [d1, d2, d3] => { results := [.lit (.bool false)], args := [d1, d2, d3] }
  | _ => none }
def FnExactNewExchangeWrongFalsely : Prop := fnExactNewExchangeRow.holds Try.pinned (OpenSpec.ofChange fnExactNewExchangeWrong)

/- THE SECOND FORM. 'bulk': how many values and letters a reading holds, each counted each time it is reached (what is shared counts as often as it is met; a slice's spare places count too). A statement '..UptoSaid' is the law's where the arguments, and the package variables that the reading takes, are together of bulk at most 1048576: NARROWER than '..Said'. Prove '..Said' where nothing that the law and all that it calls make is longer than what came in: it says more and counts as full. Else prove '..UptoSaid'. A law counts once. -/
mutual
def uptoBulk {H : Type} : DataW H → Nat
  | .lit (.string bytes) => bytes.length + 1
  | .lit _ => 1
  | .nil => 1
  | .ptr d => uptoBulk d + 1
  | .slice elems spare => uptoBulkAll elems + uptoBulkAll spare + 1
  | .agg parts => uptoBulkAll parts + 1
  | .iface _ d => uptoBulk d + 1
  | .map entries => uptoBulkEntries entries + 1
  | .held _ => 1
def uptoBulkAll {H : Type} : List (DataW H) → Nat
  | [] => 0
  | d :: r => uptoBulk d + uptoBulkAll r
def uptoBulkEntries {H : Type} : List (Lit × DataW H) → Nat
  | [] => 0
  | x :: r => uptoBulkEntry x + uptoBulkEntries r
def uptoBulkEntry {H : Type} : Lit × DataW H → Nat
  | (.string bytes, d) => bytes.length + uptoBulk d + 1
  | (_, d) => uptoBulk d + 1
 end
def uptoSmall : (H : Type) → List (DataW H) → Bool := fun _ ds => decide (uptoBulkAll ds ≤ 1048576)
def OpenSpec.upto (s : _root_.Go.ChangeSpec) : _root_.Go.OpenSpec := { _root_.Go.OpenSpec.ofChange s with cond := some uptoSmall }

/-- 'laws.FnExactTruncate', WHERE WHAT IT READS IS OF BULK AT MOST 1048576: true; the input reads as it did. -/
def fnExactTruncateUptoRow : OpenClaim := { program := "ythjkpphjlmmkdaa", sum := "0a66e44b5359d1c9599d565ab10b4daae0893545685cf22b9bc7ee9e654daf09", func := "loop.example/g01920/laws.FnExactTruncate", spec := "fnExactTruncate", apart := false, narrowed := true }
def FnExactTruncateUptoSaid : Prop := fnExactTruncateUptoRow.holds Try.pinned (OpenSpec.upto fnExactTruncateSpec)

/-- 'laws.FnExactReceiverFor', WHERE WHAT IT READS IS OF BULK AT MOST 1048576: true; the input reads as it did. -/
def fnExactReceiverForUptoRow : OpenClaim := { program := "ythjkpphjlmmkdaa", sum := "0a66e44b5359d1c9599d565ab10b4daae0893545685cf22b9bc7ee9e654daf09", func := "loop.example/g01920/laws.FnExactReceiverFor", spec := "fnExactReceiverFor", apart := false, narrowed := true }
def FnExactReceiverForUptoSaid : Prop := fnExactReceiverForUptoRow.holds Try.pinned (OpenSpec.upto fnExactReceiverForSpec)

/-- 'laws.FnExactSlidingSums', WHERE WHAT IT READS IS OF BULK AT MOST 1048576: true; the input reads as it did. -/
def fnExactSlidingSumsUptoRow : OpenClaim := { program := "ythjkpphjlmmkdaa", sum := "0a66e44b5359d1c9599d565ab10b4daae0893545685cf22b9bc7ee9e654daf09", func := "loop.example/g01920/laws.FnExactSlidingSums", spec := "fnExactSlidingSums", apart := false, narrowed := true }
def FnExactSlidingSumsUptoSaid : Prop := fnExactSlidingSumsUptoRow.holds Try.pinned (OpenSpec.upto fnExactSlidingSumsSpec)

/-- 'laws.FnExactRowRanks', WHERE WHAT IT READS IS OF BULK AT MOST 1048576: true; the input reads as it did. -/
def fnExactRowRanksUptoRow : OpenClaim := { program := "ythjkpphjlmmkdaa", sum := "0a66e44b5359d1c9599d565ab10b4daae0893545685cf22b9bc7ee9e654daf09", func := "loop.example/g01920/laws.FnExactRowRanks", spec := "fnExactRowRanks", apart := false, narrowed := true }
def FnExactRowRanksUptoSaid : Prop := fnExactRowRanksUptoRow.holds Try.pinned (OpenSpec.upto fnExactRowRanksSpec)

/-- 'laws.FnExactLastRecord', WHERE WHAT IT READS IS OF BULK AT MOST 1048576: true; the input reads as it did. -/
def fnExactLastRecordUptoRow : OpenClaim := { program := "ythjkpphjlmmkdaa", sum := "0a66e44b5359d1c9599d565ab10b4daae0893545685cf22b9bc7ee9e654daf09", func := "loop.example/g01920/laws.FnExactLastRecord", spec := "fnExactLastRecord", recurses := true, apart := false, narrowed := true }
def FnExactLastRecordUptoSaid : Prop := fnExactLastRecordUptoRow.holds Try.pinned (OpenSpec.upto fnExactLastRecordSpec)

/-- 'laws.FnExactEqualExchanges', WHERE WHAT IT READS IS OF BULK AT MOST 1048576: true; the input reads as it did. -/
def fnExactEqualExchangesUptoRow : OpenClaim := { program := "ythjkpphjlmmkdaa", sum := "0a66e44b5359d1c9599d565ab10b4daae0893545685cf22b9bc7ee9e654daf09", func := "loop.example/g01920/laws.FnExactEqualExchanges", spec := "fnExactEqualExchanges", apart := false, narrowed := true }
def FnExactEqualExchangesUptoSaid : Prop := fnExactEqualExchangesUptoRow.holds Try.pinned (OpenSpec.upto fnExactEqualExchangesSpec)

/-- 'laws.FnExactAppendRecord', WHERE WHAT IT READS IS OF BULK AT MOST 1048576: true; the input reads as it did. -/
def fnExactAppendRecordUptoRow : OpenClaim := { program := "ythjkpphjlmmkdaa", sum := "0a66e44b5359d1c9599d565ab10b4daae0893545685cf22b9bc7ee9e654daf09", func := "loop.example/g01920/laws.FnExactAppendRecord", spec := "fnExactAppendRecord", recurses := true, apart := false, narrowed := true }
def FnExactAppendRecordUptoSaid : Prop := fnExactAppendRecordUptoRow.holds Try.pinned (OpenSpec.upto fnExactAppendRecordSpec)

/-- 'laws.FnExactReadRecords', WHERE WHAT IT READS IS OF BULK AT MOST 1048576: true; the input reads as it did. -/
def fnExactReadRecordsUptoRow : OpenClaim := { program := "ythjkpphjlmmkdaa", sum := "0a66e44b5359d1c9599d565ab10b4daae0893545685cf22b9bc7ee9e654daf09", func := "loop.example/g01920/laws.FnExactReadRecords", spec := "fnExactReadRecords", recurses := true, apart := false, narrowed := true }
def FnExactReadRecordsUptoSaid : Prop := fnExactReadRecordsUptoRow.holds Try.pinned (OpenSpec.upto fnExactReadRecordsSpec)

/-- 'laws.FnWindowFunctions', WHERE WHAT IT READS IS OF BULK AT MOST 1048576: true; the input reads as it did. -/
def fnWindowFunctionsUptoRow : OpenClaim := { program := "ythjkpphjlmmkdaa", sum := "0a66e44b5359d1c9599d565ab10b4daae0893545685cf22b9bc7ee9e654daf09", func := "loop.example/g01920/laws.FnWindowFunctions", spec := "fnWindowFunctions", apart := false, narrowed := true }
def FnWindowFunctionsUptoSaid : Prop := fnWindowFunctionsUptoRow.holds Try.pinned (OpenSpec.upto fnWindowFunctionsSpec)

/-- 'laws.FnExactIsValidExchange', WHERE WHAT IT READS IS OF BULK AT MOST 1048576: true; the input reads as it did. -/
def fnExactIsValidExchangeUptoRow : OpenClaim := { program := "ythjkpphjlmmkdaa", sum := "0a66e44b5359d1c9599d565ab10b4daae0893545685cf22b9bc7ee9e654daf09", func := "loop.example/g01920/laws.FnExactIsValidExchange", spec := "fnExactIsValidExchange", apart := false, narrowed := true }
def FnExactIsValidExchangeUptoSaid : Prop := fnExactIsValidExchangeUptoRow.holds Try.pinned (OpenSpec.upto fnExactIsValidExchangeSpec)

/-- 'laws.FnExactIsExchangeDone', WHERE WHAT IT READS IS OF BULK AT MOST 1048576: true; the input reads as it did. -/
def fnExactIsExchangeDoneUptoRow : OpenClaim := { program := "ythjkpphjlmmkdaa", sum := "0a66e44b5359d1c9599d565ab10b4daae0893545685cf22b9bc7ee9e654daf09", func := "loop.example/g01920/laws.FnExactIsExchangeDone", spec := "fnExactIsExchangeDone", apart := false, narrowed := true }
def FnExactIsExchangeDoneUptoSaid : Prop := fnExactIsExchangeDoneUptoRow.holds Try.pinned (OpenSpec.upto fnExactIsExchangeDoneSpec)

/-- 'laws.FnExactNewExchange', WHERE WHAT IT READS IS OF BULK AT MOST 1048576: true; the input reads as it did. -/
def fnExactNewExchangeUptoRow : OpenClaim := { program := "ythjkpphjlmmkdaa", sum := "0a66e44b5359d1c9599d565ab10b4daae0893545685cf22b9bc7ee9e654daf09", func := "loop.example/g01920/laws.FnExactNewExchange", spec := "fnExactNewExchange", apart := false, narrowed := true }
def FnExactNewExchangeUptoSaid : Prop := fnExactNewExchangeUptoRow.holds Try.pinned (OpenSpec.upto fnExactNewExchangeSpec)

end Rows
end Go.Proofs.Ythjkpphjlmmkdaa
