/-
  No cell of these rows narrows 'for every input' (looked for: loops, veiled, ifaces, maps, wideKeys, modest, calm, conditions, laid).
  DERIVED. THE GIVEN ROWS OF THIS SEAT. 25 by the template 'for every input the law returns true; each argument reads behind the call as it read before'; 0 by the template 'total and deterministic' (their statements: YtbmafhpbinjgaaaTotals.lean).
  GIVEN WITH THE SEED: the statements are not yours to turn. If you find one false, say at which input.
  Laid BY PROGRAM, IN A SANDBOX (cutbox-rows.mjs): the forced cells as the released guide's own fill.sh prints them over the translation e049367a1c4e32fe… (all of the seat's roots in one cut). By AI agents, Wed Nov 11 2026. No macro, syntax, notation, axiom, sorry.
-/
import Derived.Test.YtbmafhpbinjgaaaChecked
import GoSem.Claim
import GoSem.ClaimJoined
import GoSem.ClaimMapViews
import Derived.JoinedTies
import Derived.KernelRfl
namespace Go.Proofs.Ytbmafhpbinjgaaa
/- THE CELL 'sum', in the pinned program and in every row, IS THE sha256 OF THE DUMP (.gsa) THAT YtbmafhpbinjgaaaProg.lean LOADS. Nothing in Lean hashes anything: it is a label: what it is worth is what the hold of that sum in a sandbox is worth. -/
noncomputable def Try.pinned : Pinned := { name := "ytbmafhpbinjgaaa", sum := "e049367a1c4e32fee3b2d2026a07d8c58463c2e3e0236720150d2a886175956c", checked := Try.checked }
namespace Rows
def none {H : Type} : Left H := { results := [], args := [] }

/-- 'laws.FnExactLastRecord': WHATEVER THE INPUT: true; the input reads as it did. -/
def fnExactLastRecordSpec : ChangeSpec := { name := "fnExactLastRecord", fn := fun _ => fun
  | [d] => { results := [.lit (.bool true)], args := [d] }
  | _ => none }
def fnExactLastRecordRow : OpenClaim := { program := "ytbmafhpbinjgaaa", sum := "e049367a1c4e32fee3b2d2026a07d8c58463c2e3e0236720150d2a886175956c", func := "loop.example/g01920/laws.FnExactLastRecord", spec := "fnExactLastRecord", recurses := true, apart := false }
def FnExactLastRecordSaid : Prop := fnExactLastRecordRow.holds Try.pinned (OpenSpec.ofChange fnExactLastRecordSpec)

/-- ITS FALSE NEIGHBOUR: 'it returns false'. Refute it at one input. -/
def fnExactLastRecordWrong : ChangeSpec := { name := "fnExactLastRecord", fn := fun _ => fun
  | [d] => { results := [.lit (.bool false)], args := [d] }
  | _ => none }
def FnExactLastRecordWrongFalsely : Prop := fnExactLastRecordRow.holds Try.pinned (OpenSpec.ofChange fnExactLastRecordWrong)

/-- 'laws.FnExactAppendRecord': WHATEVER THE INPUT: true; the input reads as it did. -/
def fnExactAppendRecordSpec : ChangeSpec := { name := "fnExactAppendRecord", fn := fun _ => fun
  | [d1, d2] => { results := [.lit (.bool true)], args := [d1, d2] }
  | _ => none }
def fnExactAppendRecordRow : OpenClaim := { program := "ytbmafhpbinjgaaa", sum := "e049367a1c4e32fee3b2d2026a07d8c58463c2e3e0236720150d2a886175956c", func := "loop.example/g01920/laws.FnExactAppendRecord", spec := "fnExactAppendRecord", recurses := true, apart := false }
def FnExactAppendRecordSaid : Prop := fnExactAppendRecordRow.holds Try.pinned (OpenSpec.ofChange fnExactAppendRecordSpec)

/-- ITS FALSE NEIGHBOUR: 'it returns false'. Refute it at one input. -/
def fnExactAppendRecordWrong : ChangeSpec := { name := "fnExactAppendRecord", fn := fun _ => fun
  | [d1, d2] => { results := [.lit (.bool false)], args := [d1, d2] }
  | _ => none }
def FnExactAppendRecordWrongFalsely : Prop := fnExactAppendRecordRow.holds Try.pinned (OpenSpec.ofChange fnExactAppendRecordWrong)

/-- 'laws.FnExactReadRecords': WHATEVER THE INPUT: true; the input reads as it did. -/
def fnExactReadRecordsSpec : ChangeSpec := { name := "fnExactReadRecords", fn := fun _ => fun
  | [d] => { results := [.lit (.bool true)], args := [d] }
  | _ => none }
def fnExactReadRecordsRow : OpenClaim := { program := "ytbmafhpbinjgaaa", sum := "e049367a1c4e32fee3b2d2026a07d8c58463c2e3e0236720150d2a886175956c", func := "loop.example/g01920/laws.FnExactReadRecords", spec := "fnExactReadRecords", recurses := true, apart := false }
def FnExactReadRecordsSaid : Prop := fnExactReadRecordsRow.holds Try.pinned (OpenSpec.ofChange fnExactReadRecordsSpec)

/-- ITS FALSE NEIGHBOUR: 'it returns false'. Refute it at one input. -/
def fnExactReadRecordsWrong : ChangeSpec := { name := "fnExactReadRecords", fn := fun _ => fun
  | [d] => { results := [.lit (.bool false)], args := [d] }
  | _ => none }
def FnExactReadRecordsWrongFalsely : Prop := fnExactReadRecordsRow.holds Try.pinned (OpenSpec.ofChange fnExactReadRecordsWrong)

/-- 'laws.FnWindowFunctions': WHATEVER THE INPUT: true; the input reads as it did. -/
def fnWindowFunctionsSpec : ChangeSpec := { name := "fnWindowFunctions", fn := fun _ => fun
  | [d] => { results := [.lit (.bool true)], args := [d] }
  | _ => none }
def fnWindowFunctionsRow : OpenClaim := { program := "ytbmafhpbinjgaaa", sum := "e049367a1c4e32fee3b2d2026a07d8c58463c2e3e0236720150d2a886175956c", func := "loop.example/g01920/laws.FnWindowFunctions", spec := "fnWindowFunctions", apart := false }
def FnWindowFunctionsSaid : Prop := fnWindowFunctionsRow.holds Try.pinned (OpenSpec.ofChange fnWindowFunctionsSpec)

/-- ITS FALSE NEIGHBOUR: 'it returns false'. Refute it at one input. -/
def fnWindowFunctionsWrong : ChangeSpec := { name := "fnWindowFunctions", fn := fun _ => fun
  | [d] => { results := [.lit (.bool false)], args := [d] }
  | _ => none }
def FnWindowFunctionsWrongFalsely : Prop := fnWindowFunctionsRow.holds Try.pinned (OpenSpec.ofChange fnWindowFunctionsWrong)

/-- 'laws.FnExactNewExchange': WHATEVER THE INPUT: true; the input reads as it did. -/
def fnExactNewExchangeSpec : ChangeSpec := { name := "fnExactNewExchange", fn := fun _ => fun
  | [d1, d2, d3] => { results := [.lit (.bool true)], args := [d1, d2, d3] }
  | _ => none }
def fnExactNewExchangeRow : OpenClaim := { program := "ytbmafhpbinjgaaa", sum := "e049367a1c4e32fee3b2d2026a07d8c58463c2e3e0236720150d2a886175956c", func := "loop.example/g01920/laws.FnExactNewExchange", spec := "fnExactNewExchange", apart := false }
def FnExactNewExchangeSaid : Prop := fnExactNewExchangeRow.holds Try.pinned (OpenSpec.ofChange fnExactNewExchangeSpec)

/-- ITS FALSE NEIGHBOUR: 'it returns false'. Refute it at one input. -/
def fnExactNewExchangeWrong : ChangeSpec := { name := "fnExactNewExchange", fn := fun _ => fun
  | [d1, d2, d3] => { results := [.lit (.bool false)], args := [d1, d2, d3] }
  | _ => none }
def FnExactNewExchangeWrongFalsely : Prop := fnExactNewExchangeRow.holds Try.pinned (OpenSpec.ofChange fnExactNewExchangeWrong)

/-- 'laws.FnExactTopK': WHATEVER THE INPUT: true; the input reads as it did. -/
def fnExactTopKSpec : ChangeSpec := { name := "fnExactTopK", fn := fun _ => fun
  | [d1, d2] => { results := [.lit (.bool true)], args := [d1, d2] }
  | _ => none }
def fnExactTopKRow : OpenClaim := { program := "ytbmafhpbinjgaaa", sum := "e049367a1c4e32fee3b2d2026a07d8c58463c2e3e0236720150d2a886175956c", func := "loop.example/g01920/laws.FnExactTopK", spec := "fnExactTopK", unfollowed := true, recurses := true, apart := false }
def FnExactTopKSaid : Prop := fnExactTopKRow.holds Try.pinned (OpenSpec.ofChange fnExactTopKSpec)

/-- ITS FALSE NEIGHBOUR: 'it returns false'. Refute it at one input. -/
def fnExactTopKWrong : ChangeSpec := { name := "fnExactTopK", fn := fun _ => fun
  | [d1, d2] => { results := [.lit (.bool false)], args := [d1, d2] }
  | _ => none }
def FnExactTopKWrongFalsely : Prop := fnExactTopKRow.holds Try.pinned (OpenSpec.ofChange fnExactTopKWrong)

/-- 'laws.FnExactInsertTopK': WHATEVER THE INPUT: true; the input reads as it did. -/
def fnExactInsertTopKSpec : ChangeSpec := { name := "fnExactInsertTopK", fn := fun _ => fun
  | [d1, d2, d3] => { results := [.lit (.bool true)], args := [d1, d2, d3] }
  | _ => none }
def fnExactInsertTopKRow : OpenClaim := { program := "ytbmafhpbinjgaaa", sum := "e049367a1c4e32fee3b2d2026a07d8c58463c2e3e0236720150d2a886175956c", func := "loop.example/g01920/laws.FnExactInsertTopK", spec := "fnExactInsertTopK", unfollowed := true, recurses := true, apart := false }
def FnExactInsertTopKSaid : Prop := fnExactInsertTopKRow.holds Try.pinned (OpenSpec.ofChange fnExactInsertTopKSpec)

/-- ITS FALSE NEIGHBOUR: 'it returns false'. Refute it at one input. -/
def fnExactInsertTopKWrong : ChangeSpec := { name := "fnExactInsertTopK", fn := fun _ => fun
  | [d1, d2, d3] => { results := [.lit (.bool false)], args := [d1, d2, d3] }
  | _ => none }
def FnExactInsertTopKWrongFalsely : Prop := fnExactInsertTopKRow.holds Try.pinned (OpenSpec.ofChange fnExactInsertTopKWrong)

/-- 'laws.FnTopK': WHATEVER THE INPUT: true; the input reads as it did. -/
def fnTopKSpec : ChangeSpec := { name := "fnTopK", fn := fun _ => fun
  | [d] => { results := [.lit (.bool true)], args := [d] }
  | _ => none }
def fnTopKRow : OpenClaim := { program := "ytbmafhpbinjgaaa", sum := "e049367a1c4e32fee3b2d2026a07d8c58463c2e3e0236720150d2a886175956c", func := "loop.example/g01920/laws.FnTopK", spec := "fnTopK", unfollowed := true, recurses := true, apart := false }
def FnTopKSaid : Prop := fnTopKRow.holds Try.pinned (OpenSpec.ofChange fnTopKSpec)

/-- ITS FALSE NEIGHBOUR: 'it returns false'. Refute it at one input. -/
def fnTopKWrong : ChangeSpec := { name := "fnTopK", fn := fun _ => fun
  | [d] => { results := [.lit (.bool false)], args := [d] }
  | _ => none }
def FnTopKWrongFalsely : Prop := fnTopKRow.holds Try.pinned (OpenSpec.ofChange fnTopKWrong)

/-- 'laws.FnExactReceiveRow': WHATEVER THE INPUT: true; the input reads as it did. -/
def fnExactReceiveRowSpec : ChangeSpec := { name := "fnExactReceiveRow", fn := fun _ => fun
  | [d1, d2] => { results := [.lit (.bool true)], args := [d1, d2] }
  | _ => none }
def fnExactReceiveRowRow : OpenClaim := { program := "ytbmafhpbinjgaaa", sum := "e049367a1c4e32fee3b2d2026a07d8c58463c2e3e0236720150d2a886175956c", func := "loop.example/g01920/laws.FnExactReceiveRow", spec := "fnExactReceiveRow", apart := false }
def FnExactReceiveRowSaid : Prop := fnExactReceiveRowRow.holds Try.pinned (OpenSpec.ofChange fnExactReceiveRowSpec)

/-- ITS FALSE NEIGHBOUR: 'it returns false'. Refute it at one input. -/
def fnExactReceiveRowWrong : ChangeSpec := { name := "fnExactReceiveRow", fn := fun _ => fun
  | [d1, d2] => { results := [.lit (.bool false)], args := [d1, d2] }
  | _ => none }
def FnExactReceiveRowWrongFalsely : Prop := fnExactReceiveRowRow.holds Try.pinned (OpenSpec.ofChange fnExactReceiveRowWrong)

/-- 'laws.FnExactSendRow': WHATEVER THE INPUT: true; the input reads as it did. -/
def fnExactSendRowSpec : ChangeSpec := { name := "fnExactSendRow", fn := fun _ => fun
  | [d1, d2] => { results := [.lit (.bool true)], args := [d1, d2] }
  | _ => none }
def fnExactSendRowRow : OpenClaim := { program := "ytbmafhpbinjgaaa", sum := "e049367a1c4e32fee3b2d2026a07d8c58463c2e3e0236720150d2a886175956c", func := "loop.example/g01920/laws.FnExactSendRow", spec := "fnExactSendRow", apart := false }
def FnExactSendRowSaid : Prop := fnExactSendRowRow.holds Try.pinned (OpenSpec.ofChange fnExactSendRowSpec)

/-- ITS FALSE NEIGHBOUR: 'it returns false'. Refute it at one input. -/
def fnExactSendRowWrong : ChangeSpec := { name := "fnExactSendRow", fn := fun _ => fun
  | [d1, d2] => { results := [.lit (.bool false)], args := [d1, d2] }
  | _ => none }
def FnExactSendRowWrongFalsely : Prop := fnExactSendRowRow.holds Try.pinned (OpenSpec.ofChange fnExactSendRowWrong)

/-- 'laws.FnJournalRecovery': WHATEVER THE INPUT: true; the input reads as it did. -/
def fnJournalRecoverySpec : ChangeSpec := { name := "fnJournalRecovery", fn := fun _ => fun
  | [d] => { results := [.lit (.bool true)], args := [d] }
  | _ => none }
def fnJournalRecoveryRow : OpenClaim := { program := "ytbmafhpbinjgaaa", sum := "e049367a1c4e32fee3b2d2026a07d8c58463c2e3e0236720150d2a886175956c", func := "loop.example/g01920/laws.FnJournalRecovery", spec := "fnJournalRecovery", recurses := true, apart := false }
def FnJournalRecoverySaid : Prop := fnJournalRecoveryRow.holds Try.pinned (OpenSpec.ofChange fnJournalRecoverySpec)

/-- ITS FALSE NEIGHBOUR: 'it returns false'. Refute it at one input. -/
def fnJournalRecoveryWrong : ChangeSpec := { name := "fnJournalRecovery", fn := fun _ => fun
  | [d] => { results := [.lit (.bool false)], args := [d] }
  | _ => none }
def FnJournalRecoveryWrongFalsely : Prop := fnJournalRecoveryRow.holds Try.pinned (OpenSpec.ofChange fnJournalRecoveryWrong)

/-- 'laws.FnExactFormatOutput': WHATEVER THE INPUT: true; the input reads as it did. -/
def fnExactFormatOutputSpec : ChangeSpec := { name := "fnExactFormatOutput", fn := fun _ => fun
  | [d] => { results := [.lit (.bool true)], args := [d] }
  | _ => none }
def fnExactFormatOutputRow : OpenClaim := { program := "ytbmafhpbinjgaaa", sum := "e049367a1c4e32fee3b2d2026a07d8c58463c2e3e0236720150d2a886175956c", func := "loop.example/g01920/laws.FnExactFormatOutput", spec := "fnExactFormatOutput", recurses := true, apart := false }
def FnExactFormatOutputSaid : Prop := fnExactFormatOutputRow.holds Try.pinned (OpenSpec.ofChange fnExactFormatOutputSpec)

/-- ITS FALSE NEIGHBOUR: 'it returns false'. Refute it at one input. -/
def fnExactFormatOutputWrong : ChangeSpec := { name := "fnExactFormatOutput", fn := fun _ => fun
  | [d] => { results := [.lit (.bool false)], args := [d] }
  | _ => none }
def FnExactFormatOutputWrongFalsely : Prop := fnExactFormatOutputRow.holds Try.pinned (OpenSpec.ofChange fnExactFormatOutputWrong)

/-- 'laws.FnExchangeDelivery': WHATEVER THE INPUT: true; the input reads as it did. -/
def fnExchangeDeliverySpec : ChangeSpec := { name := "fnExchangeDelivery", fn := fun _ => fun
  | [d] => { results := [.lit (.bool true)], args := [d] }
  | _ => none }
def fnExchangeDeliveryRow : OpenClaim := { program := "ytbmafhpbinjgaaa", sum := "e049367a1c4e32fee3b2d2026a07d8c58463c2e3e0236720150d2a886175956c", func := "loop.example/g01920/laws.FnExchangeDelivery", spec := "fnExchangeDelivery", apart := false }
def FnExchangeDeliverySaid : Prop := fnExchangeDeliveryRow.holds Try.pinned (OpenSpec.ofChange fnExchangeDeliverySpec)

/-- ITS FALSE NEIGHBOUR: 'it returns false'. Refute it at one input. -/
def fnExchangeDeliveryWrong : ChangeSpec := { name := "fnExchangeDelivery", fn := fun _ => fun
  | [d] => { results := [.lit (.bool false)], args := [d] }
  | _ => none }
def FnExchangeDeliveryWrongFalsely : Prop := fnExchangeDeliveryRow.holds Try.pinned (OpenSpec.ofChange fnExchangeDeliveryWrong)

/-- 'laws.FnExchangeSteps': WHATEVER THE INPUT: true; the input reads as it did. -/
def fnExchangeStepsSpec : ChangeSpec := { name := "fnExchangeSteps", fn := fun _ => fun
  | [d] => { results := [.lit (.bool true)], args := [d] }
  | _ => none }
def fnExchangeStepsRow : OpenClaim := { program := "ytbmafhpbinjgaaa", sum := "e049367a1c4e32fee3b2d2026a07d8c58463c2e3e0236720150d2a886175956c", func := "loop.example/g01920/laws.FnExchangeSteps", spec := "fnExchangeSteps", apart := false }
def FnExchangeStepsSaid : Prop := fnExchangeStepsRow.holds Try.pinned (OpenSpec.ofChange fnExchangeStepsSpec)

/-- ITS FALSE NEIGHBOUR: 'it returns false'. Refute it at one input. -/
def fnExchangeStepsWrong : ChangeSpec := { name := "fnExchangeSteps", fn := fun _ => fun
  | [d] => { results := [.lit (.bool false)], args := [d] }
  | _ => none }
def FnExchangeStepsWrongFalsely : Prop := fnExchangeStepsRow.holds Try.pinned (OpenSpec.ofChange fnExchangeStepsWrong)

/-- 'laws.FnExactRunExchange': WHATEVER THE INPUT: true; the input reads as it did. -/
def fnExactRunExchangeSpec : ChangeSpec := { name := "fnExactRunExchange", fn := fun _ => fun
  | [d1, d2] => { results := [.lit (.bool true)], args := [d1, d2] }
  | _ => none }
def fnExactRunExchangeRow : OpenClaim := { program := "ytbmafhpbinjgaaa", sum := "e049367a1c4e32fee3b2d2026a07d8c58463c2e3e0236720150d2a886175956c", func := "loop.example/g01920/laws.FnExactRunExchange", spec := "fnExactRunExchange", apart := false }
def FnExactRunExchangeSaid : Prop := fnExactRunExchangeRow.holds Try.pinned (OpenSpec.ofChange fnExactRunExchangeSpec)

/-- ITS FALSE NEIGHBOUR: 'it returns false'. Refute it at one input. -/
def fnExactRunExchangeWrong : ChangeSpec := { name := "fnExactRunExchange", fn := fun _ => fun
  | [d1, d2] => { results := [.lit (.bool false)], args := [d1, d2] }
  | _ => none }
def FnExactRunExchangeWrongFalsely : Prop := fnExactRunExchangeRow.holds Try.pinned (OpenSpec.ofChange fnExactRunExchangeWrong)

/-- 'laws.FnExactIsOpDone': WHATEVER THE INPUT: true; the input reads as it did. -/
def fnExactIsOpDoneSpec : ChangeSpec := { name := "fnExactIsOpDone", fn := fun _ => fun
  | [d] => { results := [.lit (.bool true)], args := [d] }
  | _ => none }
def fnExactIsOpDoneRow : OpenClaim := { program := "ytbmafhpbinjgaaa", sum := "e049367a1c4e32fee3b2d2026a07d8c58463c2e3e0236720150d2a886175956c", func := "loop.example/g01920/laws.FnExactIsOpDone", spec := "fnExactIsOpDone", apart := false }
def FnExactIsOpDoneSaid : Prop := fnExactIsOpDoneRow.holds Try.pinned (OpenSpec.ofChange fnExactIsOpDoneSpec)

/-- ITS FALSE NEIGHBOUR: 'it returns false'. Refute it at one input. -/
def fnExactIsOpDoneWrong : ChangeSpec := { name := "fnExactIsOpDone", fn := fun _ => fun
  | [d] => { results := [.lit (.bool false)], args := [d] }
  | _ => none }
def FnExactIsOpDoneWrongFalsely : Prop := fnExactIsOpDoneRow.holds Try.pinned (OpenSpec.ofChange fnExactIsOpDoneWrong)

/-- 'laws.FnExactWrittenCost': WHATEVER THE INPUT: true; the input reads as it did. -/
def fnExactWrittenCostSpec : ChangeSpec := { name := "fnExactWrittenCost", fn := fun _ => fun
  | [d] => { results := [.lit (.bool true)], args := [d] }
  | _ => none }
def fnExactWrittenCostRow : OpenClaim := { program := "ytbmafhpbinjgaaa", sum := "e049367a1c4e32fee3b2d2026a07d8c58463c2e3e0236720150d2a886175956c", func := "loop.example/g01920/laws.FnExactWrittenCost", spec := "fnExactWrittenCost", apart := false }
def FnExactWrittenCostSaid : Prop := fnExactWrittenCostRow.holds Try.pinned (OpenSpec.ofChange fnExactWrittenCostSpec)

/-- ITS FALSE NEIGHBOUR: 'it returns false'. Refute it at one input. -/
def fnExactWrittenCostWrong : ChangeSpec := { name := "fnExactWrittenCost", fn := fun _ => fun
  | [d] => { results := [.lit (.bool false)], args := [d] }
  | _ => none }
def FnExactWrittenCostWrongFalsely : Prop := fnExactWrittenCostRow.holds Try.pinned (OpenSpec.ofChange fnExactWrittenCostWrong)

/-- 'laws.FnExactNewGroupOp': WHATEVER THE INPUT: true; the input reads as it did. -/
def fnExactNewGroupOpSpec : ChangeSpec := { name := "fnExactNewGroupOp", fn := fun _ => fun
  | [d1, d2] => { results := [.lit (.bool true)], args := [d1, d2] }
  | _ => none }
def fnExactNewGroupOpRow : OpenClaim := { program := "ytbmafhpbinjgaaa", sum := "e049367a1c4e32fee3b2d2026a07d8c58463c2e3e0236720150d2a886175956c", func := "loop.example/g01920/laws.FnExactNewGroupOp", spec := "fnExactNewGroupOp", apart := false }
def FnExactNewGroupOpSaid : Prop := fnExactNewGroupOpRow.holds Try.pinned (OpenSpec.ofChange fnExactNewGroupOpSpec)

/-- ITS FALSE NEIGHBOUR: 'it returns false'. Refute it at one input. -/
def fnExactNewGroupOpWrong : ChangeSpec := { name := "fnExactNewGroupOp", fn := fun _ => fun
  | [d1, d2] => { results := [.lit (.bool false)], args := [d1, d2] }
  | _ => none }
def FnExactNewGroupOpWrongFalsely : Prop := fnExactNewGroupOpRow.holds Try.pinned (OpenSpec.ofChange fnExactNewGroupOpWrong)

/-- 'laws.FnExactNewSortOp': WHATEVER THE INPUT: true; the input reads as it did. -/
def fnExactNewSortOpSpec : ChangeSpec := { name := "fnExactNewSortOp", fn := fun _ => fun
  | [d] => { results := [.lit (.bool true)], args := [d] }
  | _ => none }
def fnExactNewSortOpRow : OpenClaim := { program := "ytbmafhpbinjgaaa", sum := "e049367a1c4e32fee3b2d2026a07d8c58463c2e3e0236720150d2a886175956c", func := "loop.example/g01920/laws.FnExactNewSortOp", spec := "fnExactNewSortOp", apart := false }
def FnExactNewSortOpSaid : Prop := fnExactNewSortOpRow.holds Try.pinned (OpenSpec.ofChange fnExactNewSortOpSpec)

/-- ITS FALSE NEIGHBOUR: 'it returns false'. Refute it at one input. -/
def fnExactNewSortOpWrong : ChangeSpec := { name := "fnExactNewSortOp", fn := fun _ => fun
  | [d] => { results := [.lit (.bool false)], args := [d] }
  | _ => none }
def FnExactNewSortOpWrongFalsely : Prop := fnExactNewSortOpRow.holds Try.pinned (OpenSpec.ofChange fnExactNewSortOpWrong)

/-- 'laws.FnExactNewJoinOp': WHATEVER THE INPUT: true; the input reads as it did. -/
def fnExactNewJoinOpSpec : ChangeSpec := { name := "fnExactNewJoinOp", fn := fun _ => fun
  | [d1, d2, d3] => { results := [.lit (.bool true)], args := [d1, d2, d3] }
  | _ => none }
def fnExactNewJoinOpRow : OpenClaim := { program := "ytbmafhpbinjgaaa", sum := "e049367a1c4e32fee3b2d2026a07d8c58463c2e3e0236720150d2a886175956c", func := "loop.example/g01920/laws.FnExactNewJoinOp", spec := "fnExactNewJoinOp", apart := false }
def FnExactNewJoinOpSaid : Prop := fnExactNewJoinOpRow.holds Try.pinned (OpenSpec.ofChange fnExactNewJoinOpSpec)

/-- ITS FALSE NEIGHBOUR: 'it returns false'. Refute it at one input. -/
def fnExactNewJoinOpWrong : ChangeSpec := { name := "fnExactNewJoinOp", fn := fun _ => fun
  | [d1, d2, d3] => { results := [.lit (.bool false)], args := [d1, d2, d3] }
  | _ => none }
def FnExactNewJoinOpWrongFalsely : Prop := fnExactNewJoinOpRow.holds Try.pinned (OpenSpec.ofChange fnExactNewJoinOpWrong)

/-- 'laws.FnExactOpWriteBound': WHATEVER THE INPUT: true; the input reads as it did. -/
def fnExactOpWriteBoundSpec : ChangeSpec := { name := "fnExactOpWriteBound", fn := fun _ => fun
  | [d] => { results := [.lit (.bool true)], args := [d] }
  | _ => none }
def fnExactOpWriteBoundRow : OpenClaim := { program := "ytbmafhpbinjgaaa", sum := "e049367a1c4e32fee3b2d2026a07d8c58463c2e3e0236720150d2a886175956c", func := "loop.example/g01920/laws.FnExactOpWriteBound", spec := "fnExactOpWriteBound", apart := false }
def FnExactOpWriteBoundSaid : Prop := fnExactOpWriteBoundRow.holds Try.pinned (OpenSpec.ofChange fnExactOpWriteBoundSpec)

/-- ITS FALSE NEIGHBOUR: 'it returns false'. Refute it at one input. -/
def fnExactOpWriteBoundWrong : ChangeSpec := { name := "fnExactOpWriteBound", fn := fun _ => fun
  | [d] => { results := [.lit (.bool false)], args := [d] }
  | _ => none }
def FnExactOpWriteBoundWrongFalsely : Prop := fnExactOpWriteBoundRow.holds Try.pinned (OpenSpec.ofChange fnExactOpWriteBoundWrong)

/-- 'laws.FnExactNewSystem': WHATEVER THE INPUT: true; the input reads as it did. -/
def fnExactNewSystemSpec : ChangeSpec := { name := "fnExactNewSystem", fn := fun _ => fun
  | [d] => { results := [.lit (.bool true)], args := [d] }
  | _ => none }
def fnExactNewSystemRow : OpenClaim := { program := "ytbmafhpbinjgaaa", sum := "e049367a1c4e32fee3b2d2026a07d8c58463c2e3e0236720150d2a886175956c", func := "loop.example/g01920/laws.FnExactNewSystem", spec := "fnExactNewSystem", apart := false }
def FnExactNewSystemSaid : Prop := fnExactNewSystemRow.holds Try.pinned (OpenSpec.ofChange fnExactNewSystemSpec)

/-- ITS FALSE NEIGHBOUR: 'it returns false'. Refute it at one input. -/
def fnExactNewSystemWrong : ChangeSpec := { name := "fnExactNewSystem", fn := fun _ => fun
  | [d] => { results := [.lit (.bool false)], args := [d] }
  | _ => none }
def FnExactNewSystemWrongFalsely : Prop := fnExactNewSystemRow.holds Try.pinned (OpenSpec.ofChange fnExactNewSystemWrong)

/-- 'laws.FnExactIsValidCheckpoint': WHATEVER THE INPUT: true; the input reads as it did. -/
def fnExactIsValidCheckpointSpec : ChangeSpec := { name := "fnExactIsValidCheckpoint", fn := fun _ => fun
  | [d] => { results := [.lit (.bool true)], args := [d] }
  | _ => none }
def fnExactIsValidCheckpointRow : OpenClaim := { program := "ytbmafhpbinjgaaa", sum := "e049367a1c4e32fee3b2d2026a07d8c58463c2e3e0236720150d2a886175956c", func := "loop.example/g01920/laws.FnExactIsValidCheckpoint", spec := "fnExactIsValidCheckpoint", unfollowed := true, recurses := true, apart := false }
def FnExactIsValidCheckpointSaid : Prop := fnExactIsValidCheckpointRow.holds Try.pinned (OpenSpec.ofChange fnExactIsValidCheckpointSpec)

/-- ITS FALSE NEIGHBOUR: 'it returns false'. Refute it at one input. -/
def fnExactIsValidCheckpointWrong : ChangeSpec := { name := "fnExactIsValidCheckpoint", fn := fun _ => fun
  | [d] => { results := [.lit (.bool false)], args := [d] }
  | _ => none }
def FnExactIsValidCheckpointWrongFalsely : Prop := fnExactIsValidCheckpointRow.holds Try.pinned (OpenSpec.ofChange fnExactIsValidCheckpointWrong)

/-- 'laws.FnExactFormatCheckpoint': WHATEVER THE INPUT: true; the input reads as it did. -/
def fnExactFormatCheckpointSpec : ChangeSpec := { name := "fnExactFormatCheckpoint", fn := fun _ => fun
  | [d] => { results := [.lit (.bool true)], args := [d] }
  | _ => none }
def fnExactFormatCheckpointRow : OpenClaim := { program := "ytbmafhpbinjgaaa", sum := "e049367a1c4e32fee3b2d2026a07d8c58463c2e3e0236720150d2a886175956c", func := "loop.example/g01920/laws.FnExactFormatCheckpoint", spec := "fnExactFormatCheckpoint", unfollowed := true, recurses := true, apart := false }
def FnExactFormatCheckpointSaid : Prop := fnExactFormatCheckpointRow.holds Try.pinned (OpenSpec.ofChange fnExactFormatCheckpointSpec)

/-- ITS FALSE NEIGHBOUR: 'it returns false'. Refute it at one input. -/
def fnExactFormatCheckpointWrong : ChangeSpec := { name := "fnExactFormatCheckpoint", fn := fun _ => fun
  | [d] => { results := [.lit (.bool false)], args := [d] }
  | _ => none }
def FnExactFormatCheckpointWrongFalsely : Prop := fnExactFormatCheckpointRow.holds Try.pinned (OpenSpec.ofChange fnExactFormatCheckpointWrong)

/-- 'laws.FnExactParseCheckpoint': WHATEVER THE INPUT: true; the input reads as it did. -/
def fnExactParseCheckpointSpec : ChangeSpec := { name := "fnExactParseCheckpoint", fn := fun _ => fun
  | [d] => { results := [.lit (.bool true)], args := [d] }
  | _ => none }
def fnExactParseCheckpointRow : OpenClaim := { program := "ytbmafhpbinjgaaa", sum := "e049367a1c4e32fee3b2d2026a07d8c58463c2e3e0236720150d2a886175956c", func := "loop.example/g01920/laws.FnExactParseCheckpoint", spec := "fnExactParseCheckpoint", unfollowed := true, recurses := true, apart := false }
def FnExactParseCheckpointSaid : Prop := fnExactParseCheckpointRow.holds Try.pinned (OpenSpec.ofChange fnExactParseCheckpointSpec)

/-- ITS FALSE NEIGHBOUR: 'it returns false'. Refute it at one input. -/
def fnExactParseCheckpointWrong : ChangeSpec := { name := "fnExactParseCheckpoint", fn := fun _ => fun
  | [d] => { results := [.lit (.bool false)], args := [d] }
  | _ => none }
def FnExactParseCheckpointWrongFalsely : Prop := fnExactParseCheckpointRow.holds Try.pinned (OpenSpec.ofChange fnExactParseCheckpointWrong)

/- THE SECOND FORM. 'bulk': how many values and letters a reading holds, each counted each time it is reached (what is shared counts as often as it is met; a slice's spare places count too). A statement '..UptoSaid' is the law's where the arguments, and the package variables that the reading takes, are together of bulk at most 1048576: NARROWER than '..Said'. Prove '..Said' where nothing that the law and all that it calls make is longer than what came in: it says more and counts as full. Else prove '..UptoSaid'. A law counts once. -/
mutual
def uptoBulk {H : Type} : DataW H → Nat
  | .lit (.string bytes) => bytes.length + 1
  | .lit _ => 1
  | .nil => 1
  | .ptr d => uptoBulk d + 1
  | .slice elems spare => uptoBulkAll elems + uptoBulkAll spare + 1
  | .agg parts => uptoBulkAll parts + 1
  | .iface _ d => uptoBulk d + 1
  | .map entries => uptoBulkEntries entries + 1
  | .held _ => 1
def uptoBulkAll {H : Type} : List (DataW H) → Nat
  | [] => 0
  | d :: r => uptoBulk d + uptoBulkAll r
def uptoBulkEntries {H : Type} : List (Lit × DataW H) → Nat
  | [] => 0
  | x :: r => uptoBulkEntry x + uptoBulkEntries r
def uptoBulkEntry {H : Type} : Lit × DataW H → Nat
  | (.string bytes, d) => bytes.length + uptoBulk d + 1
  | (_, d) => uptoBulk d + 1
 end
def uptoSmall : (H : Type) → List (DataW H) → Bool := fun _ ds => decide (uptoBulkAll ds ≤ 1048576)
def OpenSpec.upto (s : _root_.Go.ChangeSpec) : _root_.Go.OpenSpec := { _root_.Go.OpenSpec.ofChange s with cond := some uptoSmall }

/-- 'laws.FnExactLastRecord', WHERE WHAT IT READS IS OF BULK AT MOST 1048576: true; the input reads as it did. -/
def fnExactLastRecordUptoRow : OpenClaim := { program := "ytbmafhpbinjgaaa", sum := "e049367a1c4e32fee3b2d2026a07d8c58463c2e3e0236720150d2a886175956c", func := "loop.example/g01920/laws.FnExactLastRecord", spec := "fnExactLastRecord", recurses := true, apart := false, narrowed := true }
def FnExactLastRecordUptoSaid : Prop := fnExactLastRecordUptoRow.holds Try.pinned (OpenSpec.upto fnExactLastRecordSpec)

/-- 'laws.FnExactAppendRecord', WHERE WHAT IT READS IS OF BULK AT MOST 1048576: true; the input reads as it did. -/
def fnExactAppendRecordUptoRow : OpenClaim := { program := "ytbmafhpbinjgaaa", sum := "e049367a1c4e32fee3b2d2026a07d8c58463c2e3e0236720150d2a886175956c", func := "loop.example/g01920/laws.FnExactAppendRecord", spec := "fnExactAppendRecord", recurses := true, apart := false, narrowed := true }
def FnExactAppendRecordUptoSaid : Prop := fnExactAppendRecordUptoRow.holds Try.pinned (OpenSpec.upto fnExactAppendRecordSpec)

/-- 'laws.FnExactReadRecords', WHERE WHAT IT READS IS OF BULK AT MOST 1048576: true; the input reads as it did. -/
def fnExactReadRecordsUptoRow : OpenClaim := { program := "ytbmafhpbinjgaaa", sum := "e049367a1c4e32fee3b2d2026a07d8c58463c2e3e0236720150d2a886175956c", func := "loop.example/g01920/laws.FnExactReadRecords", spec := "fnExactReadRecords", recurses := true, apart := false, narrowed := true }
def FnExactReadRecordsUptoSaid : Prop := fnExactReadRecordsUptoRow.holds Try.pinned (OpenSpec.upto fnExactReadRecordsSpec)

/-- 'laws.FnWindowFunctions', WHERE WHAT IT READS IS OF BULK AT MOST 1048576: true; the input reads as it did. -/
def fnWindowFunctionsUptoRow : OpenClaim := { program := "ytbmafhpbinjgaaa", sum := "e049367a1c4e32fee3b2d2026a07d8c58463c2e3e0236720150d2a886175956c", func := "loop.example/g01920/laws.FnWindowFunctions", spec := "fnWindowFunctions", apart := false, narrowed := true }
def FnWindowFunctionsUptoSaid : Prop := fnWindowFunctionsUptoRow.holds Try.pinned (OpenSpec.upto fnWindowFunctionsSpec)

/-- 'laws.FnExactNewExchange', WHERE WHAT IT READS IS OF BULK AT MOST 1048576: true; the input reads as it did. -/
def fnExactNewExchangeUptoRow : OpenClaim := { program := "ytbmafhpbinjgaaa", sum := "e049367a1c4e32fee3b2d2026a07d8c58463c2e3e0236720150d2a886175956c", func := "loop.example/g01920/laws.FnExactNewExchange", spec := "fnExactNewExchange", apart := false, narrowed := true }
def FnExactNewExchangeUptoSaid : Prop := fnExactNewExchangeUptoRow.holds Try.pinned (OpenSpec.upto fnExactNewExchangeSpec)

/-- 'laws.FnExactTopK', WHERE WHAT IT READS IS OF BULK AT MOST 1048576: true; the input reads as it did. -/
def fnExactTopKUptoRow : OpenClaim := { program := "ytbmafhpbinjgaaa", sum := "e049367a1c4e32fee3b2d2026a07d8c58463c2e3e0236720150d2a886175956c", func := "loop.example/g01920/laws.FnExactTopK", spec := "fnExactTopK", unfollowed := true, recurses := true, apart := false, narrowed := true }
def FnExactTopKUptoSaid : Prop := fnExactTopKUptoRow.holds Try.pinned (OpenSpec.upto fnExactTopKSpec)

/-- 'laws.FnExactInsertTopK', WHERE WHAT IT READS IS OF BULK AT MOST 1048576: true; the input reads as it did. -/
def fnExactInsertTopKUptoRow : OpenClaim := { program := "ytbmafhpbinjgaaa", sum := "e049367a1c4e32fee3b2d2026a07d8c58463c2e3e0236720150d2a886175956c", func := "loop.example/g01920/laws.FnExactInsertTopK", spec := "fnExactInsertTopK", unfollowed := true, recurses := true, apart := false, narrowed := true }
def FnExactInsertTopKUptoSaid : Prop := fnExactInsertTopKUptoRow.holds Try.pinned (OpenSpec.upto fnExactInsertTopKSpec)

/-- 'laws.FnTopK', WHERE WHAT IT READS IS OF BULK AT MOST 1048576: true; the input reads as it did. -/
def fnTopKUptoRow : OpenClaim := { program := "ytbmafhpbinjgaaa", sum := "e049367a1c4e32fee3b2d2026a07d8c58463c2e3e0236720150d2a886175956c", func := "loop.example/g01920/laws.FnTopK", spec := "fnTopK", unfollowed := true, recurses := true, apart := false, narrowed := true }
def FnTopKUptoSaid : Prop := fnTopKUptoRow.holds Try.pinned (OpenSpec.upto fnTopKSpec)

/-- 'laws.FnExactReceiveRow', WHERE WHAT IT READS IS OF BULK AT MOST 1048576: true; the input reads as it did. -/
def fnExactReceiveRowUptoRow : OpenClaim := { program := "ytbmafhpbinjgaaa", sum := "e049367a1c4e32fee3b2d2026a07d8c58463c2e3e0236720150d2a886175956c", func := "loop.example/g01920/laws.FnExactReceiveRow", spec := "fnExactReceiveRow", apart := false, narrowed := true }
def FnExactReceiveRowUptoSaid : Prop := fnExactReceiveRowUptoRow.holds Try.pinned (OpenSpec.upto fnExactReceiveRowSpec)

/-- 'laws.FnExactSendRow', WHERE WHAT IT READS IS OF BULK AT MOST 1048576: true; the input reads as it did. -/
def fnExactSendRowUptoRow : OpenClaim := { program := "ytbmafhpbinjgaaa", sum := "e049367a1c4e32fee3b2d2026a07d8c58463c2e3e0236720150d2a886175956c", func := "loop.example/g01920/laws.FnExactSendRow", spec := "fnExactSendRow", apart := false, narrowed := true }
def FnExactSendRowUptoSaid : Prop := fnExactSendRowUptoRow.holds Try.pinned (OpenSpec.upto fnExactSendRowSpec)

/-- 'laws.FnJournalRecovery', WHERE WHAT IT READS IS OF BULK AT MOST 1048576: true; the input reads as it did. -/
def fnJournalRecoveryUptoRow : OpenClaim := { program := "ytbmafhpbinjgaaa", sum := "e049367a1c4e32fee3b2d2026a07d8c58463c2e3e0236720150d2a886175956c", func := "loop.example/g01920/laws.FnJournalRecovery", spec := "fnJournalRecovery", recurses := true, apart := false, narrowed := true }
def FnJournalRecoveryUptoSaid : Prop := fnJournalRecoveryUptoRow.holds Try.pinned (OpenSpec.upto fnJournalRecoverySpec)

/-- 'laws.FnExactFormatOutput', WHERE WHAT IT READS IS OF BULK AT MOST 1048576: true; the input reads as it did. -/
def fnExactFormatOutputUptoRow : OpenClaim := { program := "ytbmafhpbinjgaaa", sum := "e049367a1c4e32fee3b2d2026a07d8c58463c2e3e0236720150d2a886175956c", func := "loop.example/g01920/laws.FnExactFormatOutput", spec := "fnExactFormatOutput", recurses := true, apart := false, narrowed := true }
def FnExactFormatOutputUptoSaid : Prop := fnExactFormatOutputUptoRow.holds Try.pinned (OpenSpec.upto fnExactFormatOutputSpec)

/-- 'laws.FnExchangeDelivery', WHERE WHAT IT READS IS OF BULK AT MOST 1048576: true; the input reads as it did. -/
def fnExchangeDeliveryUptoRow : OpenClaim := { program := "ytbmafhpbinjgaaa", sum := "e049367a1c4e32fee3b2d2026a07d8c58463c2e3e0236720150d2a886175956c", func := "loop.example/g01920/laws.FnExchangeDelivery", spec := "fnExchangeDelivery", apart := false, narrowed := true }
def FnExchangeDeliveryUptoSaid : Prop := fnExchangeDeliveryUptoRow.holds Try.pinned (OpenSpec.upto fnExchangeDeliverySpec)

/-- 'laws.FnExchangeSteps', WHERE WHAT IT READS IS OF BULK AT MOST 1048576: true; the input reads as it did. -/
def fnExchangeStepsUptoRow : OpenClaim := { program := "ytbmafhpbinjgaaa", sum := "e049367a1c4e32fee3b2d2026a07d8c58463c2e3e0236720150d2a886175956c", func := "loop.example/g01920/laws.FnExchangeSteps", spec := "fnExchangeSteps", apart := false, narrowed := true }
def FnExchangeStepsUptoSaid : Prop := fnExchangeStepsUptoRow.holds Try.pinned (OpenSpec.upto fnExchangeStepsSpec)

/-- 'laws.FnExactRunExchange', WHERE WHAT IT READS IS OF BULK AT MOST 1048576: true; the input reads as it did. -/
def fnExactRunExchangeUptoRow : OpenClaim := { program := "ytbmafhpbinjgaaa", sum := "e049367a1c4e32fee3b2d2026a07d8c58463c2e3e0236720150d2a886175956c", func := "loop.example/g01920/laws.FnExactRunExchange", spec := "fnExactRunExchange", apart := false, narrowed := true }
def FnExactRunExchangeUptoSaid : Prop := fnExactRunExchangeUptoRow.holds Try.pinned (OpenSpec.upto fnExactRunExchangeSpec)

/-- 'laws.FnExactIsOpDone', WHERE WHAT IT READS IS OF BULK AT MOST 1048576: true; the input reads as it did. -/
def fnExactIsOpDoneUptoRow : OpenClaim := { program := "ytbmafhpbinjgaaa", sum := "e049367a1c4e32fee3b2d2026a07d8c58463c2e3e0236720150d2a886175956c", func := "loop.example/g01920/laws.FnExactIsOpDone", spec := "fnExactIsOpDone", apart := false, narrowed := true }
def FnExactIsOpDoneUptoSaid : Prop := fnExactIsOpDoneUptoRow.holds Try.pinned (OpenSpec.upto fnExactIsOpDoneSpec)

/-- 'laws.FnExactWrittenCost', WHERE WHAT IT READS IS OF BULK AT MOST 1048576: true; the input reads as it did. -/
def fnExactWrittenCostUptoRow : OpenClaim := { program := "ytbmafhpbinjgaaa", sum := "e049367a1c4e32fee3b2d2026a07d8c58463c2e3e0236720150d2a886175956c", func := "loop.example/g01920/laws.FnExactWrittenCost", spec := "fnExactWrittenCost", apart := false, narrowed := true }
def FnExactWrittenCostUptoSaid : Prop := fnExactWrittenCostUptoRow.holds Try.pinned (OpenSpec.upto fnExactWrittenCostSpec)

/-- 'laws.FnExactNewGroupOp', WHERE WHAT IT READS IS OF BULK AT MOST 1048576: true; the input reads as it did. -/
def fnExactNewGroupOpUptoRow : OpenClaim := { program := "ytbmafhpbinjgaaa", sum := "e049367a1c4e32fee3b2d2026a07d8c58463c2e3e0236720150d2a886175956c", func := "loop.example/g01920/laws.FnExactNewGroupOp", spec := "fnExactNewGroupOp", apart := false, narrowed := true }
def FnExactNewGroupOpUptoSaid : Prop := fnExactNewGroupOpUptoRow.holds Try.pinned (OpenSpec.upto fnExactNewGroupOpSpec)

/-- 'laws.FnExactNewSortOp', WHERE WHAT IT READS IS OF BULK AT MOST 1048576: true; the input reads as it did. -/
def fnExactNewSortOpUptoRow : OpenClaim := { program := "ytbmafhpbinjgaaa", sum := "e049367a1c4e32fee3b2d2026a07d8c58463c2e3e0236720150d2a886175956c", func := "loop.example/g01920/laws.FnExactNewSortOp", spec := "fnExactNewSortOp", apart := false, narrowed := true }
def FnExactNewSortOpUptoSaid : Prop := fnExactNewSortOpUptoRow.holds Try.pinned (OpenSpec.upto fnExactNewSortOpSpec)

/-- 'laws.FnExactNewJoinOp', WHERE WHAT IT READS IS OF BULK AT MOST 1048576: true; the input reads as it did. -/
def fnExactNewJoinOpUptoRow : OpenClaim := { program := "ytbmafhpbinjgaaa", sum := "e049367a1c4e32fee3b2d2026a07d8c58463c2e3e0236720150d2a886175956c", func := "loop.example/g01920/laws.FnExactNewJoinOp", spec := "fnExactNewJoinOp", apart := false, narrowed := true }
def FnExactNewJoinOpUptoSaid : Prop := fnExactNewJoinOpUptoRow.holds Try.pinned (OpenSpec.upto fnExactNewJoinOpSpec)

/-- 'laws.FnExactOpWriteBound', WHERE WHAT IT READS IS OF BULK AT MOST 1048576: true; the input reads as it did. -/
def fnExactOpWriteBoundUptoRow : OpenClaim := { program := "ytbmafhpbinjgaaa", sum := "e049367a1c4e32fee3b2d2026a07d8c58463c2e3e0236720150d2a886175956c", func := "loop.example/g01920/laws.FnExactOpWriteBound", spec := "fnExactOpWriteBound", apart := false, narrowed := true }
def FnExactOpWriteBoundUptoSaid : Prop := fnExactOpWriteBoundUptoRow.holds Try.pinned (OpenSpec.upto fnExactOpWriteBoundSpec)

/-- 'laws.FnExactNewSystem', WHERE WHAT IT READS IS OF BULK AT MOST 1048576: true; the input reads as it did. -/
def fnExactNewSystemUptoRow : OpenClaim := { program := "ytbmafhpbinjgaaa", sum := "e049367a1c4e32fee3b2d2026a07d8c58463c2e3e0236720150d2a886175956c", func := "loop.example/g01920/laws.FnExactNewSystem", spec := "fnExactNewSystem", apart := false, narrowed := true }
def FnExactNewSystemUptoSaid : Prop := fnExactNewSystemUptoRow.holds Try.pinned (OpenSpec.upto fnExactNewSystemSpec)

/-- 'laws.FnExactIsValidCheckpoint', WHERE WHAT IT READS IS OF BULK AT MOST 1048576: true; the input reads as it did. -/
def fnExactIsValidCheckpointUptoRow : OpenClaim := { program := "ytbmafhpbinjgaaa", sum := "e049367a1c4e32fee3b2d2026a07d8c58463c2e3e0236720150d2a886175956c", func := "loop.example/g01920/laws.FnExactIsValidCheckpoint", spec := "fnExactIsValidCheckpoint", unfollowed := true, recurses := true, apart := false, narrowed := true }
def FnExactIsValidCheckpointUptoSaid : Prop := fnExactIsValidCheckpointUptoRow.holds Try.pinned (OpenSpec.upto fnExactIsValidCheckpointSpec)

/-- 'laws.FnExactFormatCheckpoint', WHERE WHAT IT READS IS OF BULK AT MOST 1048576: true; the input reads as it did. -/
def fnExactFormatCheckpointUptoRow : OpenClaim := { program := "ytbmafhpbinjgaaa", sum := "e049367a1c4e32fee3b2d2026a07d8c58463c2e3e0236720150d2a886175956c", func := "loop.example/g01920/laws.FnExactFormatCheckpoint", spec := "fnExactFormatCheckpoint", unfollowed := true, recurses := true, apart := false, narrowed := true }
def FnExactFormatCheckpointUptoSaid : Prop := fnExactFormatCheckpointUptoRow.holds Try.pinned (OpenSpec.upto fnExactFormatCheckpointSpec)

/-- 'laws.FnExactParseCheckpoint', WHERE WHAT IT READS IS OF BULK AT MOST 1048576: true; the input reads as it did. -/
def fnExactParseCheckpointUptoRow : OpenClaim := { program := "ytbmafhpbinjgaaa", sum := "e049367a1c4e32fee3b2d2026a07d8c58463c2e3e0236720150d2a886175956c", func := "loop.example/g01920/laws.FnExactParseCheckpoint", spec := "fnExactParseCheckpoint", unfollowed := true, recurses := true, apart := false, narrowed := true }
def FnExactParseCheckpointUptoSaid : Prop := fnExactParseCheckpointUptoRow.holds Try.pinned (OpenSpec.upto fnExactParseCheckpointSpec)

end Rows
end Go.Proofs.Ytbmafhpbinjgaaa
