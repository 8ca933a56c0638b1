/- Marks of systems; no condition. -/
import Derived.Test.YtbmafhpbinjgaaaEqE
namespace Go.Proofs.Ytbmafhpbinjgaaa.Vai
open Go
set_option linter.unusedSimpArgs false
set_option linter.unusedVariables false
set_option linter.unnecessarySimpa false
set_option maxRecDepth 100000
noncomputable def L_laws_markSlotS_0 (x0 : Int) (x1 : Int) (x2 : List (List Dat)) : Option (List Dat) := loopK tE f_laws_markSlotS 0 ⟨[(0, (.own (1000000, 0))), (1, (.i .i64 x0)), (5, (.i .i64 x1))], [((1000000, 0), (.row 294 x2 Bool.true 0 []))]⟩
theorem L_laws_markSlotS_0_nil (x0 : Int) : L_laws_markSlotS_0 x0 0 [] = some [.int x0, .sl []] := (loopK_run (by kernel_rfl)).trans (by kernel_rfl)
theorem c_laws_markSlotS (a0 : List (List Dat)) (a1 : Int) : callI tE f_laws_markSlotS [.sl a0, .int a1] = (L_laws_markSlotS_0 a1 0 a0) := (callI_run rfl (by kernel_rfl)).trans (by kernel_rfl)
theorem c_laws_markSystem (a0 : Int) (a1 : Int) (a2 : List (List Dat)) (a3 : List (List Dat)) (a4 : List (List Dat)) (a5 : Int) (a6 : Int) : callI tE f_laws_markSystem [.int a0, .int a1, .sl a2, .sl a3, .sl a4, .int a5, .int a6] = (((callI tE f_laws_markBroker [(.int a0), (.int a1), (.sl a2), (.sl a3), (.int a6)])).bind (fun r0 => (((callI tE f_laws_markSlotS [(.sl a4), (.int (gn r0))])).bind (fun r1 => (some [(.int (gn r1)), (.sl (gl (List.drop 1 r0))), (.sl (gl (tk 1 (List.drop 1 r0)))), (.sl (gl (List.drop 1 r1)))]))))) := (callI_run rfl (by kernel_rfl)).trans (by kernel_rfl)
end Go.Proofs.Ytbmafhpbinjgaaa.Vai
