/- What functions of this claim come to, call by call and round by round; no condition. -/
import Derived.Test.YtbmafhpbinjgaaaEqNames
namespace Go.Proofs.Ytbmafhpbinjgaaa.Vai
open Go
set_option linter.unusedSimpArgs false
set_option linter.unusedVariables false
set_option linter.unnecessarySimpa false
set_option maxRecDepth 100000
theorem c_laws_FnExactFormatOutput (a0 : List (List Dat)) (a1 : List (List Dat)) (a2 : List (List Dat)) : callI tE f_laws_FnExactFormatOutput [.sl a0, .sl a1, .sl a2] = (((callI tE f_laws_szOutput [(.sl a0), (.sl a1), (.sl a2), (.int 1048576)])).bind (fun r0 => (bif (ltI (gn r0) 0) then (some [(.bool Bool.true)]) else (((callI tE f_laws_toOutput [(.sl a0), (.sl a1), (.sl a2)])).bind (fun r1 => (((callI tE f_spec_FormatOutput [(.sl (gl r1)), (.sl (gl (tk 1 r1))), (.sl (gl (tk 2 r1)))])).bind (fun r2 => (((callI tE f_laws_toOutput [(.sl a0), (.sl a1), (.sl a2)])).bind (fun r3 => (((callI tE f_impl_FormatOutput [(.sl (gl r3)), (.sl (gl (tk 1 r3))), (.sl (gl (tk 2 r3)))])).bind (fun r4 => (bif (!(eqS (gs r4) (gs r2))) then (some [(.bool Bool.false)]) else (((callI tE f_laws_toOutput [(.sl a0), (.sl a1), (.sl a2)])).bind (fun r5 => (((callI tE f_laws_eqOutput [(.sl (gl r3)), (.sl (gl (tk 1 r3))), (.sl (gl (tk 2 r3))), (.sl (gl r5)), (.sl (gl (tk 1 r5))), (.sl (gl (tk 2 r5)))])).bind (fun r6 => (bif (!(gb r6)) then (some [(.bool Bool.false)]) else (some [(.bool Bool.true)])))))))))))))))))) := (callI_run rfl (by kernel_rfl)).trans (by kernel_rfl)
end Go.Proofs.Ytbmafhpbinjgaaa.Vai
