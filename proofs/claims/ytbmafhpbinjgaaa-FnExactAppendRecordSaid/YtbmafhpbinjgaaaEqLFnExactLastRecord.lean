/- What functions of this claim come to, call by call and round by round; no condition. -/
import Derived.Test.YtbmafhpbinjgaaaEqNames
namespace Go.Proofs.Ytbmafhpbinjgaaa.Vai
open Go
set_option linter.unusedSimpArgs false
set_option linter.unusedVariables false
set_option linter.unnecessarySimpa false
set_option maxRecDepth 100000
theorem c_laws_FnExactLastRecord (a0 : ByteArray) : callI tE f_laws_FnExactLastRecord [.str a0] = (bif (ltI 1048576 (szI a0)) then (some [(.bool Bool.true)]) else (((callI tE f_spec_LastRecord [(.str a0)])).bind (fun r0 => (((callI tE f_impl_LastRecord [(.str a0)])).bind (fun r1 => (bif (!(eqS (gs r1) (gs r0))) then (some [(.bool Bool.false)]) else (bif (!(eqBo (gb (tk 1 r1)) (gb (tk 1 r0)))) then (some [(.bool Bool.false)]) else (some [(.bool Bool.true)])))))))) := (callI_run rfl (by kernel_rfl)).trans (by kernel_rfl)
end Go.Proofs.Ytbmafhpbinjgaaa.Vai
