/- What functions of this claim come to, call by call and round by round; no condition. -/
import Derived.Test.YtbmafhpbinjgaaaEqNames
namespace Go.Proofs.Ytbmafhpbinjgaaa.Vai
open Go
set_option linter.unusedSimpArgs false
set_option linter.unusedVariables false
set_option linter.unnecessarySimpa false
set_option maxRecDepth 100000
theorem c_laws_FnExactReadRecords (a0 : ByteArray) : callI tE f_laws_FnExactReadRecords [.str a0] = (bif (ltI 1048576 (szI a0)) then (some [(.bool Bool.true)]) else (((callI tE f_spec_ReadRecords [(.str a0)])).bind (fun r0 => (((callI tE f_impl_ReadRecords [(.str a0)])).bind (fun r1 => (((callI tE f_laws_eqStringS [(.sl (gl r1)), (.sl (gl r0))])).bind (fun r2 => (bif (!(gb r2)) then (some [(.bool Bool.false)]) else (bif (!(eqBo (gb (tk 1 r1)) (gb (tk 1 r0)))) then (some [(.bool Bool.false)]) else (((callI tE f_laws_markStringS [(.sl (gl r1)), (.int 1)])).bind (fun r3 => (((callI tE f_laws_heldStringS [(.sl (gl (List.drop 1 r3))), (.int 1)])).bind (fun r4 => (bif (ltI (gn r4) 0) then (some [(.bool Bool.false)]) else (bif (!(eqI (gn r4) (gn r3))) then (some [(.bool Bool.false)]) else (((callI tE f_impl_ReadRecords [(.str a0)])).bind (fun r5 => (((callI tE f_laws_eqStringS [(.sl (gl r5)), (.sl (gl r0))])).bind (fun r6 => (bif (!(gb r6)) then (some [(.bool Bool.false)]) else (bif (!(eqBo (gb (tk 1 r5)) (gb (tk 1 r0)))) then (some [(.bool Bool.false)]) else (((callI tE f_laws_heldStringS [(.sl (gl (List.drop 1 r3))), (.int 1)])).bind (fun r7 => (bif (ltI (gn r7) 0) then (some [(.bool Bool.false)]) else (bif (!(eqI (gn r7) (gn r3))) then (some [(.bool Bool.false)]) else (some [(.bool Bool.true)])))))))))))))))))))))))))) := (callI_run rfl (by kernel_rfl)).trans (by kernel_rfl)
end Go.Proofs.Ytbmafhpbinjgaaa.Vai
