/- What the law of this claim leans on; no condition. -/
import Derived.Test.YtceoogjanfbdcaaGreatPkFnExactRoundBound1
namespace Go.Proofs.YtceoogjanfbdcaaGreat.Vai
open Go
set_option linter.unusedSimpArgs false
set_option linter.unusedVariables false
set_option linter.unnecessarySimpa false
set_option maxRecDepth 100000
theorem c_laws_szTask (a0 : Int) (a1 : List (List Dat)) (a2 : List (List Dat)) (a3 : List (List Dat)) (a4 : Int) (a5 : Int) : callI tE f_laws_szTask [.int a0, .sl a1, .sl a2, .sl a3, .int a4, .int a5] = (((callI tE f_laws_szRowS [(.sl a1), (.int a5)])).bind (fun r0 => (bif (ltI (gn r0) 0) then (some [(.int (-1))]) else (((callI tE f_laws_szRowS [(.sl a2), (.int (gn r0))])).bind (fun r1 => (bif (ltI (gn r1) 0) then (some [(.int (-1))]) else (((callI tE f_laws_szBoolS [(.sl a3), (.int (gn r1))])).bind (fun r2 => (bif (ltI (gn r2) 0) then (some [(.int (-1))]) else (some [(.int (gn r2))])))))))))) := (callI_run rfl (by kernel_rfl)).trans (by kernel_rfl)
noncomputable def L_laws_szTaskS_0 (x0 : List (List Dat)) (x1 : Int) (x2 : Int) : Option (List Dat) := loopK tE f_laws_szTaskS 0 ⟨[(0, (.ro 290 Bool.false x0)), (1, (.i .i64 x1)), (5, (.i .i64 x2))], []⟩
theorem L_laws_szTaskS_0_eq (x0 : List (List Dat)) (x1 : Int) (x2 : Int) : L_laws_szTaskS_0 x0 x1 x2 = (bif (ltI x2 (lenI x0)) then (bif (inR x2 (lenI x0)) then (((callI tE f_laws_szTask [(.int (gn (at' x0 (tn x2)))), (.sl (gl (tk 1 (at' x0 (tn x2))))), (.sl (gl (tk 2 (at' x0 (tn x2))))), (.sl (gl (tk 3 (at' x0 (tn x2))))), (.int (gn (tk 4 (at' x0 (tn x2))))), (.int x1)])).bind (fun r0 => (bif (ltI (gn r0) 0) then (some [(.int (-1))]) else (L_laws_szTaskS_0 x0 (gn r0) (w64 (x2 + 1)))))) else none) else (some [(.int x1)])) := (loopK_run (by kernel_rfl)).trans (by kernel_rfl)
theorem c_laws_szTaskS (a0 : List (List Dat)) (a1 : Int) : callI tE f_laws_szTaskS [.sl a0, .int a1] = (bif (ltI (w64 (a1 - (lenI a0))) 0) then (some [(.int (-1))]) else (L_laws_szTaskS_0 a0 (w64 (a1 - (lenI a0))) 0)) := (callI_run rfl (by kernel_rfl)).trans (by kernel_rfl)
theorem c_laws_szJoiner (a0 : List (List Dat)) (a1 : Int) (a2 : Int) (a3 : Int) : callI tE f_laws_szJoiner [.sl a0, .int a1, .int a2, .int a3] = (((callI tE f_laws_szTaskS [(.sl a0), (.int a3)])).bind (fun r0 => (bif (ltI (gn r0) 0) then (some [(.int (-1))]) else (some [(.int (gn r0))])))) := (callI_run rfl (by kernel_rfl)).trans (by kernel_rfl)
theorem c_laws_szGroupTask (a0 : List (List Dat)) (a1 : Int) (a2 : Int) : callI tE f_laws_szGroupTask [.sl a0, .int a1, .int a2] = (((callI tE f_laws_szRowS [(.sl a0), (.int a2)])).bind (fun r0 => (bif (ltI (gn r0) 0) then (some [(.int (-1))]) else (some [(.int (gn r0))])))) := (callI_run rfl (by kernel_rfl)).trans (by kernel_rfl)
noncomputable def L_laws_szGroupTaskS_0 (x0 : List (List Dat)) (x1 : Int) (x2 : Int) : Option (List Dat) := loopK tE f_laws_szGroupTaskS 0 ⟨[(0, (.ro 293 Bool.false x0)), (1, (.i .i64 x1)), (5, (.i .i64 x2))], []⟩
theorem L_laws_szGroupTaskS_0_eq (x0 : List (List Dat)) (x1 : Int) (x2 : Int) : L_laws_szGroupTaskS_0 x0 x1 x2 = (bif (ltI x2 (lenI x0)) then (bif (inR x2 (lenI x0)) then (((callI tE f_laws_szGroupTask [(.sl (gl (at' x0 (tn x2)))), (.int (gn (tk 1 (at' x0 (tn x2))))), (.int x1)])).bind (fun r0 => (bif (ltI (gn r0) 0) then (some [(.int (-1))]) else (L_laws_szGroupTaskS_0 x0 (gn r0) (w64 (x2 + 1)))))) else none) else (some [(.int x1)])) := (loopK_run (by kernel_rfl)).trans (by kernel_rfl)
theorem c_laws_szGroupTaskS (a0 : List (List Dat)) (a1 : Int) : callI tE f_laws_szGroupTaskS [.sl a0, .int a1] = (bif (ltI (w64 (a1 - (lenI a0))) 0) then (some [(.int (-1))]) else (L_laws_szGroupTaskS_0 a0 (w64 (a1 - (lenI a0))) 0)) := (callI_run rfl (by kernel_rfl)).trans (by kernel_rfl)
theorem c_laws_szAggregator (a0 : List (List Dat)) (a1 : Int) (a2 : Bool) (a3 : Int) : callI tE f_laws_szAggregator [.sl a0, .int a1, .bool a2, .int a3] = (((callI tE f_laws_szGroupTaskS [(.sl a0), (.int a3)])).bind (fun r0 => (bif (ltI (gn r0) 0) then (some [(.int (-1))]) else (some [(.int (gn r0))])))) := (callI_run rfl (by kernel_rfl)).trans (by kernel_rfl)
theorem c_laws_szOp (a0 : Int) (a1 : List (List Dat)) (a2 : Int) (a3 : List (List Dat)) (a4 : List (List Dat)) (a5 : List (List Dat)) (a6 : List (List Dat)) (a7 : Int) (a8 : Int) (a9 : Int) (a10 : Int) (a11 : List (List Dat)) (a12 : Int) (a13 : Int) (a14 : List (List Dat)) (a15 : Int) (a16 : Bool) (a17 : Int) : callI tE f_laws_szOp [.int a0, .sl a1, .int a2, .sl a3, .sl a4, .sl a5, .sl a6, .int a7, .int a8, .int a9, .int a10, .sl a11, .int a12, .int a13, .sl a14, .int a15, .bool a16, .int a17] = (((callI tE f_laws_szSorter [(.sl a1), (.int a2), (.sl a3), (.sl a4), (.sl a5), (.sl a6), (.int a7), (.int a8), (.int a9), (.int a10), (.int a17)])).bind (fun r0 => (bif (ltI (gn r0) 0) then (some [(.int (-1))]) else (((callI tE f_laws_szJoiner [(.sl a11), (.int a12), (.int a13), (.int (gn r0))])).bind (fun r1 => (bif (ltI (gn r1) 0) then (some [(.int (-1))]) else (((callI tE f_laws_szAggregator [(.sl a14), (.int a15), (.bool a16), (.int (gn r1))])).bind (fun r2 => (bif (ltI (gn r2) 0) then (some [(.int (-1))]) else (some [(.int (gn r2))])))))))))) := (callI_run rfl (by kernel_rfl)).trans (by kernel_rfl)
theorem c_laws_szPairS (a0 : List (List Dat)) (a1 : Int) : callI tE f_laws_szPairS [.sl a0, .int a1] = (bif (ltI (w64 (a1 - (lenI a0))) 0) then (some [(.int (-1))]) else (some [(.int (w64 (a1 - (lenI a0))))])) := (callI_run rfl (by kernel_rfl)).trans (by kernel_rfl)
theorem c_laws_szGroupS (a0 : List (List Dat)) (a1 : Int) : callI tE f_laws_szGroupS [.sl a0, .int a1] = (bif (ltI (w64 (a1 - (lenI a0))) 0) then (some [(.int (-1))]) else (some [(.int (w64 (a1 - (lenI a0))))])) := (callI_run rfl (by kernel_rfl)).trans (by kernel_rfl)
theorem c_laws_szOutput (a0 : List (List Dat)) (a1 : List (List Dat)) (a2 : List (List Dat)) (a3 : Int) : callI tE f_laws_szOutput [.sl a0, .sl a1, .sl a2, .int a3] = (((callI tE f_laws_szRowS [(.sl a0), (.int a3)])).bind (fun r0 => (bif (ltI (gn r0) 0) then (some [(.int (-1))]) else (((callI tE f_laws_szPairS [(.sl a1), (.int (gn r0))])).bind (fun r1 => (bif (ltI (gn r1) 0) then (some [(.int (-1))]) else (((callI tE f_laws_szGroupS [(.sl a2), (.int (gn r1))])).bind (fun r2 => (bif (ltI (gn r2) 0) then (some [(.int (-1))]) else (some [(.int (gn r2))])))))))))) := (callI_run rfl (by kernel_rfl)).trans (by kernel_rfl)
theorem c_spec_IsValidJoinKind (a0 : Int) : callI tE f_spec_IsValidJoinKind [.int a0] = (((callI tE f_spec_l1In [(.int a0), (.int 1), (.int 4)])).bind (fun r0 => (some [(.bool (gb r0))]))) := (callI_run rfl (by kernel_rfl)).trans (by kernel_rfl)
theorem c_spec_IsValidTask (a0 : Int) (a1 : List (List Dat)) (a2 : List (List Dat)) (a3 : List (List Dat)) (a4 : Int) : callI tE f_spec_IsValidTask [.int a0, .sl a1, .sl a2, .sl a3, .int a4] = (((callI tE f_spec_IsValidJoinKind [(.int a0)])).bind (fun r0 => (bif (gb r0) then (((callI tE f_spec_AreValidRows [(.sl a1)])).bind (fun r1 => (bif (gb r1) then (((callI tE f_spec_AreValidRows [(.sl a2)])).bind (fun r2 => (bif (gb r2) then (bif (eqI (lenI a3) (lenI a1)) then (((callI tE f_spec_l1In [(.int a4), (.int 0), (.int 4)])).bind (fun r3 => (some [(.bool (gb r3))]))) else (some [(.bool Bool.false)])) else (some [(.bool Bool.false)])))) else (some [(.bool Bool.false)])))) else (some [(.bool Bool.false)])))) := (callI_run rfl (by kernel_rfl)).trans (by kernel_rfl)
noncomputable def L_spec_IsValidJoiner_0 (x0 : Int) (x1 : Int) (x2 : Int) (x3 : Int) (x4 : List (List Dat)) (x5 : Int) (x6 : Int) : Option (List Dat) := loopK tE f_spec_IsValidJoiner 0 ⟨[(1, (.ptr (500000, 0) x0 0)), (3, (.i .i64 x1)), (4, (.i .i64 x2)), (5, (.i .i64 x3))], [((500000, 0), (.box 127 [(.ro 145 Bool.false x4), (.i .i64 x5), (.i .i64 x6)]))]⟩
theorem L_spec_IsValidJoiner_0_eq (x0 : Int) (x1 : Int) (x2 : Int) (x3 : Int) (x4 : List (List Dat)) (x5 : Int) (x6 : Int) : L_spec_IsValidJoiner_0 x0 x1 x2 x3 x4 x5 x6 = (bif (ltI x3 (lenI x4)) then (bif (inR x3 (lenI x4)) then (((callI tE f_spec_IsValidTask [(.int (gn (at' x4 (tn x3)))), (.sl (gl (tk 1 (at' x4 (tn x3))))), (.sl (gl (tk 2 (at' x4 (tn x3))))), (.sl (gl (tk 3 (at' x4 (tn x3))))), (.int (gn (tk 4 (at' x4 (tn x3)))))])).bind (fun r0 => (bif (!(gb r0)) then (some [(.bool Bool.false)]) else (bif (inR x3 (lenI x4)) then (bif (inR 0 (lenI x4)) then (bif (!(eqI (gn (at' x4 (tn x3))) (gn (at' x4 (tn 0))))) then (some [(.bool Bool.false)]) else (bif (inR x3 (lenI x4)) then (bif (inR x3 (lenI x4)) then (L_spec_IsValidJoiner_0 x0 (w64 (x1 + (lenI (gl (List.drop 1 (at' x4 (tn x3))))))) (w64 (x2 + (lenI (gl (List.drop 2 (at' x4 (tn x3))))))) (w64 (x3 + 1)) x4 x5 x6) else none) else none)) else none) else none)))) else none) else (bif (leI x1 24) then (bif (leI x2 24) then (bif (leI (lenI x4) 40) then (((callI tE f_spec_l1In [(.int x5), (.int 0), (.int 100000)])).bind (fun r0 => (bif (gb r0) then (((callI tE f_spec_l1In [(.int x6), (.int 0), (.int 1000)])).bind (fun r1 => (some [(.bool (gb r1))]))) else (some [(.bool Bool.false)])))) else (some [(.bool Bool.false)])) else (some [(.bool Bool.false)])) else (some [(.bool Bool.false)]))) := (loopK_run (by kernel_rfl)).trans (by kernel_rfl)
theorem c_spec_IsValidJoiner (a0 : List (List Dat)) (a1 : Int) (a2 : Int) : callI tE f_spec_IsValidJoiner [.sl a0, .int a1, .int a2] = (L_spec_IsValidJoiner_0 0 0 0 0 a0 a1 a2) := (callI_run rfl (by kernel_rfl)).trans (by kernel_rfl)
noncomputable def L_spec_IsValidAggregator_0 (x0 : Int) (x1 : Int) (x2 : Int) (x3 : List (List Dat)) (x4 : Int) (x5 : Bool) : Option (List Dat) := loopK tE f_spec_IsValidAggregator 0 ⟨[(1, (.ptr (500000, 0) x0 0)), (3, (.i .i64 x1)), (4, (.i .i64 x2))], [((500000, 0), (.box 130 [(.ro 148 Bool.false x3), (.i .i64 x4), (.b x5)]))]⟩
theorem L_spec_IsValidAggregator_0_eq (x0 : Int) (x1 : Int) (x2 : Int) (x3 : List (List Dat)) (x4 : Int) (x5 : Bool) : L_spec_IsValidAggregator_0 x0 x1 x2 x3 x4 x5 = (bif (ltI x2 (lenI x3)) then (bif (inR x2 (lenI x3)) then (((callI tE f_spec_AreValidRows [(.sl (gl (at' x3 (tn x2))))])).bind (fun r0 => (bif (!(gb r0)) then (some [(.bool Bool.false)]) else (bif (inR x2 (lenI x3)) then (((callI tE f_spec_l1In [(.int (gn (List.drop 1 (at' x3 (tn x2))))), (.int 0), (.int 4)])).bind (fun r1 => (bif (!(gb r1)) then (some [(.bool Bool.false)]) else (bif (inR x2 (lenI x3)) then (L_spec_IsValidAggregator_0 x0 (w64 (x1 + (lenI (gl (at' x3 (tn x2)))))) (w64 (x2 + 1)) x3 x4 x5) else none)))) else none)))) else none) else (bif (leI x1 24) then (bif (leI (lenI x3) 40) then (((callI tE f_spec_l1In [(.int x4), (.int 0), (.int 100000)])).bind (fun r0 => (some [(.bool (gb r0))]))) else (some [(.bool Bool.false)])) else (some [(.bool Bool.false)]))) := (loopK_run (by kernel_rfl)).trans (by kernel_rfl)
theorem c_spec_IsValidAggregator (a0 : List (List Dat)) (a1 : Int) (a2 : Bool) : callI tE f_spec_IsValidAggregator [.sl a0, .int a1, .bool a2] = (L_spec_IsValidAggregator_0 0 0 0 a0 a1 a2) := (callI_run rfl (by kernel_rfl)).trans (by kernel_rfl)
theorem c_spec_IsOpDone (a0 : Int) (a1 : List (List Dat)) (a2 : Int) (a3 : List (List Dat)) (a4 : List (List Dat)) (a5 : List (List Dat)) (a6 : List (List Dat)) (a7 : Int) (a8 : Int) (a9 : Int) (a10 : Int) (a11 : List (List Dat)) (a12 : Int) (a13 : Int) (a14 : List (List Dat)) (a15 : Int) (a16 : Bool) : callI tE f_spec_IsOpDone [.int a0, .sl a1, .int a2, .sl a3, .sl a4, .sl a5, .sl a6, .int a7, .int a8, .int a9, .int a10, .sl a11, .int a12, .int a13, .sl a14, .int a15, .bool a16] = (bif (eqI a0 1) then (some [(.bool (eqI a9 4))]) else (bif (eqI a0 2) then (some [(.bool (eqI (lenI a11) 0))]) else (bif (eqI a0 3) then (some [(.bool (eqI (lenI a14) 0))]) else (some [(.bool Bool.true)])))) := (callI_run rfl (by kernel_rfl)).trans (by kernel_rfl)
theorem c_laws_toTask (a0 : Int) (a1 : List (List Dat)) (a2 : List (List Dat)) (a3 : List (List Dat)) (a4 : Int) : callI tE f_laws_toTask [.int a0, .sl a1, .sl a2, .sl a3, .int a4] = (((callI tE f_laws_toRowS [(.sl a1)])).bind (fun r0 => (((callI tE f_laws_toRowS [(.sl a2)])).bind (fun r1 => (((callI tE f_laws_toBoolS [(.sl a3)])).bind (fun r2 => (some [(.int a0), (.sl (gl r0)), (.sl (gl r1)), (.sl (gl r2)), (.int a4)]))))))) := (callI_run rfl (by kernel_rfl)).trans (by kernel_rfl)
noncomputable def L_laws_toTaskS_0 (x0 : List (List Dat)) (x1 : Int) (x2 : List (List Dat)) : Option (List Dat) := loopK tE f_laws_toTaskS 0 ⟨[(0, (.ro 290 Bool.false x0)), (3, (.own (500000, 0))), (4, (.i .i64 x1))], [((500000, 0), (.row 145 x2 Bool.true 0 []))]⟩
theorem L_laws_toTaskS_0_eq (x0 : List (List Dat)) (x1 : Int) (x2 : List (List Dat)) : L_laws_toTaskS_0 x0 x1 x2 = (bif (ltI x1 (lenI x0)) then (bif (inR x1 (lenI x0)) then (((callI tE f_laws_toTask [(.int (gn (at' x0 (tn x1)))), (.sl (gl (tk 1 (at' x0 (tn x1))))), (.sl (gl (tk 2 (at' x0 (tn x1))))), (.sl (gl (tk 3 (at' x0 (tn x1))))), (.int (gn (tk 4 (at' x0 (tn x1)))))])).bind (fun r0 => (bif (inR x1 (lenI x2)) then (L_laws_toTaskS_0 x0 (w64 (x1 + 1)) (updR x2 (tn x1) 0 [(.int (gn r0)), (.sl (gl (tk 1 r0))), (.sl (gl (tk 2 r0))), (.sl (gl (tk 3 r0))), (.int (gn (tk 4 r0)))])) else none))) else none) else (some [(.sl x2)])) := (loopK_run (by kernel_rfl)).trans (by kernel_rfl)
theorem c_laws_toTaskS (a0 : List (List Dat)) : callI tE f_laws_toTaskS [.sl a0] = (bif ((leI 0 (lenI a0)) && ((eqI (lenI a0) (lenI a0)) && (fitM (tn (lenI a0)) 88))) then (L_laws_toTaskS_0 a0 0 (List.replicate (tn (lenI a0)) [(.int 0), (.sl []), (.sl []), (.sl []), (.int 0)])) else none) := (callI_run rfl (by kernel_rfl)).trans (by kernel_rfl)
theorem c_laws_toJoiner (a0 : List (List Dat)) (a1 : Int) (a2 : Int) : callI tE f_laws_toJoiner [.sl a0, .int a1, .int a2] = (((callI tE f_laws_toTaskS [(.sl a0)])).bind (fun r0 => (some [(.sl (gl r0)), (.int a1), (.int a2)]))) := (callI_run rfl (by kernel_rfl)).trans (by kernel_rfl)
theorem c_laws_toGroupTask (a0 : List (List Dat)) (a1 : Int) : callI tE f_laws_toGroupTask [.sl a0, .int a1] = (((callI tE f_laws_toRowS [(.sl a0)])).bind (fun r0 => (some [(.sl (gl r0)), (.int a1)]))) := (callI_run rfl (by kernel_rfl)).trans (by kernel_rfl)
noncomputable def L_laws_toGroupTaskS_0 (x0 : List (List Dat)) (x1 : Int) (x2 : List (List Dat)) : Option (List Dat) := loopK tE f_laws_toGroupTaskS 0 ⟨[(0, (.ro 293 Bool.false x0)), (3, (.own (500000, 0))), (4, (.i .i64 x1))], [((500000, 0), (.row 148 x2 Bool.true 0 []))]⟩
theorem L_laws_toGroupTaskS_0_eq (x0 : List (List Dat)) (x1 : Int) (x2 : List (List Dat)) : L_laws_toGroupTaskS_0 x0 x1 x2 = (bif (ltI x1 (lenI x0)) then (bif (inR x1 (lenI x0)) then (((callI tE f_laws_toGroupTask [(.sl (gl (at' x0 (tn x1)))), (.int (gn (tk 1 (at' x0 (tn x1)))))])).bind (fun r0 => (bif (inR x1 (lenI x2)) then (L_laws_toGroupTaskS_0 x0 (w64 (x1 + 1)) (updR x2 (tn x1) 0 [(.sl (gl r0)), (.int (gn (tk 1 r0)))])) else none))) else none) else (some [(.sl x2)])) := (loopK_run (by kernel_rfl)).trans (by kernel_rfl)
theorem c_laws_toGroupTaskS (a0 : List (List Dat)) : callI tE f_laws_toGroupTaskS [.sl a0] = (bif ((leI 0 (lenI a0)) && ((eqI (lenI a0) (lenI a0)) && (fitM (tn (lenI a0)) 32))) then (L_laws_toGroupTaskS_0 a0 0 (List.replicate (tn (lenI a0)) [(.sl []), (.int 0)])) else none) := (callI_run rfl (by kernel_rfl)).trans (by kernel_rfl)
theorem c_laws_toAggregator (a0 : List (List Dat)) (a1 : Int) (a2 : Bool) : callI tE f_laws_toAggregator [.sl a0, .int a1, .bool a2] = (((callI tE f_laws_toGroupTaskS [(.sl a0)])).bind (fun r0 => (some [(.sl (gl r0)), (.int a1), (.bool a2)]))) := (callI_run rfl (by kernel_rfl)).trans (by kernel_rfl)
theorem c_laws_toOp (a0 : Int) (a1 : List (List Dat)) (a2 : Int) (a3 : List (List Dat)) (a4 : List (List Dat)) (a5 : List (List Dat)) (a6 : List (List Dat)) (a7 : Int) (a8 : Int) (a9 : Int) (a10 : Int) (a11 : List (List Dat)) (a12 : Int) (a13 : Int) (a14 : List (List Dat)) (a15 : Int) (a16 : Bool) : callI tE f_laws_toOp [.int a0, .sl a1, .int a2, .sl a3, .sl a4, .sl a5, .sl a6, .int a7, .int a8, .int a9, .int a10, .sl a11, .int a12, .int a13, .sl a14, .int a15, .bool a16] = (((callI tE f_laws_toSorter [(.sl a1), (.int a2), (.sl a3), (.sl a4), (.sl a5), (.sl a6), (.int a7), (.int a8), (.int a9), (.int a10)])).bind (fun r0 => (((callI tE f_laws_toJoiner [(.sl a11), (.int a12), (.int a13)])).bind (fun r1 => (((callI tE f_laws_toAggregator [(.sl a14), (.int a15), (.bool a16)])).bind (fun r2 => (some [(.int a0), (.sl (gl r0)), (.int (gn (tk 1 r0))), (.sl (gl (tk 2 r0))), (.sl (gl (tk 3 r0))), (.sl (gl (tk 4 r0))), (.sl (gl (tk 5 r0))), (.int (gn (tk 6 r0))), (.int (gn (tk 7 r0))), (.int (gn (tk 8 r0))), (.int (gn (tk 9 r0))), (.sl (gl r1)), (.int (gn (tk 1 r1))), (.int (gn (tk 2 r1))), (.sl (gl r2)), (.int (gn (tk 1 r2))), (.bool (gb (tk 2 r2)))]))))))) := (callI_run rfl (by kernel_rfl)).trans (by kernel_rfl)
theorem c_laws_toPair (a0 : Int) (a1 : Int) (a2 : Int) (a3 : Int) (a4 : Int) (a5 : Int) (a6 : Bool) : callI tE f_laws_toPair [.int a0, .int a1, .int a2, .int a3, .int a4, .int a5, .bool a6] = (((callI tE f_laws_toRow [(.int a0), (.int a1), (.int a2)])).bind (fun r0 => (((callI tE f_laws_toRow [(.int a3), (.int a4), (.int a5)])).bind (fun r1 => (some [(.int (gn r0)), (.int (gn (tk 1 r0))), (.int (gn (tk 2 r0))), (.int (gn r1)), (.int (gn (tk 1 r1))), (.int (gn (tk 2 r1))), (.bool a6)]))))) := (callI_run rfl (by kernel_rfl)).trans (by kernel_rfl)
noncomputable def L_laws_toPairS_0 (x0 : List (List Dat)) (x1 : Int) (x2 : List (List Dat)) : Option (List Dat) := loopK tE f_laws_toPairS 0 ⟨[(0, (.ro 280 Bool.false x0)), (3, (.own (500000, 0))), (4, (.i .i64 x1))], [((500000, 0), (.row 225 x2 Bool.true 0 []))]⟩
theorem L_laws_toPairS_0_eq (x0 : List (List Dat)) (x1 : Int) (x2 : List (List Dat)) : L_laws_toPairS_0 x0 x1 x2 = (bif (ltI x1 (lenI x0)) then (bif (inR x1 (lenI x0)) then (((callI tE f_laws_toPair [(.int (gn (at' x0 (tn x1)))), (.int (gn (tk 1 (at' x0 (tn x1))))), (.int (gn (tk 2 (at' x0 (tn x1))))), (.int (gn (tk 3 (at' x0 (tn x1))))), (.int (gn (tk 4 (at' x0 (tn x1))))), (.int (gn (tk 5 (at' x0 (tn x1))))), (.bool (gb (tk 6 (at' x0 (tn x1)))))])).bind (fun r0 => (bif (inR x1 (lenI x2)) then (L_laws_toPairS_0 x0 (w64 (x1 + 1)) (updR x2 (tn x1) 0 [(.int (gn r0)), (.int (gn (tk 1 r0))), (.int (gn (tk 2 r0))), (.int (gn (tk 3 r0))), (.int (gn (tk 4 r0))), (.int (gn (tk 5 r0))), (.bool (gb (tk 6 r0)))])) else none))) else none) else (some [(.sl x2)])) := (loopK_run (by kernel_rfl)).trans (by kernel_rfl)
theorem c_laws_toPairS (a0 : List (List Dat)) : callI tE f_laws_toPairS [.sl a0] = (bif ((leI 0 (lenI a0)) && ((eqI (lenI a0) (lenI a0)) && (fitM (tn (lenI a0)) 56))) then (L_laws_toPairS_0 a0 0 (List.replicate (tn (lenI a0)) [(.int 0), (.int 0), (.int 0), (.int 0), (.int 0), (.int 0), (.bool Bool.false)])) else none) := (callI_run rfl (by kernel_rfl)).trans (by kernel_rfl)
theorem c_laws_toGroup (a0 : Int) (a1 : Int) (a2 : Int) (a3 : Int) (a4 : Int) : callI tE f_laws_toGroup [.int a0, .int a1, .int a2, .int a3, .int a4] = (some [(.int a0), (.int a1), (.int a2), (.int a3), (.int a4)]) := (callI_run rfl (by kernel_rfl)).trans (by kernel_rfl)
noncomputable def L_laws_toGroupS_0 (x0 : List (List Dat)) (x1 : Int) (x2 : List (List Dat)) : Option (List Dat) := loopK tE f_laws_toGroupS 0 ⟨[(0, (.ro 282 Bool.false x0)), (3, (.own (500000, 0))), (4, (.i .i64 x1))], [((500000, 0), (.row 228 x2 Bool.true 0 []))]⟩
theorem L_laws_toGroupS_0_eq (x0 : List (List Dat)) (x1 : Int) (x2 : List (List Dat)) : L_laws_toGroupS_0 x0 x1 x2 = (bif (ltI x1 (lenI x0)) then (bif (inR x1 (lenI x0)) then (((callI tE f_laws_toGroup [(.int (gn (at' x0 (tn x1)))), (.int (gn (tk 1 (at' x0 (tn x1))))), (.int (gn (tk 2 (at' x0 (tn x1))))), (.int (gn (tk 3 (at' x0 (tn x1))))), (.int (gn (tk 4 (at' x0 (tn x1)))))])).bind (fun r0 => (bif (inR x1 (lenI x2)) then (L_laws_toGroupS_0 x0 (w64 (x1 + 1)) (updR x2 (tn x1) 0 [(.int (gn r0)), (.int (gn (tk 1 r0))), (.int (gn (tk 2 r0))), (.int (gn (tk 3 r0))), (.int (gn (tk 4 r0)))])) else none))) else none) else (some [(.sl x2)])) := (loopK_run (by kernel_rfl)).trans (by kernel_rfl)
theorem c_laws_toGroupS (a0 : List (List Dat)) : callI tE f_laws_toGroupS [.sl a0] = (bif ((leI 0 (lenI a0)) && ((eqI (lenI a0) (lenI a0)) && (fitM (tn (lenI a0)) 40))) then (L_laws_toGroupS_0 a0 0 (List.replicate (tn (lenI a0)) [(.int 0), (.int 0), (.int 0), (.int 0), (.int 0)])) else none) := (callI_run rfl (by kernel_rfl)).trans (by kernel_rfl)
theorem c_laws_toOutput (a0 : List (List Dat)) (a1 : List (List Dat)) (a2 : List (List Dat)) : callI tE f_laws_toOutput [.sl a0, .sl a1, .sl a2] = (((callI tE f_laws_toRowS [(.sl a0)])).bind (fun r0 => (((callI tE f_laws_toPairS [(.sl a1)])).bind (fun r1 => (((callI tE f_laws_toGroupS [(.sl a2)])).bind (fun r2 => (some [(.sl (gl r0)), (.sl (gl r1)), (.sl (gl r2))]))))))) := (callI_run rfl (by kernel_rfl)).trans (by kernel_rfl)
theorem c_impl_IsValidJoinKind (a0 : Int) : callI tE f_impl_IsValidJoinKind [.int a0] = (((callI tE f_impl_within [(.int a0), (.int 1), (.int 4)])).bind (fun r0 => (some [(.bool (gb r0))]))) := (callI_run rfl (by kernel_rfl)).trans (by kernel_rfl)
theorem c_impl_IsValidTask (a0 : Int) (a1 : List (List Dat)) (a2 : List (List Dat)) (a3 : List (List Dat)) (a4 : Int) : callI tE f_impl_IsValidTask [.int a0, .sl a1, .sl a2, .sl a3, .int a4] = (((callI tE f_impl_IsValidJoinKind [(.int a0)])).bind (fun r0 => (bif (gb r0) then (((callI tE f_impl_AreValidRows [(.sl a1)])).bind (fun r1 => (bif (gb r1) then (((callI tE f_impl_AreValidRows [(.sl a2)])).bind (fun r2 => (bif (gb r2) then (bif (eqI (lenI a3) (lenI a1)) then (((callI tE f_impl_within [(.int a4), (.int 0), (.int 4)])).bind (fun r3 => (some [(.bool (gb r3))]))) else (some [(.bool Bool.false)])) else (some [(.bool Bool.false)])))) else (some [(.bool Bool.false)])))) else (some [(.bool Bool.false)])))) := (callI_run rfl (by kernel_rfl)).trans (by kernel_rfl)
noncomputable def L_impl_IsValidJoiner_0 (x0 : Int) (x1 : Int) (x2 : Int) (x3 : List (List Dat)) (x4 : Int) (x5 : Int) (x6 : List (List Dat)) (x7 : Int) (x8 : Int) : Option (List Dat) := loopK tE f_impl_IsValidJoiner 0 ⟨[(1, (.ptr (500000, 0) x0 0)), (3, (.i .i64 x1)), (4, (.i .i64 x2)), (24, (.ro 145 Bool.false x3)), (25, (.i .i64 x4)), (26, (.i .i64 x5))], [((500000, 0), (.box 127 [(.ro 145 Bool.false x6), (.i .i64 x7), (.i .i64 x8)]))]⟩
theorem L_impl_IsValidJoiner_0_eq (x0 : Int) (x1 : Int) (x2 : Int) (x3 : List (List Dat)) (x4 : Int) (x5 : Int) (x6 : List (List Dat)) (x7 : Int) (x8 : Int) : L_impl_IsValidJoiner_0 x0 x1 x2 x3 x4 x5 x6 x7 x8 = (bif (ltI x5 x4) then (bif (inR x5 (lenI x3)) then (((callI tE f_impl_IsValidTask [(.int (gn (at' x3 (tn x5)))), (.sl (gl (tk 1 (at' x3 (tn x5))))), (.sl (gl (tk 2 (at' x3 (tn x5))))), (.sl (gl (tk 3 (at' x3 (tn x5))))), (.int (gn (tk 4 (at' x3 (tn x5)))))])).bind (fun r0 => (bif (!(gb r0)) then (some [(.bool Bool.false)]) else (bif (inR 0 (lenI x6)) then (bif (!(eqI (gn (at' x3 (tn x5))) (gn (at' x6 (tn 0))))) then (some [(.bool Bool.false)]) else (L_impl_IsValidJoiner_0 x0 (w64 (x1 + (lenI (gl (tk 1 (at' x3 (tn x5))))))) (w64 (x2 + (lenI (gl (tk 2 (at' x3 (tn x5))))))) x3 x4 (w64 (x5 + 1)) x6 x7 x8)) else none)))) else none) else (bif (leI x1 24) then (some [(.bool (leI x2 24))]) else (some [(.bool Bool.false)]))) := (loopK_run (by kernel_rfl)).trans (by kernel_rfl)
theorem c_impl_IsValidJoiner (a0 : List (List Dat)) (a1 : Int) (a2 : Int) : callI tE f_impl_IsValidJoiner [.sl a0, .int a1, .int a2] = (bif (ltI 40 (lenI a0)) then (some [(.bool Bool.false)]) else (((callI tE f_impl_within [(.int a1), (.int 0), (.int 100000)])).bind (fun r0 => (bif (!(gb r0)) then (some [(.bool Bool.false)]) else (((callI tE f_impl_within [(.int a2), (.int 0), (.int 1000)])).bind (fun r1 => (bif (!(gb r1)) then (some [(.bool Bool.false)]) else (L_impl_IsValidJoiner_0 0 0 0 a0 (lenI a0) 0 a0 a1 a2)))))))) := (callI_run rfl (by kernel_rfl)).trans (by kernel_rfl)
noncomputable def L_impl_IsValidAggregator_0 (x0 : Int) (x1 : Int) (x2 : List (List Dat)) (x3 : Int) (x4 : Int) (x5 : List (List Dat)) (x6 : Int) (x7 : Bool) : Option (List Dat) := loopK tE f_impl_IsValidAggregator 0 ⟨[(1, (.ptr (500000, 0) x0 0)), (3, (.i .i64 x1)), (7, (.ro 148 Bool.false x2)), (8, (.i .i64 x3)), (9, (.i .i64 x4))], [((500000, 0), (.box 130 [(.ro 148 Bool.false x5), (.i .i64 x6), (.b x7)]))]⟩
theorem L_impl_IsValidAggregator_0_eq (x0 : Int) (x1 : Int) (x2 : List (List Dat)) (x3 : Int) (x4 : Int) (x5 : List (List Dat)) (x6 : Int) (x7 : Bool) : L_impl_IsValidAggregator_0 x0 x1 x2 x3 x4 x5 x6 x7 = (bif (ltI x4 x3) then (bif (inR x4 (lenI x2)) then (((callI tE f_impl_AreValidRows [(.sl (gl (at' x2 (tn x4))))])).bind (fun r0 => (bif (!(gb r0)) then (some [(.bool Bool.false)]) else (((callI tE f_impl_within [(.int (gn (tk 1 (at' x2 (tn x4))))), (.int 0), (.int 4)])).bind (fun r1 => (bif (!(gb r1)) then (some [(.bool Bool.false)]) else (L_impl_IsValidAggregator_0 x0 (w64 (x1 + (lenI (gl (at' x2 (tn x4)))))) x2 x3 (w64 (x4 + 1)) x5 x6 x7))))))) else none) else (bif (leI (lenI x5) 40) then (bif (leI x1 24) then (((callI tE f_impl_within [(.int x6), (.int 0), (.int 100000)])).bind (fun r0 => (some [(.bool (gb r0))]))) else (some [(.bool Bool.false)])) else (some [(.bool Bool.false)]))) := (loopK_run (by kernel_rfl)).trans (by kernel_rfl)
theorem c_impl_IsValidAggregator (a0 : List (List Dat)) (a1 : Int) (a2 : Bool) : callI tE f_impl_IsValidAggregator [.sl a0, .int a1, .bool a2] = (L_impl_IsValidAggregator_0 0 0 a0 (lenI a0) 0 a0 a1 a2) := (callI_run rfl (by kernel_rfl)).trans (by kernel_rfl)
theorem c_impl_IsOpDone (a0 : Int) (a1 : List (List Dat)) (a2 : Int) (a3 : List (List Dat)) (a4 : List (List Dat)) (a5 : List (List Dat)) (a6 : List (List Dat)) (a7 : Int) (a8 : Int) (a9 : Int) (a10 : Int) (a11 : List (List Dat)) (a12 : Int) (a13 : Int) (a14 : List (List Dat)) (a15 : Int) (a16 : Bool) : callI tE f_impl_IsOpDone [.int a0, .sl a1, .int a2, .sl a3, .sl a4, .sl a5, .sl a6, .int a7, .int a8, .int a9, .int a10, .sl a11, .int a12, .int a13, .sl a14, .int a15, .bool a16] = (bif (eqI a0 1) then (some [(.bool (eqI a9 4))]) else (bif (eqI a0 2) then (some [(.bool (eqI (lenI a11) 0))]) else (bif (eqI a0 3) then (some [(.bool (eqI (lenI a14) 0))]) else (some [(.bool Bool.true)])))) := (callI_run rfl (by kernel_rfl)).trans (by kernel_rfl)
theorem c_laws_eqPair (a0 : Int) (a1 : Int) (a2 : Int) (a3 : Int) (a4 : Int) (a5 : Int) (a6 : Bool) (a7 : Int) (a8 : Int) (a9 : Int) (a10 : Int) (a11 : Int) (a12 : Int) (a13 : Bool) : callI tE f_laws_eqPair [.int a0, .int a1, .int a2, .int a3, .int a4, .int a5, .bool a6, .int a7, .int a8, .int a9, .int a10, .int a11, .int a12, .bool a13] = (((callI tE f_laws_eqRow [(.int a0), (.int a1), (.int a2), (.int a7), (.int a8), (.int a9)])).bind (fun r0 => (bif (!(gb r0)) then (some [(.bool Bool.false)]) else (((callI tE f_laws_eqRow [(.int a3), (.int a4), (.int a5), (.int a10), (.int a11), (.int a12)])).bind (fun r1 => (bif (!(gb r1)) then (some [(.bool Bool.false)]) else (bif (!(eqBo a6 a13)) then (some [(.bool Bool.false)]) else (some [(.bool Bool.true)])))))))) := (callI_run rfl (by kernel_rfl)).trans (by kernel_rfl)
noncomputable def L_laws_eqPairS_0 (x0 : List (List Dat)) (x1 : List (List Dat)) (x2 : Int) : Option (List Dat) := loopK tE f_laws_eqPairS 0 ⟨[(0, (.ro 225 Bool.false x0)), (1, (.ro 225 Bool.false x1)), (5, (.i .i64 x2))], []⟩
theorem L_laws_eqPairS_0_eq (x0 : List (List Dat)) (x1 : List (List Dat)) (x2 : Int) : L_laws_eqPairS_0 x0 x1 x2 = (bif (ltI x2 (lenI x0)) then (bif (inR x2 (lenI x0)) then (bif (inR x2 (lenI x1)) then (((callI tE f_laws_eqPair [(.int (gn (at' x0 (tn x2)))), (.int (gn (tk 1 (at' x0 (tn x2))))), (.int (gn (tk 2 (at' x0 (tn x2))))), (.int (gn (tk 3 (at' x0 (tn x2))))), (.int (gn (tk 4 (at' x0 (tn x2))))), (.int (gn (tk 5 (at' x0 (tn x2))))), (.bool (gb (tk 6 (at' x0 (tn x2))))), (.int (gn (at' x1 (tn x2)))), (.int (gn (tk 1 (at' x1 (tn x2))))), (.int (gn (tk 2 (at' x1 (tn x2))))), (.int (gn (tk 3 (at' x1 (tn x2))))), (.int (gn (tk 4 (at' x1 (tn x2))))), (.int (gn (tk 5 (at' x1 (tn x2))))), (.bool (gb (tk 6 (at' x1 (tn x2)))))])).bind (fun r0 => (bif (!(gb r0)) then (some [(.bool Bool.false)]) else (L_laws_eqPairS_0 x0 x1 (w64 (x2 + 1)))))) else none) else none) else (some [(.bool Bool.true)])) := (loopK_run (by kernel_rfl)).trans (by kernel_rfl)
theorem c_laws_eqPairS (a0 : List (List Dat)) (a1 : List (List Dat)) : callI tE f_laws_eqPairS [.sl a0, .sl a1] = (bif (!(eqI (lenI a0) (lenI a1))) then (some [(.bool Bool.false)]) else (L_laws_eqPairS_0 a0 a1 0)) := (callI_run rfl (by kernel_rfl)).trans (by kernel_rfl)
theorem c_laws_eqGroup (a0 : Int) (a1 : Int) (a2 : Int) (a3 : Int) (a4 : Int) (a5 : Int) (a6 : Int) (a7 : Int) (a8 : Int) (a9 : Int) : callI tE f_laws_eqGroup [.int a0, .int a1, .int a2, .int a3, .int a4, .int a5, .int a6, .int a7, .int a8, .int a9] = (bif (!(eqI a0 a5)) then (some [(.bool Bool.false)]) else (bif (!(eqI a1 a6)) then (some [(.bool Bool.false)]) else (bif (!(eqI a2 a7)) then (some [(.bool Bool.false)]) else (bif (!(eqI a3 a8)) then (some [(.bool Bool.false)]) else (bif (!(eqI a4 a9)) then (some [(.bool Bool.false)]) else (some [(.bool Bool.true)])))))) := (callI_run rfl (by kernel_rfl)).trans (by kernel_rfl)
noncomputable def L_laws_eqGroupS_0 (x0 : List (List Dat)) (x1 : List (List Dat)) (x2 : Int) : Option (List Dat) := loopK tE f_laws_eqGroupS 0 ⟨[(0, (.ro 228 Bool.false x0)), (1, (.ro 228 Bool.false x1)), (5, (.i .i64 x2))], []⟩
theorem L_laws_eqGroupS_0_eq (x0 : List (List Dat)) (x1 : List (List Dat)) (x2 : Int) : L_laws_eqGroupS_0 x0 x1 x2 = (bif (ltI x2 (lenI x0)) then (bif (inR x2 (lenI x0)) then (bif (inR x2 (lenI x1)) then (((callI tE f_laws_eqGroup [(.int (gn (at' x0 (tn x2)))), (.int (gn (tk 1 (at' x0 (tn x2))))), (.int (gn (tk 2 (at' x0 (tn x2))))), (.int (gn (tk 3 (at' x0 (tn x2))))), (.int (gn (tk 4 (at' x0 (tn x2))))), (.int (gn (at' x1 (tn x2)))), (.int (gn (tk 1 (at' x1 (tn x2))))), (.int (gn (tk 2 (at' x1 (tn x2))))), (.int (gn (tk 3 (at' x1 (tn x2))))), (.int (gn (tk 4 (at' x1 (tn x2)))))])).bind (fun r0 => (bif (!(gb r0)) then (some [(.bool Bool.false)]) else (L_laws_eqGroupS_0 x0 x1 (w64 (x2 + 1)))))) else none) else none) else (some [(.bool Bool.true)])) := (loopK_run (by kernel_rfl)).trans (by kernel_rfl)
theorem c_laws_eqGroupS (a0 : List (List Dat)) (a1 : List (List Dat)) : callI tE f_laws_eqGroupS [.sl a0, .sl a1] = (bif (!(eqI (lenI a0) (lenI a1))) then (some [(.bool Bool.false)]) else (L_laws_eqGroupS_0 a0 a1 0)) := (callI_run rfl (by kernel_rfl)).trans (by kernel_rfl)
theorem c_laws_eqOutput (a0 : List (List Dat)) (a1 : List (List Dat)) (a2 : List (List Dat)) (a3 : List (List Dat)) (a4 : List (List Dat)) (a5 : List (List Dat)) : callI tE f_laws_eqOutput [.sl a0, .sl a1, .sl a2, .sl a3, .sl a4, .sl a5] = (((callI tE f_laws_eqRowS [(.sl a0), (.sl a3)])).bind (fun r0 => (bif (!(gb r0)) then (some [(.bool Bool.false)]) else (((callI tE f_laws_eqPairS [(.sl a1), (.sl a4)])).bind (fun r1 => (bif (!(gb r1)) then (some [(.bool Bool.false)]) else (((callI tE f_laws_eqGroupS [(.sl a2), (.sl a5)])).bind (fun r2 => (bif (!(gb r2)) then (some [(.bool Bool.false)]) else (some [(.bool Bool.true)])))))))))) := (callI_run rfl (by kernel_rfl)).trans (by kernel_rfl)
theorem c_laws_eqTask (a0 : Int) (a1 : List (List Dat)) (a2 : List (List Dat)) (a3 : List (List Dat)) (a4 : Int) (a5 : Int) (a6 : List (List Dat)) (a7 : List (List Dat)) (a8 : List (List Dat)) (a9 : Int) : callI tE f_laws_eqTask [.int a0, .sl a1, .sl a2, .sl a3, .int a4, .int a5, .sl a6, .sl a7, .sl a8, .int a9] = (bif (!(eqI a0 a5)) then (some [(.bool Bool.false)]) else (((callI tE f_laws_eqRowS [(.sl a1), (.sl a6)])).bind (fun r0 => (bif (!(gb r0)) then (some [(.bool Bool.false)]) else (((callI tE f_laws_eqRowS [(.sl a2), (.sl a7)])).bind (fun r1 => (bif (!(gb r1)) then (some [(.bool Bool.false)]) else (((callI tE f_laws_eqBoolS [(.sl a3), (.sl a8)])).bind (fun r2 => (bif (!(gb r2)) then (some [(.bool Bool.false)]) else (bif (!(eqI a4 a9)) then (some [(.bool Bool.false)]) else (some [(.bool Bool.true)])))))))))))) := (callI_run rfl (by kernel_rfl)).trans (by kernel_rfl)
noncomputable def L_laws_eqTaskS_0 (x0 : List (List Dat)) (x1 : List (List Dat)) (x2 : Int) : Option (List Dat) := loopK tE f_laws_eqTaskS 0 ⟨[(0, (.ro 145 Bool.false x0)), (1, (.ro 145 Bool.false x1)), (5, (.i .i64 x2))], []⟩
theorem L_laws_eqTaskS_0_eq (x0 : List (List Dat)) (x1 : List (List Dat)) (x2 : Int) : L_laws_eqTaskS_0 x0 x1 x2 = (bif (ltI x2 (lenI x0)) then (bif (inR x2 (lenI x0)) then (bif (inR x2 (lenI x1)) then (((callI tE f_laws_eqTask [(.int (gn (at' x0 (tn x2)))), (.sl (gl (tk 1 (at' x0 (tn x2))))), (.sl (gl (tk 2 (at' x0 (tn x2))))), (.sl (gl (tk 3 (at' x0 (tn x2))))), (.int (gn (tk 4 (at' x0 (tn x2))))), (.int (gn (at' x1 (tn x2)))), (.sl (gl (tk 1 (at' x1 (tn x2))))), (.sl (gl (tk 2 (at' x1 (tn x2))))), (.sl (gl (tk 3 (at' x1 (tn x2))))), (.int (gn (tk 4 (at' x1 (tn x2)))))])).bind (fun r0 => (bif (!(gb r0)) then (some [(.bool Bool.false)]) else (L_laws_eqTaskS_0 x0 x1 (w64 (x2 + 1)))))) else none) else none) else (some [(.bool Bool.true)])) := (loopK_run (by kernel_rfl)).trans (by kernel_rfl)
theorem c_laws_eqTaskS (a0 : List (List Dat)) (a1 : List (List Dat)) : callI tE f_laws_eqTaskS [.sl a0, .sl a1] = (bif (!(eqI (lenI a0) (lenI a1))) then (some [(.bool Bool.false)]) else (L_laws_eqTaskS_0 a0 a1 0)) := (callI_run rfl (by kernel_rfl)).trans (by kernel_rfl)
theorem c_laws_eqJoiner (a0 : List (List Dat)) (a1 : Int) (a2 : Int) (a3 : List (List Dat)) (a4 : Int) (a5 : Int) : callI tE f_laws_eqJoiner [.sl a0, .int a1, .int a2, .sl a3, .int a4, .int a5] = (((callI tE f_laws_eqTaskS [(.sl a0), (.sl a3)])).bind (fun r0 => (bif (!(gb r0)) then (some [(.bool Bool.false)]) else (bif (!(eqI a1 a4)) then (some [(.bool Bool.false)]) else (bif (!(eqI a2 a5)) then (some [(.bool Bool.false)]) else (some [(.bool Bool.true)])))))) := (callI_run rfl (by kernel_rfl)).trans (by kernel_rfl)
theorem c_laws_eqGroupTask (a0 : List (List Dat)) (a1 : Int) (a2 : List (List Dat)) (a3 : Int) : callI tE f_laws_eqGroupTask [.sl a0, .int a1, .sl a2, .int a3] = (((callI tE f_laws_eqRowS [(.sl a0), (.sl a2)])).bind (fun r0 => (bif (!(gb r0)) then (some [(.bool Bool.false)]) else (bif (!(eqI a1 a3)) then (some [(.bool Bool.false)]) else (some [(.bool Bool.true)]))))) := (callI_run rfl (by kernel_rfl)).trans (by kernel_rfl)
noncomputable def L_laws_eqGroupTaskS_0 (x0 : List (List Dat)) (x1 : List (List Dat)) (x2 : Int) : Option (List Dat) := loopK tE f_laws_eqGroupTaskS 0 ⟨[(0, (.ro 148 Bool.false x0)), (1, (.ro 148 Bool.false x1)), (5, (.i .i64 x2))], []⟩
theorem L_laws_eqGroupTaskS_0_eq (x0 : List (List Dat)) (x1 : List (List Dat)) (x2 : Int) : L_laws_eqGroupTaskS_0 x0 x1 x2 = (bif (ltI x2 (lenI x0)) then (bif (inR x2 (lenI x0)) then (bif (inR x2 (lenI x1)) then (((callI tE f_laws_eqGroupTask [(.sl (gl (at' x0 (tn x2)))), (.int (gn (tk 1 (at' x0 (tn x2))))), (.sl (gl (at' x1 (tn x2)))), (.int (gn (tk 1 (at' x1 (tn x2)))))])).bind (fun r0 => (bif (!(gb r0)) then (some [(.bool Bool.false)]) else (L_laws_eqGroupTaskS_0 x0 x1 (w64 (x2 + 1)))))) else none) else none) else (some [(.bool Bool.true)])) := (loopK_run (by kernel_rfl)).trans (by kernel_rfl)
theorem c_laws_eqGroupTaskS (a0 : List (List Dat)) (a1 : List (List Dat)) : callI tE f_laws_eqGroupTaskS [.sl a0, .sl a1] = (bif (!(eqI (lenI a0) (lenI a1))) then (some [(.bool Bool.false)]) else (L_laws_eqGroupTaskS_0 a0 a1 0)) := (callI_run rfl (by kernel_rfl)).trans (by kernel_rfl)
theorem c_laws_eqAggregator (a0 : List (List Dat)) (a1 : Int) (a2 : Bool) (a3 : List (List Dat)) (a4 : Int) (a5 : Bool) : callI tE f_laws_eqAggregator [.sl a0, .int a1, .bool a2, .sl a3, .int a4, .bool a5] = (((callI tE f_laws_eqGroupTaskS [(.sl a0), (.sl a3)])).bind (fun r0 => (bif (!(gb r0)) then (some [(.bool Bool.false)]) else (bif (!(eqI a1 a4)) then (some [(.bool Bool.false)]) else (bif (!(eqBo a2 a5)) then (some [(.bool Bool.false)]) else (some [(.bool Bool.true)])))))) := (callI_run rfl (by kernel_rfl)).trans (by kernel_rfl)
theorem c_laws_eqOp (a0 : Int) (a1 : List (List Dat)) (a2 : Int) (a3 : List (List Dat)) (a4 : List (List Dat)) (a5 : List (List Dat)) (a6 : List (List Dat)) (a7 : Int) (a8 : Int) (a9 : Int) (a10 : Int) (a11 : List (List Dat)) (a12 : Int) (a13 : Int) (a14 : List (List Dat)) (a15 : Int) (a16 : Bool) (a17 : Int) (a18 : List (List Dat)) (a19 : Int) (a20 : List (List Dat)) (a21 : List (List Dat)) (a22 : List (List Dat)) (a23 : List (List Dat)) (a24 : Int) (a25 : Int) (a26 : Int) (a27 : Int) (a28 : List (List Dat)) (a29 : Int) (a30 : Int) (a31 : List (List Dat)) (a32 : Int) (a33 : Bool) : callI tE f_laws_eqOp [.int a0, .sl a1, .int a2, .sl a3, .sl a4, .sl a5, .sl a6, .int a7, .int a8, .int a9, .int a10, .sl a11, .int a12, .int a13, .sl a14, .int a15, .bool a16, .int a17, .sl a18, .int a19, .sl a20, .sl a21, .sl a22, .sl a23, .int a24, .int a25, .int a26, .int a27, .sl a28, .int a29, .int a30, .sl a31, .int a32, .bool a33] = (bif (!(eqI a0 a17)) then (some [(.bool Bool.false)]) else (((callI tE f_laws_eqSorter [(.sl a1), (.int a2), (.sl a3), (.sl a4), (.sl a5), (.sl a6), (.int a7), (.int a8), (.int a9), (.int a10), (.sl a18), (.int a19), (.sl a20), (.sl a21), (.sl a22), (.sl a23), (.int a24), (.int a25), (.int a26), (.int a27)])).bind (fun r0 => (bif (!(gb r0)) then (some [(.bool Bool.false)]) else (((callI tE f_laws_eqJoiner [(.sl a11), (.int a12), (.int a13), (.sl a28), (.int a29), (.int a30)])).bind (fun r1 => (bif (!(gb r1)) then (some [(.bool Bool.false)]) else (((callI tE f_laws_eqAggregator [(.sl a14), (.int a15), (.bool a16), (.sl a31), (.int a32), (.bool a33)])).bind (fun r2 => (bif (!(gb r2)) then (some [(.bool Bool.false)]) else (some [(.bool Bool.true)]))))))))))) := (callI_run rfl (by kernel_rfl)).trans (by kernel_rfl)
theorem c_spec_JoinStepBound (a0 : List (List Dat)) (a1 : List (List Dat)) : callI tE f_spec_JoinStepBound [.sl a0, .sl a1] = (some [(.int (w64 (31 + (lenI a1))))]) := (callI_run rfl (by kernel_rfl)).trans (by kernel_rfl)
theorem c_spec_GroupStepBound (a0 : List (List Dat)) : callI tE f_spec_GroupStepBound [.sl a0] = (some [(.int (w64 ((w64 (2 * (lenI a0))) + 1)))]) := (callI_run rfl (by kernel_rfl)).trans (by kernel_rfl)
theorem c_impl_JoinStepBound (a0 : List (List Dat)) (a1 : List (List Dat)) : callI tE f_impl_JoinStepBound [.sl a0, .sl a1] = (some [(.int (w64 (31 + (lenI a1))))]) := (callI_run rfl (by kernel_rfl)).trans (by kernel_rfl)
theorem c_impl_GroupStepBound (a0 : List (List Dat)) : callI tE f_impl_GroupStepBound [.sl a0] = (some [(.int (w64 ((w64 (2 * (lenI a0))) + 1)))]) := (callI_run rfl (by kernel_rfl)).trans (by kernel_rfl)
end Go.Proofs.YtceoogjanfbdcaaGreat.Vai
namespace Go.Proofs.YtceoogjanfbdcaaGreat.Vai
open Go
set_option linter.unusedSimpArgs false
set_option linter.unusedVariables false
set_option linter.unnecessarySimpa false
set_option maxRecDepth 10000
def tkOk (t : Tk) : Bool := win t.kind 1 4 && (aok t.left && (aok t.right && (eqI t.mat.length t.left.length && win t.level 0 4)))
def tkZ : Tk := ⟨0, [], [], [], 0⟩
def leftSum (l : List Tk) : Nat := (l.map fun t => t.left.length).sum
def rightSum (l : List Tk) : Nat := (l.map fun t => t.right.length).sum
def jnOk (j : Jn) : Bool := decide (j.pend.length ≤ 40) && (win j.wr 0 100000 && (win j.parts 0 1000 && ((j.pend.all fun t => tkOk t && decide (t.kind = (j.pend.headD tkZ).kind)) && (decide (leftSum j.pend ≤ 24) && decide (rightSum j.pend ≤ 24)))))
def rowSum (l : List Gt) : Nat := (l.map fun t => t.rows.length).sum
def agOk (a : Ag) : Bool := (a.pend.all fun t => aok t.rows && win t.level 0 4) && (decide (a.pend.length ≤ 40) && (decide (rowSum a.pend ≤ 24) && win a.wr 0 100000))
end Go.Proofs.YtceoogjanfbdcaaGreat.Vai
namespace Go.Proofs.YtceoogjanfbdcaaGreat.Vai
open Go
set_option linter.unusedSimpArgs false
set_option linter.unusedVariables false
set_option linter.unnecessarySimpa false
set_option maxRecDepth 100000
theorem c_impl_isGrant (a0 : Int) : callI tE f_impl_isGrant [.int a0] = (((callI tE f_impl_within [(.int a0), (.int 8), (.int 60)])).bind (fun r0 => (some [(.bool (gb r0))]))) := (callI_run rfl (by kernel_rfl)).trans (by kernel_rfl)
theorem c_laws_szClientS (a0 : List (List Dat)) (a1 : Int) : callI tE f_laws_szClientS [.sl a0, .int a1] = (bif (ltI (w64 (a1 - (lenI a0))) 0) then (some [(.int (-1))]) else (some [(.int (w64 (a1 - (lenI a0))))])) := (callI_run rfl (by kernel_rfl)).trans (by kernel_rfl)
theorem c_laws_szBroker (a0 : Int) (a1 : Int) (a2 : List (List Dat)) (a3 : List (List Dat)) (a4 : Int) : callI tE f_laws_szBroker [.int a0, .int a1, .sl a2, .sl a3, .int a4] = (((callI tE f_laws_szClientS [(.sl a2), (.int a4)])).bind (fun r0 => (bif (ltI (gn r0) 0) then (some [(.int (-1))]) else (((callI tE f_laws_szClientS [(.sl a3), (.int (gn r0))])).bind (fun r1 => (bif (ltI (gn r1) 0) then (some [(.int (-1))]) else (some [(.int (gn r1))]))))))) := (callI_run rfl (by kernel_rfl)).trans (by kernel_rfl)
theorem c_laws_szSlot (a0 : Int) (a1 : Int) (a2 : List (List Dat)) (a3 : Int) (a4 : List (List Dat)) (a5 : List (List Dat)) (a6 : List (List Dat)) (a7 : List (List Dat)) (a8 : Int) (a9 : Int) (a10 : Int) (a11 : Int) (a12 : List (List Dat)) (a13 : Int) (a14 : Int) (a15 : List (List Dat)) (a16 : Int) (a17 : Bool) (a18 : List (List Dat)) (a19 : List (List Dat)) (a20 : List (List Dat)) (a21 : Bool) (a22 : Int) : callI tE f_laws_szSlot [.int a0, .int a1, .sl a2, .int a3, .sl a4, .sl a5, .sl a6, .sl a7, .int a8, .int a9, .int a10, .int a11, .sl a12, .int a13, .int a14, .sl a15, .int a16, .bool a17, .sl a18, .sl a19, .sl a20, .bool a21, .int a22] = (((callI tE f_laws_szOp [(.int a1), (.sl a2), (.int a3), (.sl a4), (.sl a5), (.sl a6), (.sl a7), (.int a8), (.int a9), (.int a10), (.int a11), (.sl a12), (.int a13), (.int a14), (.sl a15), (.int a16), (.bool a17), (.int a22)])).bind (fun r0 => (bif (ltI (gn r0) 0) then (some [(.int (-1))]) else (((callI tE f_laws_szOutput [(.sl a18), (.sl a19), (.sl a20), (.int (gn r0))])).bind (fun r1 => (bif (ltI (gn r1) 0) then (some [(.int (-1))]) else (some [(.int (gn r1))]))))))) := (callI_run rfl (by kernel_rfl)).trans (by kernel_rfl)
noncomputable def L_laws_szSlotS_0 (x0 : List (List Dat)) (x1 : Int) (x2 : Int) : Option (List Dat) := loopK tE f_laws_szSlotS 0 ⟨[(0, (.ro 208 Bool.false x0)), (1, (.i .i64 x1)), (5, (.i .i64 x2))], []⟩
theorem L_laws_szSlotS_0_eq (x0 : List (List Dat)) (x1 : Int) (x2 : Int) : L_laws_szSlotS_0 x0 x1 x2 = (bif (ltI x2 (lenI x0)) then (bif (inR x2 (lenI x0)) then (((callI tE f_laws_szSlot [(.int (gn (at' x0 (tn x2)))), (.int (gn (tk 1 (at' x0 (tn x2))))), (.sl (gl (tk 2 (at' x0 (tn x2))))), (.int (gn (tk 3 (at' x0 (tn x2))))), (.sl (gl (tk 4 (at' x0 (tn x2))))), (.sl (gl (tk 5 (at' x0 (tn x2))))), (.sl (gl (tk 6 (at' x0 (tn x2))))), (.sl (gl (tk 7 (at' x0 (tn x2))))), (.int (gn (tk 8 (at' x0 (tn x2))))), (.int (gn (tk 9 (at' x0 (tn x2))))), (.int (gn (tk 10 (at' x0 (tn x2))))), (.int (gn (tk 11 (at' x0 (tn x2))))), (.sl (gl (tk 12 (at' x0 (tn x2))))), (.int (gn (tk 13 (at' x0 (tn x2))))), (.int (gn (tk 14 (at' x0 (tn x2))))), (.sl (gl (tk 15 (at' x0 (tn x2))))), (.int (gn (tk 16 (at' x0 (tn x2))))), (.bool (gb (tk 17 (at' x0 (tn x2))))), (.sl (gl (tk 18 (at' x0 (tn x2))))), (.sl (gl (tk 19 (at' x0 (tn x2))))), (.sl (gl (tk 20 (at' x0 (tn x2))))), (.bool (gb (tk 21 (at' x0 (tn x2))))), (.int x1)])).bind (fun r0 => (bif (ltI (gn r0) 0) then (some [(.int (-1))]) else (L_laws_szSlotS_0 x0 (gn r0) (w64 (x2 + 1)))))) else none) else (some [(.int x1)])) := (loopK_run (by kernel_rfl)).trans (by kernel_rfl)
theorem c_laws_szSlotS (a0 : List (List Dat)) (a1 : Int) : callI tE f_laws_szSlotS [.sl a0, .int a1] = (bif (ltI (w64 (a1 - (lenI a0))) 0) then (some [(.int (-1))]) else (L_laws_szSlotS_0 a0 (w64 (a1 - (lenI a0))) 0)) := (callI_run rfl (by kernel_rfl)).trans (by kernel_rfl)
theorem c_laws_szSystem (a0 : Int) (a1 : Int) (a2 : List (List Dat)) (a3 : List (List Dat)) (a4 : List (List Dat)) (a5 : Int) (a6 : Int) : callI tE f_laws_szSystem [.int a0, .int a1, .sl a2, .sl a3, .sl a4, .int a5, .int a6] = (((callI tE f_laws_szBroker [(.int a0), (.int a1), (.sl a2), (.sl a3), (.int a6)])).bind (fun r0 => (bif (ltI (gn r0) 0) then (some [(.int (-1))]) else (((callI tE f_laws_szSlotS [(.sl a4), (.int (gn r0))])).bind (fun r1 => (bif (ltI (gn r1) 0) then (some [(.int (-1))]) else (some [(.int (gn r1))]))))))) := (callI_run rfl (by kernel_rfl)).trans (by kernel_rfl)
theorem c_spec_l10Room (a0 : Int) : callI tE f_spec_l10Room [.int a0] = (some [(.int (bif (ltI (w64 (Int.tdiv a0 8)) 5) then (w64 (Int.tdiv a0 8)) else 5))]) := (callI_run rfl (by kernel_rfl)).trans (by kernel_rfl)
noncomputable def L_spec_IsValidBroker_0 (x0 : Int) (x1 : Int) (x2 : Int) (x3 : Int) (x4 : List (List Dat)) (x5 : List (List Dat)) (x6 : List (List Dat)) : Option (List Dat) := loopK tE f_spec_IsValidBroker 0 ⟨[(1, (.ptr (500000, 0) x0 0)), (3, (.own (500001, 0))), (4, (.i .i64 x1))], [((500000, 0), (.box 69 [(.i .i64 x2), (.i .i64 x3), (.ro 211 Bool.false x4), (.ro 211 Bool.false x5)])), ((500001, 0), (.row 67 x6 Bool.false 0 []))]⟩
noncomputable def L_spec_IsValidBroker_1 (x0 : Int) (x1 : Int) (x2 : Int) (x3 : Int) (x4 : Int) (x5 : List (List Dat)) (x6 : List (List Dat)) (x7 : List (List Dat)) : Option (List Dat) := loopK tE f_spec_IsValidBroker 1 ⟨[(1, (.ptr (500000, 0) x0 0)), (3, (.own (500001, 0))), (4, (.i .i64 x1)), (5, (.i .i64 x2))], [((500000, 0), (.box 69 [(.i .i64 x3), (.i .i64 x4), (.ro 211 Bool.false x5), (.ro 211 Bool.false x6)])), ((500001, 0), (.row 67 x7 Bool.false 0 []))]⟩
noncomputable def L_spec_IsValidBroker_2 (x0 : Int) (x1 : Int) (x2 : Int) (x3 : Int) (x4 : List (List Dat)) (x5 : List (List Dat)) : Option (List Dat) := loopK tE f_spec_IsValidBroker 2 ⟨[(1, (.ptr (500000, 0) x0 0)), (7, (.i .i64 x1))], [((500000, 0), (.box 69 [(.i .i64 x2), (.i .i64 x3), (.ro 211 Bool.false x4), (.ro 211 Bool.false x5)]))]⟩
noncomputable def L_spec_IsValidBroker_3 (x0 : Int) (x1 : Int) (x2 : Int) (x3 : Int) (x4 : Int) (x5 : List (List Dat)) (x6 : List (List Dat)) : Option (List Dat) := loopK tE f_spec_IsValidBroker 3 ⟨[(1, (.ptr (500000, 0) x0 0)), (7, (.i .i64 x1)), (8, (.i .i64 x2))], [((500000, 0), (.box 69 [(.i .i64 x3), (.i .i64 x4), (.ro 211 Bool.false x5), (.ro 211 Bool.false x6)]))]⟩
theorem L_spec_IsValidBroker_0_eq (x0 : Int) (x1 : Int) (x2 : Int) (x3 : Int) (x4 : List (List Dat)) (x5 : List (List Dat)) (x6 : List (List Dat)) : L_spec_IsValidBroker_0 x0 x1 x2 x3 x4 x5 x6 = (bif (ltI x1 2) then (L_spec_IsValidBroker_1 x0 x1 0 x2 x3 x4 x5 x6) else (L_spec_IsValidBroker_2 x0 0 x2 x3 x4 x5)) := (loopK_run (by kernel_rfl)).trans (by kernel_rfl)
theorem L_spec_IsValidBroker_1_eq (x0 : Int) (x1 : Int) (x2 : Int) (x3 : Int) (x4 : Int) (x5 : List (List Dat)) (x6 : List (List Dat)) (x7 : List (List Dat)) : L_spec_IsValidBroker_1 x0 x1 x2 x3 x4 x5 x6 x7 = (bif (inR x1 (lenI x7)) then (bif (ltI x2 (lenI (gl (at' x7 (tn x1))))) then (bif (inR x1 (lenI x7)) then (bif (inR x2 (lenI (gl (at' x7 (tn x1))))) then (((callI tE f_spec_l1In [(.int (gn (at' (gl (at' x7 (tn x1))) (tn x2)))), (.int 0), (.int (w64 (x4 - 1)))])).bind (fun r0 => (bif (!(gb r0)) then (some [(.bool Bool.false)]) else (bif (ltI 0 x2) then (bif (inR x1 (lenI x7)) then (bif (inR (w64 (x2 - 1)) (lenI (gl (at' x7 (tn x1))))) then (bif (leI (gn (at' (gl (at' x7 (tn x1))) (tn x2))) (gn (at' (gl (at' x7 (tn x1))) (tn (w64 (x2 - 1)))))) then (some [(.bool Bool.false)]) else (((callI tE f_spec_l1In [(.int (gn (tk 1 (at' (gl (at' x7 (tn x1))) (tn x2))))), (.int 8), (.int 60)])).bind (fun r1 => (bif (!(gb r1)) then (some [(.bool Bool.false)]) else (((callI tE f_spec_l1In [(.int (gn (tk 2 (at' (gl (at' x7 (tn x1))) (tn x2))))), (.int 0), (.int 9)])).bind (fun r2 => (bif (!(gb r2)) then (some [(.bool Bool.false)]) else (L_spec_IsValidBroker_1 x0 x1 (w64 (x2 + 1)) x3 x4 x5 x6 x7)))))))) else none) else none) else (((callI tE f_spec_l1In [(.int (gn (tk 1 (at' (gl (at' x7 (tn x1))) (tn x2))))), (.int 8), (.int 60)])).bind (fun r1 => (bif (!(gb r1)) then (some [(.bool Bool.false)]) else (((callI tE f_spec_l1In [(.int (gn (tk 2 (at' (gl (at' x7 (tn x1))) (tn x2))))), (.int 0), (.int 9)])).bind (fun r2 => (bif (!(gb r2)) then (some [(.bool Bool.false)]) else (L_spec_IsValidBroker_1 x0 x1 (w64 (x2 + 1)) x3 x4 x5 x6 x7))))))))))) else none) else none) else (L_spec_IsValidBroker_0 x0 (w64 (x1 + 1)) x3 x4 x5 x6 x7)) else none) := (loopK_run (by kernel_rfl)).trans (by kernel_rfl)
theorem L_spec_IsValidBroker_2_eq (x0 : Int) (x1 : Int) (x2 : Int) (x3 : Int) (x4 : List (List Dat)) (x5 : List (List Dat)) : L_spec_IsValidBroker_2 x0 x1 x2 x3 x4 x5 = (bif (ltI x1 (lenI x4)) then (L_spec_IsValidBroker_3 x0 x1 0 x2 x3 x4 x5) else (((callI tE f_spec_l1In [(.int x2), (.int 8), (.int 120)])).bind (fun r0 => (bif (gb r0) then (((callI tE f_spec_l1In [(.int x3), (.int 0), (.int 1000)])).bind (fun r1 => (bif (gb r1) then (((callI tE f_spec_l10Room [(.int x2)])).bind (fun r2 => (bif (leI (lenI x4) (gn r2)) then (bif (eqI (lenI x5) 0) then (some [(.bool (leI (lenI x5) 5))]) else (((callI tE f_spec_l10Room [(.int x2)])).bind (fun r3 => (bif (eqI (lenI x4) (gn r3)) then (some [(.bool (leI (lenI x5) 5))]) else (some [(.bool Bool.false)]))))) else (some [(.bool Bool.false)])))) else (some [(.bool Bool.false)])))) else (some [(.bool Bool.false)]))))) := (loopK_run (by kernel_rfl)).trans (by kernel_rfl)
theorem L_spec_IsValidBroker_3_eq (x0 : Int) (x1 : Int) (x2 : Int) (x3 : Int) (x4 : Int) (x5 : List (List Dat)) (x6 : List (List Dat)) : L_spec_IsValidBroker_3 x0 x1 x2 x3 x4 x5 x6 = (bif (ltI x2 (lenI x6)) then (bif (inR x1 (lenI x5)) then (bif (inR x2 (lenI x6)) then (bif (eqI (gn (at' x5 (tn x1))) (gn (at' x6 (tn x2)))) then (some [(.bool Bool.false)]) else (L_spec_IsValidBroker_3 x0 x1 (w64 (x2 + 1)) x3 x4 x5 x6)) else none) else none) else (L_spec_IsValidBroker_2 x0 (w64 (x1 + 1)) x3 x4 x5 x6)) := (loopK_run (by kernel_rfl)).trans (by kernel_rfl)
theorem c_spec_IsValidBroker (a0 : Int) (a1 : Int) (a2 : List (List Dat)) (a3 : List (List Dat)) : callI tE f_spec_IsValidBroker [.int a0, .int a1, .sl a2, .sl a3] = (L_spec_IsValidBroker_0 0 0 a0 a1 a2 a3 [[(.sl a2)], [(.sl a3)]]) := (callI_run rfl (by kernel_rfl)).trans (by kernel_rfl)
noncomputable def L_spec_l10At_0 (x0 : List (List Dat)) (x1 : Int) (x2 : Int) : Option (List Dat) := loopK tE f_spec_l10At 0 ⟨[(0, (.ro 211 Bool.false x0)), (1, (.i .i64 x1)), (5, (.i .i64 x2))], []⟩
theorem L_spec_l10At_0_eq (x0 : List (List Dat)) (x1 : Int) (x2 : Int) : L_spec_l10At_0 x0 x1 x2 = (bif (ltI x2 (lenI x0)) then (bif (inR x2 (lenI x0)) then (bif (eqI (gn (at' x0 (tn x2))) x1) then (some [(.int x2)]) else (L_spec_l10At_0 x0 x1 (w64 (x2 + 1)))) else none) else (some [(.int (-1))])) := (loopK_run (by kernel_rfl)).trans (by kernel_rfl)
theorem c_spec_l10At (a0 : List (List Dat)) (a1 : Int) : callI tE f_spec_l10At [.sl a0, .int a1] = (L_spec_l10At_0 a0 a1 0) := (callI_run rfl (by kernel_rfl)).trans (by kernel_rfl)
theorem c_spec_l30OpOk (a0 : Int) (a1 : List (List Dat)) (a2 : Int) (a3 : List (List Dat)) (a4 : List (List Dat)) (a5 : List (List Dat)) (a6 : List (List Dat)) (a7 : Int) (a8 : Int) (a9 : Int) (a10 : Int) (a11 : List (List Dat)) (a12 : Int) (a13 : Int) (a14 : List (List Dat)) (a15 : Int) (a16 : Bool) : callI tE f_spec_l30OpOk [.int a0, .sl a1, .int a2, .sl a3, .sl a4, .sl a5, .sl a6, .int a7, .int a8, .int a9, .int a10, .sl a11, .int a12, .int a13, .sl a14, .int a15, .bool a16] = (bif (eqI a0 1) then (((callI tE f_spec_IsValidSorter [(.sl a1), (.int a2), (.sl a3), (.sl a4), (.sl a5), (.sl a6), (.int a7), (.int a8), (.int a9), (.int a10)])).bind (fun r0 => (some [(.bool (gb r0))]))) else (bif (eqI a0 2) then (((callI tE f_spec_IsValidJoiner [(.sl a11), (.int a12), (.int a13)])).bind (fun r0 => (some [(.bool (gb r0))]))) else (bif (eqI a0 3) then (((callI tE f_spec_IsValidAggregator [(.sl a14), (.int a15), (.bool a16)])).bind (fun r0 => (some [(.bool (gb r0))]))) else (some [(.bool Bool.false)])))) := (callI_run rfl (by kernel_rfl)).trans (by kernel_rfl)
noncomputable def L_spec_IsValidSystem_0 (x0 : Int) (x1 : Int) (x2 : Int) (x3 : Int) (x4 : List (List Dat)) (x5 : List (List Dat)) (x6 : List (List Dat)) (x7 : Int) : Option (List Dat) := loopK tE f_spec_IsValidSystem 0 ⟨[(1, (.ptr (500000, 0) x0 0)), (3, (.i .i64 x1))], [((500000, 0), (.box 72 [(.i .i64 x2), (.i .i64 x3), (.ro 211 Bool.false x4), (.ro 211 Bool.false x5), (.ro 134 Bool.false x6), (.i .i64 x7)]))]⟩
theorem L_spec_IsValidSystem_0_eq (x0 : Int) (x1 : Int) (x2 : Int) (x3 : Int) (x4 : List (List Dat)) (x5 : List (List Dat)) (x6 : List (List Dat)) (x7 : Int) : L_spec_IsValidSystem_0 x0 x1 x2 x3 x4 x5 x6 x7 = (bif (ltI x1 (lenI x6)) then (bif (inR x1 (lenI x6)) then (((callI tE f_spec_l10At [(.sl x4), (.int x1)])).bind (fun r0 => (bif (leI 0 (gn r0)) then (bif (!(eqI (gn (at' x6 (tn x1))) x1)) then (some [(.bool Bool.false)]) else (((callI tE f_spec_l30OpOk [(.int (gn (tk 1 (at' x6 (tn x1))))), (.sl (gl (tk 2 (at' x6 (tn x1))))), (.int (gn (tk 3 (at' x6 (tn x1))))), (.sl (gl (tk 4 (at' x6 (tn x1))))), (.sl (gl (tk 5 (at' x6 (tn x1))))), (.sl (gl (tk 6 (at' x6 (tn x1))))), (.sl (gl (tk 7 (at' x6 (tn x1))))), (.int (gn (tk 8 (at' x6 (tn x1))))), (.int (gn (tk 9 (at' x6 (tn x1))))), (.int (gn (tk 10 (at' x6 (tn x1))))), (.int (gn (tk 11 (at' x6 (tn x1))))), (.sl (gl (tk 12 (at' x6 (tn x1))))), (.int (gn (tk 13 (at' x6 (tn x1))))), (.int (gn (tk 14 (at' x6 (tn x1))))), (.sl (gl (tk 15 (at' x6 (tn x1))))), (.int (gn (tk 16 (at' x6 (tn x1))))), (.bool (gb (tk 17 (at' x6 (tn x1)))))])).bind (fun r1 => (bif (!(gb r1)) then (some [(.bool Bool.false)]) else (((callI tE f_spec_IsOpDone [(.int (gn (tk 1 (at' x6 (tn x1))))), (.sl (gl (tk 2 (at' x6 (tn x1))))), (.int (gn (tk 3 (at' x6 (tn x1))))), (.sl (gl (tk 4 (at' x6 (tn x1))))), (.sl (gl (tk 5 (at' x6 (tn x1))))), (.sl (gl (tk 6 (at' x6 (tn x1))))), (.sl (gl (tk 7 (at' x6 (tn x1))))), (.int (gn (tk 8 (at' x6 (tn x1))))), (.int (gn (tk 9 (at' x6 (tn x1))))), (.int (gn (tk 10 (at' x6 (tn x1))))), (.int (gn (tk 11 (at' x6 (tn x1))))), (.sl (gl (tk 12 (at' x6 (tn x1))))), (.int (gn (tk 13 (at' x6 (tn x1))))), (.int (gn (tk 14 (at' x6 (tn x1))))), (.sl (gl (tk 15 (at' x6 (tn x1))))), (.int (gn (tk 16 (at' x6 (tn x1))))), (.bool (gb (tk 17 (at' x6 (tn x1)))))])).bind (fun r2 => (bif (!(eqBo (gb (tk 21 (at' x6 (tn x1)))) (gb r2))) then (some [(.bool Bool.false)]) else (bif (eqBo Bool.true (gb (tk 21 (at' x6 (tn x1))))) then (some [(.bool Bool.false)]) else (L_spec_IsValidSystem_0 x0 (w64 (x1 + 1)) x2 x3 x4 x5 x6 x7))))))))) else (((callI tE f_spec_l10At [(.sl x5), (.int x1)])).bind (fun r1 => (bif (!(eqI (gn (at' x6 (tn x1))) x1)) then (some [(.bool Bool.false)]) else (((callI tE f_spec_l30OpOk [(.int (gn (tk 1 (at' x6 (tn x1))))), (.sl (gl (tk 2 (at' x6 (tn x1))))), (.int (gn (tk 3 (at' x6 (tn x1))))), (.sl (gl (tk 4 (at' x6 (tn x1))))), (.sl (gl (tk 5 (at' x6 (tn x1))))), (.sl (gl (tk 6 (at' x6 (tn x1))))), (.sl (gl (tk 7 (at' x6 (tn x1))))), (.int (gn (tk 8 (at' x6 (tn x1))))), (.int (gn (tk 9 (at' x6 (tn x1))))), (.int (gn (tk 10 (at' x6 (tn x1))))), (.int (gn (tk 11 (at' x6 (tn x1))))), (.sl (gl (tk 12 (at' x6 (tn x1))))), (.int (gn (tk 13 (at' x6 (tn x1))))), (.int (gn (tk 14 (at' x6 (tn x1))))), (.sl (gl (tk 15 (at' x6 (tn x1))))), (.int (gn (tk 16 (at' x6 (tn x1))))), (.bool (gb (tk 17 (at' x6 (tn x1)))))])).bind (fun r2 => (bif (!(gb r2)) then (some [(.bool Bool.false)]) else (((callI tE f_spec_IsOpDone [(.int (gn (tk 1 (at' x6 (tn x1))))), (.sl (gl (tk 2 (at' x6 (tn x1))))), (.int (gn (tk 3 (at' x6 (tn x1))))), (.sl (gl (tk 4 (at' x6 (tn x1))))), (.sl (gl (tk 5 (at' x6 (tn x1))))), (.sl (gl (tk 6 (at' x6 (tn x1))))), (.sl (gl (tk 7 (at' x6 (tn x1))))), (.int (gn (tk 8 (at' x6 (tn x1))))), (.int (gn (tk 9 (at' x6 (tn x1))))), (.int (gn (tk 10 (at' x6 (tn x1))))), (.int (gn (tk 11 (at' x6 (tn x1))))), (.sl (gl (tk 12 (at' x6 (tn x1))))), (.int (gn (tk 13 (at' x6 (tn x1))))), (.int (gn (tk 14 (at' x6 (tn x1))))), (.sl (gl (tk 15 (at' x6 (tn x1))))), (.int (gn (tk 16 (at' x6 (tn x1))))), (.bool (gb (tk 17 (at' x6 (tn x1)))))])).bind (fun r3 => (bif (!(eqBo (gb (tk 21 (at' x6 (tn x1)))) (gb r3))) then (some [(.bool Bool.false)]) else (bif (eqBo (leI 0 (gn r1)) (gb (tk 21 (at' x6 (tn x1))))) then (some [(.bool Bool.false)]) else (L_spec_IsValidSystem_0 x0 (w64 (x1 + 1)) x2 x3 x4 x5 x6 x7)))))))))))))) else none) else (some [(.bool Bool.true)])) := (loopK_run (by kernel_rfl)).trans (by kernel_rfl)
theorem c_spec_IsValidSystem (a0 : Int) (a1 : Int) (a2 : List (List Dat)) (a3 : List (List Dat)) (a4 : List (List Dat)) (a5 : Int) : callI tE f_spec_IsValidSystem [.int a0, .int a1, .sl a2, .sl a3, .sl a4, .int a5] = (((callI tE f_spec_IsValidBroker [(.int a0), (.int a1), (.sl a2), (.sl a3)])).bind (fun r0 => (bif (!(gb r0)) then (some [(.bool Bool.false)]) else (bif (!(eqI (lenI a4) a1)) then (some [(.bool Bool.false)]) else (bif (ltI 8 (lenI a4)) then (some [(.bool Bool.false)]) else (((callI tE f_spec_l1In [(.int a5), (.int 0), (.int 1000)])).bind (fun r1 => (bif (!(gb r1)) then (some [(.bool Bool.false)]) else (L_spec_IsValidSystem_0 0 0 a0 a1 a2 a3 a4 a5))))))))) := (callI_run rfl (by kernel_rfl)).trans (by kernel_rfl)
theorem c_laws_toClient (a0 : Int) (a1 : Int) (a2 : Int) : callI tE f_laws_toClient [.int a0, .int a1, .int a2] = (some [(.int a0), (.int a1), (.int a2)]) := (callI_run rfl (by kernel_rfl)).trans (by kernel_rfl)
noncomputable def L_laws_toClientS_0 (x0 : List (List Dat)) (x1 : Int) (x2 : List (List Dat)) : Option (List Dat) := loopK tE f_laws_toClientS 0 ⟨[(0, (.ro 250 Bool.false x0)), (3, (.own (500000, 0))), (4, (.i .i64 x1))], [((500000, 0), (.row 211 x2 Bool.true 0 []))]⟩
theorem L_laws_toClientS_0_eq (x0 : List (List Dat)) (x1 : Int) (x2 : List (List Dat)) : L_laws_toClientS_0 x0 x1 x2 = (bif (ltI x1 (lenI x0)) then (bif (inR x1 (lenI x0)) then (((callI tE f_laws_toClient [(.int (gn (at' x0 (tn x1)))), (.int (gn (tk 1 (at' x0 (tn x1))))), (.int (gn (tk 2 (at' x0 (tn x1)))))])).bind (fun r0 => (bif (inR x1 (lenI x2)) then (L_laws_toClientS_0 x0 (w64 (x1 + 1)) (updR x2 (tn x1) 0 [(.int (gn r0)), (.int (gn (tk 1 r0))), (.int (gn (tk 2 r0)))])) else none))) else none) else (some [(.sl x2)])) := (loopK_run (by kernel_rfl)).trans (by kernel_rfl)
theorem c_laws_toClientS (a0 : List (List Dat)) : callI tE f_laws_toClientS [.sl a0] = (bif ((leI 0 (lenI a0)) && ((eqI (lenI a0) (lenI a0)) && (fitM (tn (lenI a0)) 24))) then (L_laws_toClientS_0 a0 0 (List.replicate (tn (lenI a0)) [(.int 0), (.int 0), (.int 0)])) else none) := (callI_run rfl (by kernel_rfl)).trans (by kernel_rfl)
theorem c_laws_toBroker (a0 : Int) (a1 : Int) (a2 : List (List Dat)) (a3 : List (List Dat)) : callI tE f_laws_toBroker [.int a0, .int a1, .sl a2, .sl a3] = (((callI tE f_laws_toClientS [(.sl a2)])).bind (fun r0 => (((callI tE f_laws_toClientS [(.sl a3)])).bind (fun r1 => (some [(.int a0), (.int a1), (.sl (gl r0)), (.sl (gl r1))]))))) := (callI_run rfl (by kernel_rfl)).trans (by kernel_rfl)
theorem c_laws_toSlot (a0 : Int) (a1 : Int) (a2 : List (List Dat)) (a3 : Int) (a4 : List (List Dat)) (a5 : List (List Dat)) (a6 : List (List Dat)) (a7 : List (List Dat)) (a8 : Int) (a9 : Int) (a10 : Int) (a11 : Int) (a12 : List (List Dat)) (a13 : Int) (a14 : Int) (a15 : List (List Dat)) (a16 : Int) (a17 : Bool) (a18 : List (List Dat)) (a19 : List (List Dat)) (a20 : List (List Dat)) (a21 : Bool) : callI tE f_laws_toSlot [.int a0, .int a1, .sl a2, .int a3, .sl a4, .sl a5, .sl a6, .sl a7, .int a8, .int a9, .int a10, .int a11, .sl a12, .int a13, .int a14, .sl a15, .int a16, .bool a17, .sl a18, .sl a19, .sl a20, .bool a21] = (((callI tE f_laws_toOp [(.int a1), (.sl a2), (.int a3), (.sl a4), (.sl a5), (.sl a6), (.sl a7), (.int a8), (.int a9), (.int a10), (.int a11), (.sl a12), (.int a13), (.int a14), (.sl a15), (.int a16), (.bool a17)])).bind (fun r0 => (((callI tE f_laws_toOutput [(.sl a18), (.sl a19), (.sl a20)])).bind (fun r1 => (some [(.int a0), (.int (gn r0)), (.sl (gl (tk 1 r0))), (.int (gn (tk 2 r0))), (.sl (gl (tk 3 r0))), (.sl (gl (tk 4 r0))), (.sl (gl (tk 5 r0))), (.sl (gl (tk 6 r0))), (.int (gn (tk 7 r0))), (.int (gn (tk 8 r0))), (.int (gn (tk 9 r0))), (.int (gn (tk 10 r0))), (.sl (gl (tk 11 r0))), (.int (gn (tk 12 r0))), (.int (gn (tk 13 r0))), (.sl (gl (tk 14 r0))), (.int (gn (tk 15 r0))), (.bool (gb (tk 16 r0))), (.sl (gl r1)), (.sl (gl (tk 1 r1))), (.sl (gl (tk 2 r1))), (.bool a21)]))))) := (callI_run rfl (by kernel_rfl)).trans (by kernel_rfl)
noncomputable def L_laws_toSlotS_0 (x0 : List (List Dat)) (x1 : Int) (x2 : List (List Dat)) : Option (List Dat) := loopK tE f_laws_toSlotS 0 ⟨[(0, (.ro 208 Bool.false x0)), (3, (.own (500000, 0))), (4, (.i .i64 x1))], [((500000, 0), (.row 134 x2 Bool.true 0 []))]⟩
theorem L_laws_toSlotS_0_eq (x0 : List (List Dat)) (x1 : Int) (x2 : List (List Dat)) : L_laws_toSlotS_0 x0 x1 x2 = (bif (ltI x1 (lenI x0)) then (bif (inR x1 (lenI x0)) then (((callI tE f_laws_toSlot [(.int (gn (at' x0 (tn x1)))), (.int (gn (tk 1 (at' x0 (tn x1))))), (.sl (gl (tk 2 (at' x0 (tn x1))))), (.int (gn (tk 3 (at' x0 (tn x1))))), (.sl (gl (tk 4 (at' x0 (tn x1))))), (.sl (gl (tk 5 (at' x0 (tn x1))))), (.sl (gl (tk 6 (at' x0 (tn x1))))), (.sl (gl (tk 7 (at' x0 (tn x1))))), (.int (gn (tk 8 (at' x0 (tn x1))))), (.int (gn (tk 9 (at' x0 (tn x1))))), (.int (gn (tk 10 (at' x0 (tn x1))))), (.int (gn (tk 11 (at' x0 (tn x1))))), (.sl (gl (tk 12 (at' x0 (tn x1))))), (.int (gn (tk 13 (at' x0 (tn x1))))), (.int (gn (tk 14 (at' x0 (tn x1))))), (.sl (gl (tk 15 (at' x0 (tn x1))))), (.int (gn (tk 16 (at' x0 (tn x1))))), (.bool (gb (tk 17 (at' x0 (tn x1))))), (.sl (gl (tk 18 (at' x0 (tn x1))))), (.sl (gl (tk 19 (at' x0 (tn x1))))), (.sl (gl (tk 20 (at' x0 (tn x1))))), (.bool (gb (tk 21 (at' x0 (tn x1)))))])).bind (fun r0 => (bif (inR x1 (lenI x2)) then (L_laws_toSlotS_0 x0 (w64 (x1 + 1)) (updR x2 (tn x1) 0 [(.int (gn r0)), (.int (gn (tk 1 r0))), (.sl (gl (tk 2 r0))), (.int (gn (tk 3 r0))), (.sl (gl (tk 4 r0))), (.sl (gl (tk 5 r0))), (.sl (gl (tk 6 r0))), (.sl (gl (tk 7 r0))), (.int (gn (tk 8 r0))), (.int (gn (tk 9 r0))), (.int (gn (tk 10 r0))), (.int (gn (tk 11 r0))), (.sl (gl (tk 12 r0))), (.int (gn (tk 13 r0))), (.int (gn (tk 14 r0))), (.sl (gl (tk 15 r0))), (.int (gn (tk 16 r0))), (.bool (gb (tk 17 r0))), (.sl (gl (tk 18 r0))), (.sl (gl (tk 19 r0))), (.sl (gl (tk 20 r0))), (.bool (gb (tk 21 r0)))])) else none))) else none) else (some [(.sl x2)])) := (loopK_run (by kernel_rfl)).trans (by kernel_rfl)
theorem c_laws_toSlotS (a0 : List (List Dat)) : callI tE f_laws_toSlotS [.sl a0] = (bif ((leI 0 (lenI a0)) && ((eqI (lenI a0) (lenI a0)) && (fitM (tn (lenI a0)) 336))) then (L_laws_toSlotS_0 a0 0 (List.replicate (tn (lenI a0)) [(.int 0), (.int 0), (.sl []), (.int 0), (.sl []), (.sl []), (.sl []), (.sl []), (.int 0), (.int 0), (.int 0), (.int 0), (.sl []), (.int 0), (.int 0), (.sl []), (.int 0), (.bool Bool.false), (.sl []), (.sl []), (.sl []), (.bool Bool.false)])) else none) := (callI_run rfl (by kernel_rfl)).trans (by kernel_rfl)
theorem c_laws_toSystem (a0 : Int) (a1 : Int) (a2 : List (List Dat)) (a3 : List (List Dat)) (a4 : List (List Dat)) (a5 : Int) : callI tE f_laws_toSystem [.int a0, .int a1, .sl a2, .sl a3, .sl a4, .int a5] = (((callI tE f_laws_toBroker [(.int a0), (.int a1), (.sl a2), (.sl a3)])).bind (fun r0 => (((callI tE f_laws_toSlotS [(.sl a4)])).bind (fun r1 => (some [(.int (gn r0)), (.int (gn (tk 1 r0))), (.sl (gl (tk 2 r0))), (.sl (gl (tk 3 r0))), (.sl (gl r1)), (.int a5)]))))) := (callI_run rfl (by kernel_rfl)).trans (by kernel_rfl)
theorem c_impl_clientAt (a0 : List (List Dat)) (a1 : Int) : callI tE f_impl_clientAt [.sl a0, .int a1] = (((callI tE f_slices_IndexFunc_Client [(.sl a0), (.int a1)])).bind (fun r0 => (some [(.int (gn r0))]))) := (callI_run rfl (by kernel_rfl)).trans (by kernel_rfl)
noncomputable def L_impl_rightClients_0 (x0 : List (List Dat)) (x1 : Int) (x2 : List (List Dat)) (x3 : Int) (x4 : Int) : Option (List Dat) := loopK tE f_impl_rightClients 0 ⟨[(0, (.ro 211 Bool.false x0)), (1, (.i .i64 x1)), (7, (.ro 211 Bool.false x2)), (8, (.i .i64 x3)), (9, (.i .i64 x4))], []⟩
theorem L_impl_rightClients_0_eq (x0 : List (List Dat)) (x1 : Int) (x2 : List (List Dat)) (x3 : Int) (x4 : Int) : L_impl_rightClients_0 x0 x1 x2 x3 x4 = (bif (ltI x4 x3) then (bif (inR x4 (lenI x2)) then (((callI tE f_impl_within [(.int (gn (at' x2 (tn x4)))), (.int 0), (.int (w64 (x1 - 1)))])).bind (fun r0 => (bif (!(gb r0)) then (some [(.bool Bool.false)]) else (bif (ltI 0 x4) then (bif (inR (w64 (x4 - 1)) (lenI x0)) then (bif (leI (gn (at' x2 (tn x4))) (gn (at' x0 (tn (w64 (x4 - 1)))))) then (some [(.bool Bool.false)]) else (((callI tE f_impl_isGrant [(.int (gn (tk 1 (at' x2 (tn x4)))))])).bind (fun r1 => (bif (!(gb r1)) then (some [(.bool Bool.false)]) else (((callI tE f_impl_within [(.int (gn (tk 2 (at' x2 (tn x4))))), (.int 0), (.int 9)])).bind (fun r2 => (bif (!(gb r2)) then (some [(.bool Bool.false)]) else (L_impl_rightClients_0 x0 x1 x2 x3 (w64 (x4 + 1)))))))))) else none) else (((callI tE f_impl_isGrant [(.int (gn (tk 1 (at' x2 (tn x4)))))])).bind (fun r1 => (bif (!(gb r1)) then (some [(.bool Bool.false)]) else (((callI tE f_impl_within [(.int (gn (tk 2 (at' x2 (tn x4))))), (.int 0), (.int 9)])).bind (fun r2 => (bif (!(gb r2)) then (some [(.bool Bool.false)]) else (L_impl_rightClients_0 x0 x1 x2 x3 (w64 (x4 + 1))))))))))))) else none) else (some [(.bool Bool.true)])) := (loopK_run (by kernel_rfl)).trans (by kernel_rfl)
theorem c_impl_rightClients (a0 : List (List Dat)) (a1 : Int) : callI tE f_impl_rightClients [.sl a0, .int a1] = (L_impl_rightClients_0 a0 a1 a0 (lenI a0) 0) := (callI_run rfl (by kernel_rfl)).trans (by kernel_rfl)
theorem c_impl_room (a0 : Int) (a1 : Int) (a2 : List (List Dat)) (a3 : List (List Dat)) : callI tE f_impl_room [.int a0, .int a1, .sl a2, .sl a3] = (some [(.int (bif (ltI (w64 (Int.tdiv a0 8)) 5) then (w64 (Int.tdiv a0 8)) else 5))]) := (callI_run rfl (by kernel_rfl)).trans (by kernel_rfl)
noncomputable def L_impl_IsValidBroker_0 (x0 : Int) (x1 : List (List Dat)) (x2 : Int) (x3 : Int) (x4 : Int) (x5 : Int) (x6 : List (List Dat)) (x7 : List (List Dat)) : Option (List Dat) := loopK tE f_impl_IsValidBroker 0 ⟨[(1, (.ptr (500000, 0) x0 0)), (34, (.ro 211 Bool.false x1)), (35, (.i .i64 x2)), (36, (.i .i64 x3))], [((500000, 0), (.box 69 [(.i .i64 x4), (.i .i64 x5), (.ro 211 Bool.false x6), (.ro 211 Bool.false x7)]))]⟩
theorem L_impl_IsValidBroker_0_eq (x0 : Int) (x1 : List (List Dat)) (x2 : Int) (x3 : Int) (x4 : Int) (x5 : Int) (x6 : List (List Dat)) (x7 : List (List Dat)) : L_impl_IsValidBroker_0 x0 x1 x2 x3 x4 x5 x6 x7 = (bif (ltI x3 x2) then (bif (inR x3 (lenI x1)) then (((callI tE f_impl_clientAt [(.sl x6), (.int (gn (at' x1 (tn x3))))])).bind (fun r0 => (bif (leI 0 (gn r0)) then (some [(.bool Bool.false)]) else (L_impl_IsValidBroker_0 x0 x1 x2 (w64 (x3 + 1)) x4 x5 x6 x7)))) else none) else (((callI tE f_impl_room [(.int x4), (.int x5), (.sl x6), (.sl x7)])).bind (fun r0 => (bif (leI (lenI x6) (gn r0)) then (bif (eqI (lenI x7) 0) then (some [(.bool (leI (lenI x7) 5))]) else (((callI tE f_impl_room [(.int x4), (.int x5), (.sl x6), (.sl x7)])).bind (fun r1 => (bif (eqI (lenI x6) (gn r1)) then (some [(.bool (leI (lenI x7) 5))]) else (some [(.bool Bool.false)]))))) else (some [(.bool Bool.false)]))))) := (loopK_run (by kernel_rfl)).trans (by kernel_rfl)
theorem c_impl_IsValidBroker (a0 : Int) (a1 : Int) (a2 : List (List Dat)) (a3 : List (List Dat)) : callI tE f_impl_IsValidBroker [.int a0, .int a1, .sl a2, .sl a3] = (((callI tE f_impl_within [(.int a0), (.int 8), (.int 120)])).bind (fun r0 => (bif (!(gb r0)) then (some [(.bool Bool.false)]) else (((callI tE f_impl_within [(.int a1), (.int 0), (.int 1000)])).bind (fun r1 => (bif (!(gb r1)) then (some [(.bool Bool.false)]) else (((callI tE f_impl_rightClients [(.sl a2), (.int a1)])).bind (fun r2 => (bif (!(gb r2)) then (some [(.bool Bool.false)]) else (((callI tE f_impl_rightClients [(.sl a3), (.int a1)])).bind (fun r3 => (bif (!(gb r3)) then (some [(.bool Bool.false)]) else (L_impl_IsValidBroker_0 0 a3 (lenI a3) 0 a0 a1 a2 a3))))))))))))) := (callI_run rfl (by kernel_rfl)).trans (by kernel_rfl)
theorem c_impl_validOp (a0 : Int) (a1 : List (List Dat)) (a2 : Int) (a3 : List (List Dat)) (a4 : List (List Dat)) (a5 : List (List Dat)) (a6 : List (List Dat)) (a7 : Int) (a8 : Int) (a9 : Int) (a10 : Int) (a11 : List (List Dat)) (a12 : Int) (a13 : Int) (a14 : List (List Dat)) (a15 : Int) (a16 : Bool) : callI tE f_impl_validOp [.int a0, .sl a1, .int a2, .sl a3, .sl a4, .sl a5, .sl a6, .int a7, .int a8, .int a9, .int a10, .sl a11, .int a12, .int a13, .sl a14, .int a15, .bool a16] = (bif (eqI a0 1) then (((callI tE f_impl_IsValidSorter [(.sl a1), (.int a2), (.sl a3), (.sl a4), (.sl a5), (.sl a6), (.int a7), (.int a8), (.int a9), (.int a10)])).bind (fun r0 => (some [(.bool (gb r0))]))) else (bif (eqI a0 2) then (((callI tE f_impl_IsValidJoiner [(.sl a11), (.int a12), (.int a13)])).bind (fun r0 => (some [(.bool (gb r0))]))) else (bif (eqI a0 3) then (((callI tE f_impl_IsValidAggregator [(.sl a14), (.int a15), (.bool a16)])).bind (fun r0 => (some [(.bool (gb r0))]))) else (some [(.bool Bool.false)])))) := (callI_run rfl (by kernel_rfl)).trans (by kernel_rfl)
noncomputable def L_impl_IsValidSystem_0 (x0 : Int) (x1 : List (List Dat)) (x2 : Int) (x3 : Int) (x4 : Int) (x5 : Int) (x6 : List (List Dat)) (x7 : List (List Dat)) : Option (List Dat) := loopK tE f_impl_IsValidSystem 0 ⟨[(3, (.ptr (500000, 0) x0 0)), (33, (.ro 134 Bool.false x1)), (34, (.i .i64 x2)), (35, (.i .i64 x3))], [((500000, 0), (.box 69 [(.i .i64 x4), (.i .i64 x5), (.ro 211 Bool.false x6), (.ro 211 Bool.false x7)]))]⟩
theorem L_impl_IsValidSystem_0_eq (x0 : Int) (x1 : List (List Dat)) (x2 : Int) (x3 : Int) (x4 : Int) (x5 : Int) (x6 : List (List Dat)) (x7 : List (List Dat)) : L_impl_IsValidSystem_0 x0 x1 x2 x3 x4 x5 x6 x7 = (bif (ltI x3 x2) then (bif (inR x3 (lenI x1)) then (((callI tE f_impl_clientAt [(.sl x6), (.int (gn (at' x1 (tn x3))))])).bind (fun r0 => (bif (leI 0 (gn r0)) then (bif (!(eqI (gn (at' x1 (tn x3))) x3)) then (some [(.bool Bool.false)]) else (((callI tE f_impl_validOp [(.int (gn (tk 1 (at' x1 (tn x3))))), (.sl (gl (tk 2 (at' x1 (tn x3))))), (.int (gn (tk 3 (at' x1 (tn x3))))), (.sl (gl (tk 4 (at' x1 (tn x3))))), (.sl (gl (tk 5 (at' x1 (tn x3))))), (.sl (gl (tk 6 (at' x1 (tn x3))))), (.sl (gl (tk 7 (at' x1 (tn x3))))), (.int (gn (tk 8 (at' x1 (tn x3))))), (.int (gn (tk 9 (at' x1 (tn x3))))), (.int (gn (tk 10 (at' x1 (tn x3))))), (.int (gn (tk 11 (at' x1 (tn x3))))), (.sl (gl (tk 12 (at' x1 (tn x3))))), (.int (gn (tk 13 (at' x1 (tn x3))))), (.int (gn (tk 14 (at' x1 (tn x3))))), (.sl (gl (tk 15 (at' x1 (tn x3))))), (.int (gn (tk 16 (at' x1 (tn x3))))), (.bool (gb (tk 17 (at' x1 (tn x3)))))])).bind (fun r1 => (bif (!(gb r1)) then (some [(.bool Bool.false)]) else (((callI tE f_impl_IsOpDone [(.int (gn (tk 1 (at' x1 (tn x3))))), (.sl (gl (tk 2 (at' x1 (tn x3))))), (.int (gn (tk 3 (at' x1 (tn x3))))), (.sl (gl (tk 4 (at' x1 (tn x3))))), (.sl (gl (tk 5 (at' x1 (tn x3))))), (.sl (gl (tk 6 (at' x1 (tn x3))))), (.sl (gl (tk 7 (at' x1 (tn x3))))), (.int (gn (tk 8 (at' x1 (tn x3))))), (.int (gn (tk 9 (at' x1 (tn x3))))), (.int (gn (tk 10 (at' x1 (tn x3))))), (.int (gn (tk 11 (at' x1 (tn x3))))), (.sl (gl (tk 12 (at' x1 (tn x3))))), (.int (gn (tk 13 (at' x1 (tn x3))))), (.int (gn (tk 14 (at' x1 (tn x3))))), (.sl (gl (tk 15 (at' x1 (tn x3))))), (.int (gn (tk 16 (at' x1 (tn x3))))), (.bool (gb (tk 17 (at' x1 (tn x3)))))])).bind (fun r2 => (bif (!(eqBo (gb (tk 21 (at' x1 (tn x3)))) (gb r2))) then (some [(.bool Bool.false)]) else (bif (eqBo Bool.true (gb (tk 21 (at' x1 (tn x3))))) then (some [(.bool Bool.false)]) else (L_impl_IsValidSystem_0 x0 x1 x2 (w64 (x3 + 1)) x4 x5 x6 x7))))))))) else (((callI tE f_impl_clientAt [(.sl x7), (.int (gn (at' x1 (tn x3))))])).bind (fun r1 => (bif (!(eqI (gn (at' x1 (tn x3))) x3)) then (some [(.bool Bool.false)]) else (((callI tE f_impl_validOp [(.int (gn (tk 1 (at' x1 (tn x3))))), (.sl (gl (tk 2 (at' x1 (tn x3))))), (.int (gn (tk 3 (at' x1 (tn x3))))), (.sl (gl (tk 4 (at' x1 (tn x3))))), (.sl (gl (tk 5 (at' x1 (tn x3))))), (.sl (gl (tk 6 (at' x1 (tn x3))))), (.sl (gl (tk 7 (at' x1 (tn x3))))), (.int (gn (tk 8 (at' x1 (tn x3))))), (.int (gn (tk 9 (at' x1 (tn x3))))), (.int (gn (tk 10 (at' x1 (tn x3))))), (.int (gn (tk 11 (at' x1 (tn x3))))), (.sl (gl (tk 12 (at' x1 (tn x3))))), (.int (gn (tk 13 (at' x1 (tn x3))))), (.int (gn (tk 14 (at' x1 (tn x3))))), (.sl (gl (tk 15 (at' x1 (tn x3))))), (.int (gn (tk 16 (at' x1 (tn x3))))), (.bool (gb (tk 17 (at' x1 (tn x3)))))])).bind (fun r2 => (bif (!(gb r2)) then (some [(.bool Bool.false)]) else (((callI tE f_impl_IsOpDone [(.int (gn (tk 1 (at' x1 (tn x3))))), (.sl (gl (tk 2 (at' x1 (tn x3))))), (.int (gn (tk 3 (at' x1 (tn x3))))), (.sl (gl (tk 4 (at' x1 (tn x3))))), (.sl (gl (tk 5 (at' x1 (tn x3))))), (.sl (gl (tk 6 (at' x1 (tn x3))))), (.sl (gl (tk 7 (at' x1 (tn x3))))), (.int (gn (tk 8 (at' x1 (tn x3))))), (.int (gn (tk 9 (at' x1 (tn x3))))), (.int (gn (tk 10 (at' x1 (tn x3))))), (.int (gn (tk 11 (at' x1 (tn x3))))), (.sl (gl (tk 12 (at' x1 (tn x3))))), (.int (gn (tk 13 (at' x1 (tn x3))))), (.int (gn (tk 14 (at' x1 (tn x3))))), (.sl (gl (tk 15 (at' x1 (tn x3))))), (.int (gn (tk 16 (at' x1 (tn x3))))), (.bool (gb (tk 17 (at' x1 (tn x3)))))])).bind (fun r3 => (bif (!(eqBo (gb (tk 21 (at' x1 (tn x3)))) (gb r3))) then (some [(.bool Bool.false)]) else (bif (eqBo (leI 0 (gn r1)) (gb (tk 21 (at' x1 (tn x3))))) then (some [(.bool Bool.false)]) else (L_impl_IsValidSystem_0 x0 x1 x2 (w64 (x3 + 1)) x4 x5 x6 x7)))))))))))))) else none) else (some [(.bool Bool.true)])) := (loopK_run (by kernel_rfl)).trans (by kernel_rfl)
theorem c_impl_IsValidSystem (a0 : Int) (a1 : Int) (a2 : List (List Dat)) (a3 : List (List Dat)) (a4 : List (List Dat)) (a5 : Int) : callI tE f_impl_IsValidSystem [.int a0, .int a1, .sl a2, .sl a3, .sl a4, .int a5] = (((callI tE f_impl_IsValidBroker [(.int a0), (.int a1), (.sl a2), (.sl a3)])).bind (fun r0 => (bif (!(gb r0)) then (some [(.bool Bool.false)]) else (bif (!(eqI (lenI a4) a1)) then (some [(.bool Bool.false)]) else (bif (ltI 8 (lenI a4)) then (some [(.bool Bool.false)]) else (((callI tE f_impl_within [(.int a5), (.int 0), (.int 1000)])).bind (fun r1 => (bif (!(gb r1)) then (some [(.bool Bool.false)]) else (L_impl_IsValidSystem_0 0 a4 (lenI a4) 0 a0 a1 a2 a3))))))))) := (callI_run rfl (by kernel_rfl)).trans (by kernel_rfl)
theorem c_laws_eqClient (a0 : Int) (a1 : Int) (a2 : Int) (a3 : Int) (a4 : Int) (a5 : Int) : callI tE f_laws_eqClient [.int a0, .int a1, .int a2, .int a3, .int a4, .int a5] = (bif (!(eqI a0 a3)) then (some [(.bool Bool.false)]) else (bif (!(eqI a1 a4)) then (some [(.bool Bool.false)]) else (bif (!(eqI a2 a5)) then (some [(.bool Bool.false)]) else (some [(.bool Bool.true)])))) := (callI_run rfl (by kernel_rfl)).trans (by kernel_rfl)
noncomputable def L_laws_eqClientS_0 (x0 : List (List Dat)) (x1 : List (List Dat)) (x2 : Int) : Option (List Dat) := loopK tE f_laws_eqClientS 0 ⟨[(0, (.ro 211 Bool.false x0)), (1, (.ro 211 Bool.false x1)), (5, (.i .i64 x2))], []⟩
theorem L_laws_eqClientS_0_eq (x0 : List (List Dat)) (x1 : List (List Dat)) (x2 : Int) : L_laws_eqClientS_0 x0 x1 x2 = (bif (ltI x2 (lenI x0)) then (bif (inR x2 (lenI x0)) then (bif (inR x2 (lenI x1)) then (((callI tE f_laws_eqClient [(.int (gn (at' x0 (tn x2)))), (.int (gn (tk 1 (at' x0 (tn x2))))), (.int (gn (tk 2 (at' x0 (tn x2))))), (.int (gn (at' x1 (tn x2)))), (.int (gn (tk 1 (at' x1 (tn x2))))), (.int (gn (tk 2 (at' x1 (tn x2)))))])).bind (fun r0 => (bif (!(gb r0)) then (some [(.bool Bool.false)]) else (L_laws_eqClientS_0 x0 x1 (w64 (x2 + 1)))))) else none) else none) else (some [(.bool Bool.true)])) := (loopK_run (by kernel_rfl)).trans (by kernel_rfl)
theorem c_laws_eqClientS (a0 : List (List Dat)) (a1 : List (List Dat)) : callI tE f_laws_eqClientS [.sl a0, .sl a1] = (bif (!(eqI (lenI a0) (lenI a1))) then (some [(.bool Bool.false)]) else (L_laws_eqClientS_0 a0 a1 0)) := (callI_run rfl (by kernel_rfl)).trans (by kernel_rfl)
theorem c_laws_eqBroker (a0 : Int) (a1 : Int) (a2 : List (List Dat)) (a3 : List (List Dat)) (a4 : Int) (a5 : Int) (a6 : List (List Dat)) (a7 : List (List Dat)) : callI tE f_laws_eqBroker [.int a0, .int a1, .sl a2, .sl a3, .int a4, .int a5, .sl a6, .sl a7] = (bif (!(eqI a0 a4)) then (some [(.bool Bool.false)]) else (bif (!(eqI a1 a5)) then (some [(.bool Bool.false)]) else (((callI tE f_laws_eqClientS [(.sl a2), (.sl a6)])).bind (fun r0 => (bif (!(gb r0)) then (some [(.bool Bool.false)]) else (((callI tE f_laws_eqClientS [(.sl a3), (.sl a7)])).bind (fun r1 => (bif (!(gb r1)) then (some [(.bool Bool.false)]) else (some [(.bool Bool.true)]))))))))) := (callI_run rfl (by kernel_rfl)).trans (by kernel_rfl)
theorem c_laws_eqSlot (a0 : Int) (a1 : Int) (a2 : List (List Dat)) (a3 : Int) (a4 : List (List Dat)) (a5 : List (List Dat)) (a6 : List (List Dat)) (a7 : List (List Dat)) (a8 : Int) (a9 : Int) (a10 : Int) (a11 : Int) (a12 : List (List Dat)) (a13 : Int) (a14 : Int) (a15 : List (List Dat)) (a16 : Int) (a17 : Bool) (a18 : List (List Dat)) (a19 : List (List Dat)) (a20 : List (List Dat)) (a21 : Bool) (a22 : Int) (a23 : Int) (a24 : List (List Dat)) (a25 : Int) (a26 : List (List Dat)) (a27 : List (List Dat)) (a28 : List (List Dat)) (a29 : List (List Dat)) (a30 : Int) (a31 : Int) (a32 : Int) (a33 : Int) (a34 : List (List Dat)) (a35 : Int) (a36 : Int) (a37 : List (List Dat)) (a38 : Int) (a39 : Bool) (a40 : List (List Dat)) (a41 : List (List Dat)) (a42 : List (List Dat)) (a43 : Bool) : callI tE f_laws_eqSlot [.int a0, .int a1, .sl a2, .int a3, .sl a4, .sl a5, .sl a6, .sl a7, .int a8, .int a9, .int a10, .int a11, .sl a12, .int a13, .int a14, .sl a15, .int a16, .bool a17, .sl a18, .sl a19, .sl a20, .bool a21, .int a22, .int a23, .sl a24, .int a25, .sl a26, .sl a27, .sl a28, .sl a29, .int a30, .int a31, .int a32, .int a33, .sl a34, .int a35, .int a36, .sl a37, .int a38, .bool a39, .sl a40, .sl a41, .sl a42, .bool a43] = (bif (!(eqI a0 a22)) then (some [(.bool Bool.false)]) else (((callI tE f_laws_eqOp [(.int a1), (.sl a2), (.int a3), (.sl a4), (.sl a5), (.sl a6), (.sl a7), (.int a8), (.int a9), (.int a10), (.int a11), (.sl a12), (.int a13), (.int a14), (.sl a15), (.int a16), (.bool a17), (.int a23), (.sl a24), (.int a25), (.sl a26), (.sl a27), (.sl a28), (.sl a29), (.int a30), (.int a31), (.int a32), (.int a33), (.sl a34), (.int a35), (.int a36), (.sl a37), (.int a38), (.bool a39)])).bind (fun r0 => (bif (!(gb r0)) then (some [(.bool Bool.false)]) else (((callI tE f_laws_eqOutput [(.sl a18), (.sl a19), (.sl a20), (.sl a40), (.sl a41), (.sl a42)])).bind (fun r1 => (bif (!(gb r1)) then (some [(.bool Bool.false)]) else (bif (!(eqBo a21 a43)) then (some [(.bool Bool.false)]) else (some [(.bool Bool.true)]))))))))) := (callI_run rfl (by kernel_rfl)).trans (by kernel_rfl)
noncomputable def L_laws_eqSlotS_0 (x0 : List (List Dat)) (x1 : List (List Dat)) (x2 : Int) : Option (List Dat) := loopK tE f_laws_eqSlotS 0 ⟨[(0, (.ro 134 Bool.false x0)), (1, (.ro 134 Bool.false x1)), (5, (.i .i64 x2))], []⟩
theorem L_laws_eqSlotS_0_eq (x0 : List (List Dat)) (x1 : List (List Dat)) (x2 : Int) : L_laws_eqSlotS_0 x0 x1 x2 = (bif (ltI x2 (lenI x0)) then (bif (inR x2 (lenI x0)) then (bif (inR x2 (lenI x1)) then (((callI tE f_laws_eqSlot [(.int (gn (at' x0 (tn x2)))), (.int (gn (tk 1 (at' x0 (tn x2))))), (.sl (gl (tk 2 (at' x0 (tn x2))))), (.int (gn (tk 3 (at' x0 (tn x2))))), (.sl (gl (tk 4 (at' x0 (tn x2))))), (.sl (gl (tk 5 (at' x0 (tn x2))))), (.sl (gl (tk 6 (at' x0 (tn x2))))), (.sl (gl (tk 7 (at' x0 (tn x2))))), (.int (gn (tk 8 (at' x0 (tn x2))))), (.int (gn (tk 9 (at' x0 (tn x2))))), (.int (gn (tk 10 (at' x0 (tn x2))))), (.int (gn (tk 11 (at' x0 (tn x2))))), (.sl (gl (tk 12 (at' x0 (tn x2))))), (.int (gn (tk 13 (at' x0 (tn x2))))), (.int (gn (tk 14 (at' x0 (tn x2))))), (.sl (gl (tk 15 (at' x0 (tn x2))))), (.int (gn (tk 16 (at' x0 (tn x2))))), (.bool (gb (tk 17 (at' x0 (tn x2))))), (.sl (gl (tk 18 (at' x0 (tn x2))))), (.sl (gl (tk 19 (at' x0 (tn x2))))), (.sl (gl (tk 20 (at' x0 (tn x2))))), (.bool (gb (tk 21 (at' x0 (tn x2))))), (.int (gn (at' x1 (tn x2)))), (.int (gn (tk 1 (at' x1 (tn x2))))), (.sl (gl (tk 2 (at' x1 (tn x2))))), (.int (gn (tk 3 (at' x1 (tn x2))))), (.sl (gl (tk 4 (at' x1 (tn x2))))), (.sl (gl (tk 5 (at' x1 (tn x2))))), (.sl (gl (tk 6 (at' x1 (tn x2))))), (.sl (gl (tk 7 (at' x1 (tn x2))))), (.int (gn (tk 8 (at' x1 (tn x2))))), (.int (gn (tk 9 (at' x1 (tn x2))))), (.int (gn (tk 10 (at' x1 (tn x2))))), (.int (gn (tk 11 (at' x1 (tn x2))))), (.sl (gl (tk 12 (at' x1 (tn x2))))), (.int (gn (tk 13 (at' x1 (tn x2))))), (.int (gn (tk 14 (at' x1 (tn x2))))), (.sl (gl (tk 15 (at' x1 (tn x2))))), (.int (gn (tk 16 (at' x1 (tn x2))))), (.bool (gb (tk 17 (at' x1 (tn x2))))), (.sl (gl (tk 18 (at' x1 (tn x2))))), (.sl (gl (tk 19 (at' x1 (tn x2))))), (.sl (gl (tk 20 (at' x1 (tn x2))))), (.bool (gb (tk 21 (at' x1 (tn x2)))))])).bind (fun r0 => (bif (!(gb r0)) then (some [(.bool Bool.false)]) else (L_laws_eqSlotS_0 x0 x1 (w64 (x2 + 1)))))) else none) else none) else (some [(.bool Bool.true)])) := (loopK_run (by kernel_rfl)).trans (by kernel_rfl)
theorem c_laws_eqSlotS (a0 : List (List Dat)) (a1 : List (List Dat)) : callI tE f_laws_eqSlotS [.sl a0, .sl a1] = (bif (!(eqI (lenI a0) (lenI a1))) then (some [(.bool Bool.false)]) else (L_laws_eqSlotS_0 a0 a1 0)) := (callI_run rfl (by kernel_rfl)).trans (by kernel_rfl)
theorem c_laws_eqSystem (a0 : Int) (a1 : Int) (a2 : List (List Dat)) (a3 : List (List Dat)) (a4 : List (List Dat)) (a5 : Int) (a6 : Int) (a7 : Int) (a8 : List (List Dat)) (a9 : List (List Dat)) (a10 : List (List Dat)) (a11 : Int) : callI tE f_laws_eqSystem [.int a0, .int a1, .sl a2, .sl a3, .sl a4, .int a5, .int a6, .int a7, .sl a8, .sl a9, .sl a10, .int a11] = (((callI tE f_laws_eqBroker [(.int a0), (.int a1), (.sl a2), (.sl a3), (.int a6), (.int a7), (.sl a8), (.sl a9)])).bind (fun r0 => (bif (!(gb r0)) then (some [(.bool Bool.false)]) else (((callI tE f_laws_eqSlotS [(.sl a4), (.sl a10)])).bind (fun r1 => (bif (!(gb r1)) then (some [(.bool Bool.false)]) else (bif (!(eqI a5 a11)) then (some [(.bool Bool.false)]) else (some [(.bool Bool.true)])))))))) := (callI_run rfl (by kernel_rfl)).trans (by kernel_rfl)
noncomputable def L_spec_l31Steps_0 (x0 : Int) (x1 : Int) (x2 : Int) (x3 : Int) (x4 : List (List Dat)) (x5 : Int) (x6 : List (List Dat)) (x7 : List (List Dat)) (x8 : List (List Dat)) (x9 : List (List Dat)) (x10 : Int) (x11 : Int) (x12 : Int) (x13 : Int) (x14 : List (List Dat)) (x15 : Int) (x16 : Int) (x17 : List (List Dat)) (x18 : Int) (x19 : Bool) : Option (List Dat) := loopK tE f_spec_l31Steps 0 ⟨[(1, (.ptr (500000, 0) x0 0)), (3, (.i .i64 x1)), (4, (.i .i64 x2))], [((500000, 0), (.box 132 [(.i .i64 x3), (.ro 105 Bool.false x4), (.i .i64 x5), (.ro 105 Bool.false x6), (.ro 105 Bool.false x7), (.ro 105 Bool.false x8), (.ro 169 Bool.false x9), (.i .i64 x10), (.i .i64 x11), (.i .i64 x12), (.i .i64 x13), (.ro 145 Bool.false x14), (.i .i64 x15), (.i .i64 x16), (.ro 148 Bool.false x17), (.i .i64 x18), (.b x19)]))]⟩
noncomputable def L_spec_l31Steps_1 (x0 : Int) (x1 : Int) (x2 : Int) (x3 : Int) (x4 : List (List Dat)) (x5 : Int) (x6 : List (List Dat)) (x7 : List (List Dat)) (x8 : List (List Dat)) (x9 : List (List Dat)) (x10 : Int) (x11 : Int) (x12 : Int) (x13 : Int) (x14 : List (List Dat)) (x15 : Int) (x16 : Int) (x17 : List (List Dat)) (x18 : Int) (x19 : Bool) : Option (List Dat) := loopK tE f_spec_l31Steps 1 ⟨[(1, (.ptr (500000, 0) x0 0)), (5, (.i .i64 x1)), (6, (.i .i64 x2))], [((500000, 0), (.box 132 [(.i .i64 x3), (.ro 105 Bool.false x4), (.i .i64 x5), (.ro 105 Bool.false x6), (.ro 105 Bool.false x7), (.ro 105 Bool.false x8), (.ro 169 Bool.false x9), (.i .i64 x10), (.i .i64 x11), (.i .i64 x12), (.i .i64 x13), (.ro 145 Bool.false x14), (.i .i64 x15), (.i .i64 x16), (.ro 148 Bool.false x17), (.i .i64 x18), (.b x19)]))]⟩
theorem L_spec_l31Steps_0_eq (x0 : Int) (x1 : Int) (x2 : Int) (x3 : Int) (x4 : List (List Dat)) (x5 : Int) (x6 : List (List Dat)) (x7 : List (List Dat)) (x8 : List (List Dat)) (x9 : List (List Dat)) (x10 : Int) (x11 : Int) (x12 : Int) (x13 : Int) (x14 : List (List Dat)) (x15 : Int) (x16 : Int) (x17 : List (List Dat)) (x18 : Int) (x19 : Bool) : L_spec_l31Steps_0 x0 x1 x2 x3 x4 x5 x6 x7 x8 x9 x10 x11 x12 x13 x14 x15 x16 x17 x18 x19 = (bif (ltI x2 (lenI x14)) then (bif (inR x2 (lenI x14)) then (bif (inR x2 (lenI x14)) then (((callI tE f_spec_JoinStepBound [(.sl (gl (List.drop 1 (at' x14 (tn x2))))), (.sl (gl (List.drop 2 (at' x14 (tn x2)))))])).bind (fun r0 => (L_spec_l31Steps_0 x0 (w64 (x1 + (gn r0))) (w64 (x2 + 1)) x3 x4 x5 x6 x7 x8 x9 x10 x11 x12 x13 x14 x15 x16 x17 x18 x19))) else none) else none) else (some [(.int x1)])) := (loopK_run (by kernel_rfl)).trans (by kernel_rfl)
theorem L_spec_l31Steps_1_eq (x0 : Int) (x1 : Int) (x2 : Int) (x3 : Int) (x4 : List (List Dat)) (x5 : Int) (x6 : List (List Dat)) (x7 : List (List Dat)) (x8 : List (List Dat)) (x9 : List (List Dat)) (x10 : Int) (x11 : Int) (x12 : Int) (x13 : Int) (x14 : List (List Dat)) (x15 : Int) (x16 : Int) (x17 : List (List Dat)) (x18 : Int) (x19 : Bool) : L_spec_l31Steps_1 x0 x1 x2 x3 x4 x5 x6 x7 x8 x9 x10 x11 x12 x13 x14 x15 x16 x17 x18 x19 = (bif (ltI x2 (lenI x17)) then (bif (inR x2 (lenI x17)) then (((callI tE f_spec_GroupStepBound [(.sl (gl (at' x17 (tn x2))))])).bind (fun r0 => (L_spec_l31Steps_1 x0 (w64 ((w64 (x1 + 31)) + (gn r0))) (w64 (x2 + 1)) x3 x4 x5 x6 x7 x8 x9 x10 x11 x12 x13 x14 x15 x16 x17 x18 x19))) else none) else (some [(.int x1)])) := (loopK_run (by kernel_rfl)).trans (by kernel_rfl)
theorem c_spec_l31Steps (a0 : Int) (a1 : List (List Dat)) (a2 : Int) (a3 : List (List Dat)) (a4 : List (List Dat)) (a5 : List (List Dat)) (a6 : List (List Dat)) (a7 : Int) (a8 : Int) (a9 : Int) (a10 : Int) (a11 : List (List Dat)) (a12 : Int) (a13 : Int) (a14 : List (List Dat)) (a15 : Int) (a16 : Bool) : callI tE f_spec_l31Steps [.int a0, .sl a1, .int a2, .sl a3, .sl a4, .sl a5, .sl a6, .int a7, .int a8, .int a9, .int a10, .sl a11, .int a12, .int a13, .sl a14, .int a15, .bool a16] = (bif (eqI a0 1) then (((callI tE f_spec_SortStepBound [(.int (lenI a1))])).bind (fun r0 => (some [(.int (gn r0))]))) else (bif (eqI a0 2) then (L_spec_l31Steps_0 0 0 0 a0 a1 a2 a3 a4 a5 a6 a7 a8 a9 a10 a11 a12 a13 a14 a15 a16) else (L_spec_l31Steps_1 0 0 0 a0 a1 a2 a3 a4 a5 a6 a7 a8 a9 a10 a11 a12 a13 a14 a15 a16))) := (callI_run rfl (by kernel_rfl)).trans (by kernel_rfl)
noncomputable def L_spec_RoundBound_0 (x0 : Int) (x1 : Int) (x2 : Int) (x3 : Int) (x4 : Int) (x5 : List (List Dat)) (x6 : List (List Dat)) (x7 : List (List Dat)) (x8 : Int) : Option (List Dat) := loopK tE f_spec_RoundBound 0 ⟨[(1, (.ptr (500000, 0) x0 0)), (3, (.i .i64 x1)), (4, (.i .i64 x2))], [((500000, 0), (.box 72 [(.i .i64 x3), (.i .i64 x4), (.ro 211 Bool.false x5), (.ro 211 Bool.false x6), (.ro 134 Bool.false x7), (.i .i64 x8)]))]⟩
theorem L_spec_RoundBound_0_eq (x0 : Int) (x1 : Int) (x2 : Int) (x3 : Int) (x4 : Int) (x5 : List (List Dat)) (x6 : List (List Dat)) (x7 : List (List Dat)) (x8 : Int) : L_spec_RoundBound_0 x0 x1 x2 x3 x4 x5 x6 x7 x8 = (bif (ltI x2 (lenI x7)) then (bif (inR x2 (lenI x7)) then (bif (!(gb (List.drop 21 (at' x7 (tn x2))))) then (bif (inR x2 (lenI x7)) then (((callI tE f_spec_l31Steps [(.int (gn (List.drop 1 (at' x7 (tn x2))))), (.sl (gl (tk 1 (List.drop 1 (at' x7 (tn x2)))))), (.int (gn (tk 2 (List.drop 1 (at' x7 (tn x2)))))), (.sl (gl (tk 3 (List.drop 1 (at' x7 (tn x2)))))), (.sl (gl (tk 4 (List.drop 1 (at' x7 (tn x2)))))), (.sl (gl (tk 5 (List.drop 1 (at' x7 (tn x2)))))), (.sl (gl (tk 6 (List.drop 1 (at' x7 (tn x2)))))), (.int (gn (tk 7 (List.drop 1 (at' x7 (tn x2)))))), (.int (gn (tk 8 (List.drop 1 (at' x7 (tn x2)))))), (.int (gn (tk 9 (List.drop 1 (at' x7 (tn x2)))))), (.int (gn (tk 10 (List.drop 1 (at' x7 (tn x2)))))), (.sl (gl (tk 11 (List.drop 1 (at' x7 (tn x2)))))), (.int (gn (tk 12 (List.drop 1 (at' x7 (tn x2)))))), (.int (gn (tk 13 (List.drop 1 (at' x7 (tn x2)))))), (.sl (gl (tk 14 (List.drop 1 (at' x7 (tn x2)))))), (.int (gn (tk 15 (List.drop 1 (at' x7 (tn x2)))))), (.bool (gb (tk 16 (List.drop 1 (at' x7 (tn x2))))))])).bind (fun r0 => (L_spec_RoundBound_0 x0 (w64 (x1 + (gn r0))) (w64 (x2 + 1)) x3 x4 x5 x6 x7 x8))) else none) else (L_spec_RoundBound_0 x0 x1 (w64 (x2 + 1)) x3 x4 x5 x6 x7 x8)) else none) else (some [(.int x1)])) := (loopK_run (by kernel_rfl)).trans (by kernel_rfl)
theorem c_spec_RoundBound (a0 : Int) (a1 : Int) (a2 : List (List Dat)) (a3 : List (List Dat)) (a4 : List (List Dat)) (a5 : Int) : callI tE f_spec_RoundBound [.int a0, .int a1, .sl a2, .sl a3, .sl a4, .int a5] = (((callI tE f_spec_IsValidSystem [(.int a0), (.int a1), (.sl a2), (.sl a3), (.sl a4), (.int a5)])).bind (fun r0 => (bif (!(gb r0)) then (some [(.int 0)]) else (L_spec_RoundBound_0 0 0 0 a0 a1 a2 a3 a4 a5)))) := (callI_run rfl (by kernel_rfl)).trans (by kernel_rfl)
noncomputable def L_impl_RoundBound_0 (x0 : Int) (x1 : List (List Dat)) (x2 : Int) (x3 : Int) : Option (List Dat) := loopK tE f_impl_RoundBound 0 ⟨[(3, (.i .i64 x0)), (14, (.ro 134 Bool.false x1)), (15, (.i .i64 x2)), (16, (.i .i64 x3))], []⟩
noncomputable def L_impl_RoundBound_1 (x0 : Int) (x1 : List (List Dat)) (x2 : Int) (x3 : Int) (x4 : List (List Dat)) (x5 : Int) (x6 : Int) : Option (List Dat) := loopK tE f_impl_RoundBound 1 ⟨[(3, (.i .i64 x0)), (14, (.ro 134 Bool.false x1)), (15, (.i .i64 x2)), (16, (.i .i64 x3)), (40, (.ro 145 Bool.false x4)), (41, (.i .i64 x5)), (42, (.i .i64 x6))], []⟩
noncomputable def L_impl_RoundBound_2 (x0 : Int) (x1 : List (List Dat)) (x2 : Int) (x3 : Int) (x4 : List (List Dat)) (x5 : Int) (x6 : Int) : Option (List Dat) := loopK tE f_impl_RoundBound 2 ⟨[(3, (.i .i64 x0)), (14, (.ro 134 Bool.false x1)), (15, (.i .i64 x2)), (16, (.i .i64 x3)), (59, (.ro 148 Bool.false x4)), (60, (.i .i64 x5)), (61, (.i .i64 x6))], []⟩
theorem L_impl_RoundBound_0_eq (x0 : Int) (x1 : List (List Dat)) (x2 : Int) (x3 : Int) : L_impl_RoundBound_0 x0 x1 x2 x3 = (bif (ltI x3 x2) then (bif (inR x3 (lenI x1)) then (bif (gb (tk 21 (at' x1 (tn x3)))) then (L_impl_RoundBound_0 x0 x1 x2 (w64 (x3 + 1))) else (bif (eqI (gn (tk 1 (at' x1 (tn x3)))) 1) then (((callI tE f_impl_SortStepBound [(.int (lenI (gl (tk 2 (at' x1 (tn x3))))))])).bind (fun r0 => (L_impl_RoundBound_0 (w64 (x0 + (gn r0))) x1 x2 (w64 (x3 + 1))))) else (bif (eqI (gn (tk 1 (at' x1 (tn x3)))) 2) then (L_impl_RoundBound_1 x0 x1 x2 x3 (gl (tk 12 (at' x1 (tn x3)))) (lenI (gl (tk 12 (at' x1 (tn x3))))) 0) else (bif (eqI (gn (tk 1 (at' x1 (tn x3)))) 3) then (L_impl_RoundBound_2 x0 x1 x2 x3 (gl (tk 15 (at' x1 (tn x3)))) (lenI (gl (tk 15 (at' x1 (tn x3))))) 0) else (L_impl_RoundBound_0 x0 x1 x2 (w64 (x3 + 1))))))) else none) else (some [(.int x0)])) := (loopK_run (by kernel_rfl)).trans (by kernel_rfl)
theorem L_impl_RoundBound_1_eq (x0 : Int) (x1 : List (List Dat)) (x2 : Int) (x3 : Int) (x4 : List (List Dat)) (x5 : Int) (x6 : Int) : L_impl_RoundBound_1 x0 x1 x2 x3 x4 x5 x6 = (bif (ltI x6 x5) then (bif (inR x6 (lenI x4)) then (((callI tE f_impl_JoinStepBound [(.sl (gl (tk 1 (at' x4 (tn x6))))), (.sl (gl (tk 2 (at' x4 (tn x6)))))])).bind (fun r0 => (L_impl_RoundBound_1 (w64 (x0 + (gn r0))) x1 x2 x3 x4 x5 (w64 (x6 + 1))))) else none) else (L_impl_RoundBound_0 x0 x1 x2 (w64 (x3 + 1)))) := (loopK_run (by kernel_rfl)).trans (by kernel_rfl)
theorem L_impl_RoundBound_2_eq (x0 : Int) (x1 : List (List Dat)) (x2 : Int) (x3 : Int) (x4 : List (List Dat)) (x5 : Int) (x6 : Int) : L_impl_RoundBound_2 x0 x1 x2 x3 x4 x5 x6 = (bif (ltI x6 x5) then (bif (inR x6 (lenI x4)) then (((callI tE f_impl_GroupStepBound [(.sl (gl (at' x4 (tn x6))))])).bind (fun r0 => (L_impl_RoundBound_2 (w64 (x0 + (w64 ((gn r0) + 31)))) x1 x2 x3 x4 x5 (w64 (x6 + 1))))) else none) else (L_impl_RoundBound_0 x0 x1 x2 (w64 (x3 + 1)))) := (loopK_run (by kernel_rfl)).trans (by kernel_rfl)
theorem c_impl_RoundBound (a0 : Int) (a1 : Int) (a2 : List (List Dat)) (a3 : List (List Dat)) (a4 : List (List Dat)) (a5 : Int) : callI tE f_impl_RoundBound [.int a0, .int a1, .sl a2, .sl a3, .sl a4, .int a5] = (((callI tE f_impl_IsValidSystem [(.int a0), (.int a1), (.sl a2), (.sl a3), (.sl a4), (.int a5)])).bind (fun r0 => (bif (!(gb r0)) then (some [(.int 0)]) else (L_impl_RoundBound_0 0 a4 (lenI a4) 0)))) := (callI_run rfl (by kernel_rfl)).trans (by kernel_rfl)
theorem c_impl_clientAt_1 (a0 : Int) (a1 : Int) (a2 : Int) (a3 : Int) : callI tE f_impl_clientAt_1 [.int a0, .int a1, .int a2, .int a3] = (some [(.bool (eqI a0 a3)), (.int a3)]) := (callI_run rfl (by kernel_rfl)).trans (by kernel_rfl)
end Go.Proofs.YtceoogjanfbdcaaGreat.Vai
namespace Go.Proofs.YtceoogjanfbdcaaGreat.Vai
open Go
set_option linter.unusedSimpArgs false
set_option linter.unusedVariables false
set_option linter.unnecessarySimpa false
set_option maxRecDepth 10000
theorem iKind (k : Int) : callI tE f_impl_IsValidJoinKind [.int k] = some [.bool (win k 1 4)] := by
  simp only [c_impl_IsValidJoinKind, within_ok, gn_c, gb_c, gs_c, gl_c, tk_s, tk_0, List.drop_succ_cons, List.drop_zero, List.headD_cons, List.getD_cons_zero, List.getD_cons_succ, bind_s]
theorem sKind (k : Int) : callI tE f_spec_IsValidJoinKind [.int k] = some [.bool (win k 1 4)] := by
  simp only [c_spec_IsValidJoinKind, l1In_ok, gn_c, gb_c, gs_c, gl_c, tk_s, tk_0, List.drop_succ_cons, List.drop_zero, List.headD_cons, List.getD_cons_zero, List.getD_cons_succ, bind_s]
def opDone (x : Opr) : Bool := bif eqI x.kind 1 then eqI x.so.ph 4 else bif eqI x.kind 2 then eqI x.jn.pend.length 0 else bif eqI x.kind 3 then eqI x.ag.pend.length 0 else true
theorem iIsOpDone (x : Opr) : callI tE f_impl_IsOpDone x.e = some [.bool (opDone x)] := by
  simp only [Opr.e]
  rw [c_impl_IsOpDone, lenI_map, lenI_map]
  unfold opDone
  cases eqI x.kind 1 <;> cases eqI x.kind 2 <;> cases eqI x.kind 3 <;> rfl
theorem sIsOpDone (x : Opr) : callI tE f_spec_IsOpDone x.e = some [.bool (opDone x)] := by
  simp only [Opr.e]
  rw [c_spec_IsOpDone, lenI_map, lenI_map]
  unfold opDone
  cases eqI x.kind 1 <;> cases eqI x.kind 2 <;> cases eqI x.kind 3 <;> rfl
end Go.Proofs.YtceoogjanfbdcaaGreat.Vai
namespace Go.Proofs.YtceoogjanfbdcaaGreat.Vai
open Go
set_option linter.unusedSimpArgs false
set_option linter.unusedVariables false
set_option linter.unnecessarySimpa false
set_option maxRecDepth 10000
theorem iValidTk (t : Tk) : callI tE f_impl_IsValidTask [.int t.kind, .sl (t.left.map Rw.e), .sl (t.right.map Rw.e), .sl (t.mat.map boE), .int t.level] = some [.bool (tkOk t)] := by
  rw [c_impl_IsValidTask]
  simp only [iKind, iAreValid, within_ok, lenI_map, gn_c, gb_c, gs_c, gl_c, tk_s, tk_0, List.drop_succ_cons, List.drop_zero, List.headD_cons, List.getD_cons_zero, List.getD_cons_succ, bind_s]
  unfold tkOk
  cases win t.kind 1 4
  · rfl
  · cases aok t.left
    · rfl
    · cases aok t.right
      · rfl
      · cases eqI (t.mat.length : Nat) (t.left.length : Nat) <;> rfl
theorem sValidTk (t : Tk) (h : t.sz ≤ 1073741824) : callI tE f_spec_IsValidTask [.int t.kind, .sl (t.left.map Rw.e), .sl (t.right.map Rw.e), .sl (t.mat.map boE), .int t.level] = some [.bool (tkOk t)] := by
  unfold Tk.sz at h
  rw [c_spec_IsValidTask]
  simp only [sKind, sAreValid t.left (by omega), sAreValid t.right (by omega), l1In_ok, lenI_map, gn_c, gb_c, gs_c, gl_c, tk_s, tk_0, List.drop_succ_cons, List.drop_zero, List.headD_cons, List.getD_cons_zero, List.getD_cons_succ, bind_s]
  unfold tkOk
  cases win t.kind 1 4
  · rfl
  · cases aok t.left
    · rfl
    · cases aok t.right
      · rfl
      · cases eqI (t.mat.length : Nat) (t.left.length : Nat) <;> rfl
end Go.Proofs.YtceoogjanfbdcaaGreat.Vai
namespace Go.Proofs.YtceoogjanfbdcaaGreat.Vai
open Go
set_option linter.unusedSimpArgs false
set_option linter.unusedVariables false
set_option linter.unnecessarySimpa false
set_option maxRecDepth 10000
theorem leftSum_app (u v : List Tk) : leftSum (u ++ v) = leftSum u + leftSum v := by simp [leftSum]
theorem rightSum_app (u v : List Tk) : rightSum (u ++ v) = rightSum u + rightSum v := by simp [rightSum]
theorem leftSum_le : ∀ l : List Tk, leftSum l ≤ szL Tk.sz l
  | [] => Nat.le_refl _
  | a :: l => by
    have := leftSum_le l
    simp only [leftSum, List.map_cons, List.sum_cons, szL, Tk.sz] at *
    omega
theorem rightSum_le : ∀ l : List Tk, rightSum l ≤ szL Tk.sz l
  | [] => Nat.le_refl _
  | a :: l => by
    have := rightSum_le l
    simp only [rightSum, List.map_cons, List.sum_cons, szL, Tk.sz] at *
    omega
def Jn.B2 (j : Jn) : Prop := j.sz ≤ 1073741800
def pendOk (l : List Tk) (t : Tk) : Bool := tkOk t && decide (t.kind = (l.headD tkZ).kind)
def pendAll (l : List Tk) : Bool := l.all (pendOk l)
theorem jnOk_eq (j : Jn) : jnOk j = (decide (j.pend.length ≤ 40) && (win j.wr 0 100000 && (win j.parts 0 1000 && (pendAll j.pend && (decide (leftSum j.pend ≤ 24) && decide (rightSum j.pend ≤ 24)))))) := rfl
theorem leN24 (n : Nat) : leI (n : Int) 24 = decide (n ≤ 24) := by unfold leI; congr 1; apply propext; omega
theorem leN40 (n : Nat) : leI (n : Int) 40 = decide (n ≤ 40) := by unfold leI; congr 1; apply propext; omega
theorem headTk {l : List Tk} (h : 0 < l.length) : at' (l.map Tk.e) (tn 0) = (l.headD tkZ).e := by
  cases l with
  | nil => simp at h
  | cons a l => rfl
theorem iValidJn (j : Jn) (h : j.B2) : callI tE f_impl_IsValidJoiner [.sl (j.pend.map Tk.e), .int j.wr, .int j.parts] = some [.bool (jnOk j)] := by
  have hl := szL_len Tk.sz j.pend
  have hL := leftSum_le j.pend
  have hR := rightSum_le j.pend
  have hsz : szL Tk.sz j.pend ≤ 1073741800 := h
  rw [c_impl_IsValidJoiner, jnOk_eq]
  simp only [within_ok, lenI_map, gn_c, gb_c, gs_c, gl_c, tk_s, tk_0, List.drop_succ_cons, List.drop_zero, List.headD_cons, List.getD_cons_zero, List.getD_cons_succ, bind_s]
  by_cases h40 : j.pend.length ≤ 40
  · rw [ltF (by omega), cond_false, decide_eq_true h40]
    cases win j.wr 0 100000
    · rfl
    · cases win j.parts 0 1000
      · rfl
      · simp only [Bool.not_true, cond_false, Bool.true_and]
        refine (zip_loop (l := j.pend) (L := fun (s : Nat × Nat) i => L_impl_IsValidJoiner_0 0 (s.1 : Nat) (s.2 : Nat) (j.pend.map Tk.e) (j.pend.length : Nat) i (j.pend.map Tk.e) j.wr j.parts) (F := fun s v => some [.bool (v.all (pendOk j.pend) && (decide (s.1 + leftSum v ≤ 24) && decide (s.2 + rightSum v ≤ 24)))]) (I := fun s u _ => s = (leftSum u, rightSum u)) (by omega) (fun u a v s e hI => ?_) (fun s hs => ?_) (0, 0) rfl).trans ?_
        · have hul : u.length < j.pend.length := by rw [e]; simp
          have hat : at' (j.pend.map Tk.e) u.length = a.e := at_i e rfl
          have h1 : leftSum u + a.left.length ≤ 1073741800 := by
            rw [e, leftSum_app] at hL; simp only [leftSum, List.map_cons, List.sum_cons] at hL ⊢; rw [e] at hsz; omega
          have h2 : rightSum u + a.right.length ≤ 1073741800 := by
            rw [e, rightSum_app] at hR; simp only [rightSum, List.map_cons, List.sum_cons] at hR ⊢; rw [e] at hsz; omega
          subst hI
          have step : L_impl_IsValidJoiner_0 0 (leftSum u : Nat) (rightSum u : Nat) (j.pend.map Tk.e) (j.pend.length : Nat) (u.length : Nat) (j.pend.map Tk.e) j.wr j.parts = bif pendOk j.pend a then L_impl_IsValidJoiner_0 0 ((leftSum u + a.left.length : Nat) : Int) ((rightSum u + a.right.length : Nat) : Int) (j.pend.map Tk.e) (j.pend.length : Nat) (w64 (u.length + 1)) (j.pend.map Tk.e) j.wr j.parts else some [.bool false] := by
            rw [L_impl_IsValidJoiner_0_eq, ltT (by omega), cond_true, lenI_map, inRT (by omega) (by omega), cond_true, inRT (by omega) (by omega), cond_true, headTk (by omega)]
            simp only [tn_c, hat, Tk.e, gn_c, gb_c, gs_c, gl_c, tk_s, tk_0, List.drop_succ_cons, List.drop_zero, List.headD_cons, List.getD_cons_zero, List.getD_cons_succ, bind_s, iValidTk, lenI_map]
            unfold pendOk
            rw [w64_id ⟨by omega, by omega⟩, w64_id ⟨by omega, by omega⟩]
            cases tkOk a
            · rfl
            · simp only [Bool.not_true, cond_false, Bool.true_and, bifn]
              rfl
          cases hp : pendOk j.pend a with
          | true =>
            refine .inl ⟨(leftSum u + a.left.length, rightSum u + a.right.length), ?_, ?_, ?_⟩
            · show L_impl_IsValidJoiner_0 _ _ _ _ _ _ _ _ _ = L_impl_IsValidJoiner_0 _ _ _ _ _ _ _ _ _
              rw [step, hp]; rfl
            · rw [leftSum_app, rightSum_app]; simp [leftSum, rightSum]
            · simp only [List.all_cons, hp, Bool.true_and, leftSum, rightSum, List.map_cons, List.sum_cons, Nat.add_assoc]
          | false =>
            refine .inr ?_
            show L_impl_IsValidJoiner_0 _ _ _ _ _ _ _ _ _ = _
            rw [step, hp]
            simp [hp]
        · show L_impl_IsValidJoiner_0 _ _ _ _ _ _ _ _ _ = _
          subst hs
          rw [L_impl_IsValidJoiner_0_eq, ltF (Int.le_refl _), cond_false, leN24, leN24]
          simp only [List.all_nil, Bool.true_and, show leftSum [] = 0 from rfl, show rightSum [] = 0 from rfl, Nat.add_zero]
          cases decide (leftSum j.pend ≤ 24) <;> rfl
        · simp only [Nat.zero_add]; rfl
  · rw [ltT (by omega), cond_true, decide_eq_false h40]; rfl
theorem sValidJn (j : Jn) (h : j.B2) : callI tE f_spec_IsValidJoiner [.sl (j.pend.map Tk.e), .int j.wr, .int j.parts] = some [.bool (jnOk j)] := by
  have hl := szL_len Tk.sz j.pend
  have hL := leftSum_le j.pend
  have hR := rightSum_le j.pend
  have hsz : szL Tk.sz j.pend ≤ 1073741800 := h
  rw [c_spec_IsValidJoiner, jnOk_eq]
  refine (zip_loop (l := j.pend) (L := fun (s : Nat × Nat) i => L_spec_IsValidJoiner_0 0 (s.1 : Nat) (s.2 : Nat) i (j.pend.map Tk.e) j.wr j.parts) (F := fun s v => some [.bool (v.all (pendOk j.pend) && (decide (s.1 + leftSum v ≤ 24) && (decide (s.2 + rightSum v ≤ 24) && (decide (j.pend.length ≤ 40) && (win j.wr 0 100000 && win j.parts 0 1000)))))]) (I := fun s u _ => s = (leftSum u, rightSum u)) (by omega) (fun u a v s e hI => ?_) (fun s hs => ?_) (0, 0) rfl).trans ?_
  · have hul : u.length < j.pend.length := by rw [e]; simp
    have hat : at' (j.pend.map Tk.e) u.length = a.e := at_i e rfl
    have hasz : a.sz ≤ 1073741824 := Nat.le_trans (szL_mem (f := Tk.sz) (show a ∈ j.pend by rw [e]; simp)) (by omega)
    have h1 : leftSum u + a.left.length ≤ 1073741800 := by
      rw [e, leftSum_app] at hL; simp only [leftSum, List.map_cons, List.sum_cons] at hL ⊢; rw [e] at hsz; omega
    have h2 : rightSum u + a.right.length ≤ 1073741800 := by
      rw [e, rightSum_app] at hR; simp only [rightSum, List.map_cons, List.sum_cons] at hR ⊢; rw [e] at hsz; omega
    subst hI
    have step : L_spec_IsValidJoiner_0 0 (leftSum u : Nat) (rightSum u : Nat) (u.length : Nat) (j.pend.map Tk.e) j.wr j.parts = bif pendOk j.pend a then L_spec_IsValidJoiner_0 0 ((leftSum u + a.left.length : Nat) : Int) ((rightSum u + a.right.length : Nat) : Int) (w64 (u.length + 1)) (j.pend.map Tk.e) j.wr j.parts else some [.bool false] := by
      rw [L_spec_IsValidJoiner_0_eq, lenI_map, ltT (by omega), cond_true, inRT (by omega) (by omega), cond_true, inRT (by omega) (by omega), headTk (by omega)]
      simp only [tn_c, hat, Tk.e, gn_c, gb_c, gs_c, gl_c, tk_s, tk_0, List.drop_succ_cons, List.drop_zero, List.headD_cons, List.getD_cons_zero, List.getD_cons_succ, bind_s, sValidTk a hasz, lenI_map, cond_true]
      unfold pendOk
      rw [w64_id ⟨by omega, by omega⟩, w64_id ⟨by omega, by omega⟩]
      cases tkOk a
      · rfl
      · simp only [Bool.not_true, cond_false, Bool.true_and, bifn]
        rfl
    cases hp : pendOk j.pend a with
    | true =>
      refine .inl ⟨(leftSum u + a.left.length, rightSum u + a.right.length), ?_, ?_, ?_⟩
      · show L_spec_IsValidJoiner_0 _ _ _ _ _ _ _ = L_spec_IsValidJoiner_0 _ _ _ _ _ _ _
        rw [step, hp]; rfl
      · rw [leftSum_app, rightSum_app]; simp [leftSum, rightSum]
      · simp only [List.all_cons, hp, Bool.true_and, leftSum, rightSum, List.map_cons, List.sum_cons, Nat.add_assoc]
    | false =>
      refine .inr ?_
      show L_spec_IsValidJoiner_0 _ _ _ _ _ _ _ = _
      rw [step, hp]
      simp [hp]
  · show L_spec_IsValidJoiner_0 _ _ _ _ _ _ _ = _
    subst hs
    rw [L_spec_IsValidJoiner_0_eq, lenI_map, ltF (Int.le_refl _), cond_false, leN24, leN24, leN40]
    simp only [l1In_ok, gn_c, gb_c, gs_c, gl_c, tk_s, tk_0, List.drop_succ_cons, List.drop_zero, List.headD_cons, List.getD_cons_zero, List.getD_cons_succ, bind_s, List.all_nil, Bool.true_and, show leftSum [] = 0 from rfl, show rightSum [] = 0 from rfl, Nat.add_zero]
    cases decide (leftSum j.pend ≤ 24)
    · rfl
    · cases decide (rightSum j.pend ≤ 24)
      · rfl
      · cases decide (j.pend.length ≤ 40)
        · rfl
        · cases win j.wr 0 100000 <;> rfl
  · simp only [Nat.zero_add, pendAll]
    cases j.pend.all (pendOk j.pend) <;> cases decide (leftSum j.pend ≤ 24) <;> cases decide (rightSum j.pend ≤ 24) <;> cases decide (j.pend.length ≤ 40) <;> cases win j.wr 0 100000 <;> cases win j.parts 0 1000 <;> rfl
end Go.Proofs.YtceoogjanfbdcaaGreat.Vai
namespace Go.Proofs.YtceoogjanfbdcaaGreat.Vai
open Go
set_option linter.unusedSimpArgs false
set_option linter.unusedVariables false
set_option linter.unnecessarySimpa false
set_option maxRecDepth 10000
theorem rowSum_app (u v : List Gt) : rowSum (u ++ v) = rowSum u + rowSum v := by simp [rowSum]
theorem rowSum_le : ∀ l : List Gt, rowSum l ≤ szL Gt.sz l
  | [] => Nat.le_refl _
  | a :: l => by
    have := rowSum_le l
    simp only [rowSum, List.map_cons, List.sum_cons, szL, Gt.sz] at *
    omega
def Ag.B2 (j : Ag) : Prop := j.sz ≤ 1073741800
def gtOk (t : Gt) : Bool := aok t.rows && win t.level 0 4
theorem agOk_eq (a : Ag) : agOk a = (a.pend.all gtOk && (decide (a.pend.length ≤ 40) && (decide (rowSum a.pend ≤ 24) && win a.wr 0 100000))) := rfl
theorem iValidAg (j : Ag) (h : j.B2) : callI tE f_impl_IsValidAggregator [.sl (j.pend.map Gt.e), .int j.wr, .bool j.early] = some [.bool (agOk j)] := by
  have hl := szL_len Gt.sz j.pend
  have hL := rowSum_le j.pend
  have hsz : szL Gt.sz j.pend ≤ 1073741800 := h
  rw [c_impl_IsValidAggregator, agOk_eq, lenI_map]
  refine (zip_loop (l := j.pend) (L := fun (s : Nat) i => L_impl_IsValidAggregator_0 0 (s : Nat) (j.pend.map Gt.e) (j.pend.length : Nat) i (j.pend.map Gt.e) j.wr j.early) (F := fun s v => some [.bool (v.all gtOk && (decide (j.pend.length ≤ 40) && (decide (s + rowSum v ≤ 24) && win j.wr 0 100000)))]) (I := fun s u _ => s = rowSum u) (by omega) (fun u a v s e hI => ?_) (fun s hs => ?_) 0 rfl).trans ?_
  · have hul : u.length < j.pend.length := by rw [e]; simp
    have hat : at' (j.pend.map Gt.e) u.length = a.e := at_i e rfl
    have h1 : rowSum u + a.rows.length ≤ 1073741800 := by
      rw [e, rowSum_app] at hL; simp only [rowSum, List.map_cons, List.sum_cons] at hL ⊢; rw [e] at hsz; omega
    subst hI
    have step : L_impl_IsValidAggregator_0 0 (rowSum u : Nat) (j.pend.map Gt.e) (j.pend.length : Nat) (u.length : Nat) (j.pend.map Gt.e) j.wr j.early = bif gtOk a then L_impl_IsValidAggregator_0 0 ((rowSum u + a.rows.length : Nat) : Int) (j.pend.map Gt.e) (j.pend.length : Nat) (w64 (u.length + 1)) (j.pend.map Gt.e) j.wr j.early else some [.bool false] := by
      rw [L_impl_IsValidAggregator_0_eq, ltT (by omega), cond_true, lenI_map, inRT (by omega) (by omega), cond_true]
      simp only [tn_c, hat, Gt.e, gn_c, gb_c, gs_c, gl_c, tk_s, tk_0, List.drop_succ_cons, List.drop_zero, List.headD_cons, List.getD_cons_zero, List.getD_cons_succ, bind_s, iAreValid, within_ok, lenI_map]
      unfold gtOk
      rw [w64_id (n := (rowSum u : Int) + (a.rows.length : Int)) ⟨by omega, by omega⟩]
      cases aok a.rows
      · rfl
      · cases win a.level 0 4 <;> rfl
    cases hp : gtOk a with
    | true =>
      refine .inl ⟨rowSum u + a.rows.length, ?_, ?_, ?_⟩
      · show L_impl_IsValidAggregator_0 _ _ _ _ _ _ _ _ = L_impl_IsValidAggregator_0 _ _ _ _ _ _ _ _
        rw [step, hp]; rfl
      · rw [rowSum_app]; simp [rowSum]
      · simp only [List.all_cons, hp, Bool.true_and, rowSum, List.map_cons, List.sum_cons, Nat.add_assoc]
    | false =>
      refine .inr ?_
      show L_impl_IsValidAggregator_0 _ _ _ _ _ _ _ _ = _
      rw [step, hp]
      simp [hp]
  · show L_impl_IsValidAggregator_0 _ _ _ _ _ _ _ _ = _
    subst hs
    rw [L_impl_IsValidAggregator_0_eq, ltF (Int.le_refl _), cond_false, lenI_map, leN24, leN40]
    simp only [within_ok, gn_c, gb_c, gs_c, gl_c, tk_s, tk_0, List.drop_succ_cons, List.drop_zero, List.headD_cons, List.getD_cons_zero, List.getD_cons_succ, bind_s, List.all_nil, Bool.true_and, show rowSum [] = 0 from rfl, Nat.add_zero]
    cases decide (j.pend.length ≤ 40)
    · rfl
    · cases decide (rowSum j.pend ≤ 24) <;> rfl
  · simp only [Nat.zero_add]
theorem sValidAg (j : Ag) (h : j.B2) : callI tE f_spec_IsValidAggregator [.sl (j.pend.map Gt.e), .int j.wr, .bool j.early] = some [.bool (agOk j)] := by
  have hl := szL_len Gt.sz j.pend
  have hL := rowSum_le j.pend
  have hsz : szL Gt.sz j.pend ≤ 1073741800 := h
  rw [c_spec_IsValidAggregator, agOk_eq]
  refine (zip_loop (l := j.pend) (L := fun (s : Nat) i => L_spec_IsValidAggregator_0 0 (s : Nat) i (j.pend.map Gt.e) j.wr j.early) (F := fun s v => some [.bool (v.all gtOk && (decide (s + rowSum v ≤ 24) && (decide (j.pend.length ≤ 40) && win j.wr 0 100000)))]) (I := fun s u _ => s = rowSum u) (by omega) (fun u a v s e hI => ?_) (fun s hs => ?_) 0 rfl).trans ?_
  · have hul : u.length < j.pend.length := by rw [e]; simp
    have hat : at' (j.pend.map Gt.e) u.length = a.e := at_i e rfl
    have hasz : a.rows.length ≤ 1073741824 := Nat.le_trans (szL_mem (f := Gt.sz) (show a ∈ j.pend by rw [e]; simp)) (by omega)
    have h1 : rowSum u + a.rows.length ≤ 1073741800 := by
      rw [e, rowSum_app] at hL; simp only [rowSum, List.map_cons, List.sum_cons] at hL ⊢; rw [e] at hsz; omega
    subst hI
    have step : L_spec_IsValidAggregator_0 0 (rowSum u : Nat) (u.length : Nat) (j.pend.map Gt.e) j.wr j.early = bif gtOk a then L_spec_IsValidAggregator_0 0 ((rowSum u + a.rows.length : Nat) : Int) (w64 (u.length + 1)) (j.pend.map Gt.e) j.wr j.early else some [.bool false] := by
      rw [L_spec_IsValidAggregator_0_eq, lenI_map, ltT (by omega), cond_true, inRT (by omega) (by omega), cond_true]
      simp only [tn_c, hat, Gt.e, gn_c, gb_c, gs_c, gl_c, tk_s, tk_0, List.drop_succ_cons, List.drop_zero, List.headD_cons, List.getD_cons_zero, List.getD_cons_succ, bind_s, sAreValid a.rows (show a.rows.length < 4611686018427387904 by omega), l1In_ok, lenI_map, cond_true]
      unfold gtOk
      rw [w64_id (n := (rowSum u : Int) + (a.rows.length : Int)) ⟨by omega, by omega⟩]
      cases aok a.rows
      · rfl
      · cases win a.level 0 4 <;> rfl
    cases hp : gtOk a with
    | true =>
      refine .inl ⟨rowSum u + a.rows.length, ?_, ?_, ?_⟩
      · show L_spec_IsValidAggregator_0 _ _ _ _ _ _ = L_spec_IsValidAggregator_0 _ _ _ _ _ _
        rw [step, hp]; rfl
      · rw [rowSum_app]; simp [rowSum]
      · simp only [List.all_cons, hp, Bool.true_and, rowSum, List.map_cons, List.sum_cons, Nat.add_assoc]
    | false =>
      refine .inr ?_
      show L_spec_IsValidAggregator_0 _ _ _ _ _ _ = _
      rw [step, hp]
      simp [hp]
  · show L_spec_IsValidAggregator_0 _ _ _ _ _ _ = _
    subst hs
    rw [L_spec_IsValidAggregator_0_eq, lenI_map, ltF (Int.le_refl _), cond_false, leN24, leN40]
    simp only [l1In_ok, gn_c, gb_c, gs_c, gl_c, tk_s, tk_0, List.drop_succ_cons, List.drop_zero, List.headD_cons, List.getD_cons_zero, List.getD_cons_succ, bind_s, List.all_nil, Bool.true_and, show rowSum [] = 0 from rfl, Nat.add_zero]
    cases decide (rowSum j.pend ≤ 24)
    · rfl
    · cases decide (j.pend.length ≤ 40) <;> rfl
  · simp only [Nat.zero_add]
    cases j.pend.all gtOk <;> cases decide (rowSum j.pend ≤ 24) <;> cases decide (j.pend.length ≤ 40) <;> rfl
end Go.Proofs.YtceoogjanfbdcaaGreat.Vai
namespace Go.Proofs.YtceoogjanfbdcaaGreat.Vai
open Go
set_option linter.unusedSimpArgs false
set_option linter.unusedVariables false
set_option linter.unnecessarySimpa false
set_option maxRecDepth 10000
def Opr.B2 (o : Opr) : Prop := o.sz ≤ 1073741800
theorem Opr.B2.p {o : Opr} (h : o.B2) : o.so.B2 ∧ o.jn.B2 ∧ o.ag.B2 := by
  simp only [Opr.B2, Opr.sz, So.B2, Jn.B2, Ag.B2] at *
  omega
end Go.Proofs.YtceoogjanfbdcaaGreat.Vai
namespace Go.Proofs.YtceoogjanfbdcaaGreat.Vai
open Go
set_option linter.unusedSimpArgs false
set_option linter.unusedVariables false
set_option linter.unnecessarySimpa false
set_option maxRecDepth 10000
def clOk (nx : Int) (c : Cl) : Bool := win c.id 0 (w64 (nx - 1)) && (win c.req 8 60 && win c.prio 0 9)
def clsB (nx : Int) : Option Int → List Cl → Bool
  | _, [] => true
  | p, c :: l => (clOk nx c && !(match p with | some q => leI c.id q | none => false)) && clsB nx (some c.id) l
theorem iIsGrant' (n : Int) : callI tE f_impl_isGrant [.int n] = some [.bool (win n 8 60)] := by
  simp only [c_impl_isGrant, within_ok, gn_c, gb_c, gs_c, gl_c, tk_s, tk_0, List.drop_succ_cons, List.drop_zero, List.headD_cons, List.getD_cons_zero, List.getD_cons_succ, bind_s]
theorem snoc_or' {α : Type} (l : List α) : l = [] ∨ ∃ u x, l = u ++ [x] := by
  rcases List.eq_nil_or_concat l with h | ⟨u, x, h⟩
  · exact .inl h
  · exact .inr ⟨u, x, by simpa using h⟩
theorem cl_step (nx : Int) (c : Cl) (b : Bool) (X : Option (List Dat)) :
    (bif !(win c.id 0 (w64 (nx - 1))) then some [Dat.bool false] else bif b then some [.bool false] else bif !(win c.req 8 60) then some [.bool false] else bif !(win c.prio 0 9) then some [.bool false] else X) = bif (clOk nx c && !b) then X else some [.bool false] := by
  unfold clOk
  cases win c.id 0 (w64 (nx - 1)) <;> cases b <;> cases win c.req 8 60 <;> cases win c.prio 0 9 <;> rfl
theorem iRight_loop (l : List Cl) (nx : Int) (hl : l.length ≤ 4611686018427387904) : ∀ (v u : List Cl), l = u ++ v → L_impl_rightClients_0 (l.map Cl.e) nx (l.map Cl.e) (lenI (l.map Cl.e)) (u.length : Int) = some [.bool (clsB nx (u.getLast?.map (·.id)) v)]
  | [], u, e => by
    rw [List.append_nil] at e
    subst e
    rw [L_impl_rightClients_0_eq, lt_e, cond_false]; rfl
  | c :: v, u, e => by
    have hul : u.length < l.length := by rw [e]; simp
    have ih := iRight_loop l nx hl v (u ++ [c]) (by rw [e]; simp)
    rw [List.length_append] at ih
    simp only [List.getLast?_append, List.getLast?_singleton, Option.some_or, Option.map_some] at ih
    have h1 : ltI (u.length : Int) (lenI (l.map Cl.e)) = true := by rw [e]; exact lt_m u v c
    have h2 : at' (l.map Cl.e) u.length = c.e := by rw [e]; exact at_m u v c
    have h3 : inR (u.length : Int) (lenI (l.map Cl.e)) = true := by rw [e]; exact in_m u v c
    rw [L_impl_rightClients_0_eq, h1, h3, tn_c, h2, w64_s (by omega)]
    simp only [cond_true, Cl.e, within_ok, iIsGrant', gn_c, gb_c, gs_c, gl_c, tk_s, tk_0, List.drop_succ_cons, List.drop_zero, List.headD_cons, List.getD_cons_zero, List.getD_cons_succ, bind_s]
    simp only [List.length_cons, List.length_nil] at ih
    rw [ih]
    rcases snoc_or' u with rfl | ⟨u', p, rfl⟩
    · rw [show ltI 0 ((([] : List Cl).length : Nat) : Int) = false from rfl]
      simp only [cond_false]
      have := cl_step nx c false (some [.bool (clsB nx (some c.id) v)])
      simp only [cond_false] at this
      rw [this]
      simp only [clsB, List.getLast?_nil, Option.map_none]
      cases clOk nx c <;> rfl
    · have e1 : w64 ((((u' ++ [p]).length : Nat) : Int) - 1) = (u'.length : Int) := by rw [w64_id ⟨by simp only [List.length_append, List.length_singleton]; omega, by omega⟩]; simp
      have h4 : at' (l.map Cl.e) u'.length = p.e := by rw [e, List.append_assoc]; exact at_m u' _ p
      have h5 : inR (u'.length : Int) (lenI (l.map Cl.e)) = true := by rw [e, List.append_assoc]; exact in_m u' _ p
      rw [show ltI 0 (((u' ++ [p]).length : Nat) : Int) = true from ltT (by simp only [List.length_append, List.length_singleton]; omega), e1, h5, tn_c, h4]
      simp only [cond_true, Cl.e, gn_c, gb_c, gs_c, gl_c, tk_s, tk_0, List.drop_succ_cons, List.drop_zero, List.headD_cons, List.getD_cons_zero, List.getD_cons_succ, bind_s]
      rw [cl_step nx c (leI c.id p.id)]
      simp only [clsB, List.getLast?_append, List.getLast?_singleton, Option.some_or, Option.map_some]
      cases clOk nx c && !leI c.id p.id <;> rfl
theorem iRight (l : List Cl) (nx : Int) (hl : l.length ≤ 4611686018427387904) : callI tE f_impl_rightClients [.sl (l.map Cl.e), .int nx] = some [.bool (clsB nx none l)] := by
  rw [c_impl_rightClients]; exact iRight_loop l nx hl l [] rfl
def clIx (id : Int) : Nat → List Cl → Int
  | _, [] => -1
  | i, c :: l => if c.id = id then i else clIx id (i + 1) l
def hasId (l : List Cl) (id : Int) : Bool := l.any fun c => decide (c.id = id)
theorem clIx_has (id : Int) : ∀ (l : List Cl) (i : Nat), leI 0 (clIx id i l) = hasId l id
  | [], i => rfl
  | c :: l, i => by
    simp only [clIx, hasId, List.any_cons]
    by_cases h : c.id = id
    · rw [if_pos h, decide_eq_true h, leT (by omega)]; rfl
    · rw [if_neg h, decide_eq_false h, clIx_has id l (i + 1)]; rfl
theorem iAt_loop (l : List Cl) (id : Int) (hl : l.length ≤ 4611686018427387904) : ∀ (v u : List Cl), l = u ++ v → L_slices_IndexFunc_Client_0 (l.map Cl.e) 0 (lenI (l.map Cl.e)) (u.length : Int) id = some [.int (clIx id u.length v), .int id]
  | [], u, e => by
    rw [List.append_nil] at e
    subst e
    rw [L_slices_IndexFunc_Client_0_eq, lt_e, cond_false]; rfl
  | c :: v, u, e => by
    have hul : u.length < l.length := by rw [e]; simp
    have ih := iAt_loop l id hl v (u ++ [c]) (by rw [e]; simp)
    rw [List.length_append] at ih
    have h1 : ltI (u.length : Int) (lenI (l.map Cl.e)) = true := by rw [e]; exact lt_m u v c
    have h2 : at' (l.map Cl.e) u.length = c.e := by rw [e]; exact at_m u v c
    have h3 : inR (u.length : Int) (lenI (l.map Cl.e)) = true := by rw [e]; exact in_m u v c
    rw [L_slices_IndexFunc_Client_0_eq, h1, h3, tn_c, h2, w64_s (by omega)]
    simp only [cond_true, Cl.e, c_impl_clientAt_1, gn_c, gb_c, gs_c, gl_c, tk_s, tk_0, List.drop_succ_cons, List.drop_zero, List.headD_cons, List.getD_cons_zero, List.getD_cons_succ, bind_s]
    simp only [List.length_cons, List.length_nil] at ih
    rw [ih]
    simp only [clIx]
    by_cases h : c.id = id
    · rw [eqT h, if_pos h]; rfl
    · rw [eqF h, if_neg h]; rfl
theorem iClientAt (l : List Cl) (id : Int) (hl : l.length ≤ 4611686018427387904) : callI tE f_impl_clientAt [.sl (l.map Cl.e), .int id] = some [.int (clIx id 0 l)] := by
  rw [c_impl_clientAt, c_slices_IndexFunc_Client, show L_slices_IndexFunc_Client_0 (l.map Cl.e) 0 (lenI (l.map Cl.e)) 0 id = _ from iAt_loop l id hl l [] rfl]; rfl
theorem sAt_loop (l : List Cl) (id : Int) (hl : l.length ≤ 4611686018427387904) : ∀ (v u : List Cl), l = u ++ v → L_spec_l10At_0 (l.map Cl.e) id (u.length : Int) = some [.int (clIx id u.length v)]
  | [], u, e => by
    rw [List.append_nil] at e
    subst e
    rw [L_spec_l10At_0_eq, lt_e, cond_false]; rfl
  | c :: v, u, e => by
    have hul : u.length < l.length := by rw [e]; simp
    have ih := sAt_loop l id hl v (u ++ [c]) (by rw [e]; simp)
    rw [List.length_append] at ih
    have h1 : ltI (u.length : Int) (lenI (l.map Cl.e)) = true := by rw [e]; exact lt_m u v c
    have h2 : at' (l.map Cl.e) u.length = c.e := by rw [e]; exact at_m u v c
    have h3 : inR (u.length : Int) (lenI (l.map Cl.e)) = true := by rw [e]; exact in_m u v c
    rw [L_spec_l10At_0_eq, h1, h3, tn_c, h2, w64_s (by omega)]
    simp only [cond_true, Cl.e, gn_c, gb_c, gs_c, gl_c, tk_s, tk_0, List.drop_succ_cons, List.drop_zero, List.headD_cons, List.getD_cons_zero, List.getD_cons_succ, bind_s]
    simp only [List.length_cons, List.length_nil] at ih
    rw [ih]
    simp only [clIx]
    by_cases h : c.id = id
    · rw [eqT h, if_pos h]; rfl
    · rw [eqF h, if_neg h]; rfl
theorem sAt (l : List Cl) (id : Int) (hl : l.length ≤ 4611686018427387904) : callI tE f_spec_l10At [.sl (l.map Cl.e), .int id] = some [.int (clIx id 0 l)] := by
  rw [c_spec_l10At]; exact sAt_loop l id hl l [] rfl
def roomB (p : Int) : Int := bif ltI (w64 (Int.tdiv p 8)) 5 then w64 (Int.tdiv p 8) else 5
def apartB (a w : List Cl) : Bool := w.all fun c => !hasId a c.id
def endB (b : Br) : Bool := leI b.act.length (roomB b.pool) && ((eqI b.wait.length 0 || eqI b.act.length (roomB b.pool)) && leI b.wait.length 5)
def brOk (b : Br) : Bool := win b.pool 8 120 && (win b.next 0 1000 && (clsB b.next none b.act && (clsB b.next none b.wait && (apartB b.act b.wait && endB b))))
theorem iRoom (b : Br) : callI tE f_impl_room [.int b.pool, .int b.next, .sl (b.act.map Cl.e), .sl (b.wait.map Cl.e)] = some [.int (roomB b.pool)] := by rw [c_impl_room]; rfl
theorem sRoom (p : Int) : callI tE f_spec_l10Room [.int p] = some [.int (roomB p)] := by rw [c_spec_l10Room]; rfl
def Br.B (b : Br) : Prop := b.sz ≤ 1073741824
theorem iVB_end (b : Br) : (bif leI (lenI (b.act.map Cl.e)) (roomB b.pool) then (bif eqI (lenI (b.wait.map Cl.e)) 0 then some [Dat.bool (leI (lenI (b.wait.map Cl.e)) 5)] else bif eqI (lenI (b.act.map Cl.e)) (roomB b.pool) then some [Dat.bool (leI (lenI (b.wait.map Cl.e)) 5)] else some [.bool false]) else some [.bool false]) = some [.bool (endB b)] := by
  unfold endB
  rw [lenI_map, lenI_map]
  cases leI (b.act.length : Int) (roomB b.pool) <;> cases eqI (b.wait.length : Int) 0 <;> cases eqI (b.act.length : Int) (roomB b.pool) <;> rfl
theorem iVB_loop (b : Br) (h : b.B) : ∀ (v u : List Cl), b.wait = u ++ v → L_impl_IsValidBroker_0 0 (b.wait.map Cl.e) (lenI (b.wait.map Cl.e)) (u.length : Int) b.pool b.next (b.act.map Cl.e) (b.wait.map Cl.e) = some [.bool (apartB b.act v && endB b)]
  | [], u, e => by
    rw [List.append_nil] at e
    rw [L_impl_IsValidBroker_0_eq, show ltI (u.length : Int) (lenI (b.wait.map Cl.e)) = false by rw [e]; exact lt_e u]
    simp only [cond_false, iRoom, gn_c, gb_c, gs_c, gl_c, tk_s, tk_0, List.drop_succ_cons, List.drop_zero, List.headD_cons, List.getD_cons_zero, List.getD_cons_succ, bind_s]
    exact iVB_end b
  | c :: v, u, e => by
    have hB : b.act.length + b.wait.length ≤ 1073741824 := h
    have hul : u.length < b.wait.length := by rw [e]; simp
    have ih := iVB_loop b h v (u ++ [c]) (by rw [e]; simp)
    rw [List.length_append] at ih
    have h1 : ltI (u.length : Int) (lenI (b.wait.map Cl.e)) = true := by rw [e]; exact lt_m u v c
    have h2 : at' (b.wait.map Cl.e) u.length = c.e := by rw [e]; exact at_m u v c
    have h3 : inR (u.length : Int) (lenI (b.wait.map Cl.e)) = true := by rw [e]; exact in_m u v c
    rw [L_impl_IsValidBroker_0_eq, h1, h3, tn_c, h2, w64_s (by omega)]
    simp only [List.length_cons, List.length_nil] at ih
    simp only [cond_true, Cl.e, gn_c, gb_c, gs_c, gl_c, tk_s, tk_0, List.drop_succ_cons, List.drop_zero, List.headD_cons, List.getD_cons_zero, List.getD_cons_succ, bind_s, iClientAt b.act c.id (by omega), clIx_has, ih]
    simp only [apartB, List.all_cons]
    cases hasId b.act c.id <;> rfl
theorem iValidBr (b : Br) (h : b.B) : callI tE f_impl_IsValidBroker [.int b.pool, .int b.next, .sl (b.act.map Cl.e), .sl (b.wait.map Cl.e)] = some [.bool (brOk b)] := by
  have hB : b.act.length + b.wait.length ≤ 1073741824 := h
  have := iVB_loop b h b.wait [] rfl
  rw [c_impl_IsValidBroker]
  simp only [within_ok, iRight b.act b.next (by omega), iRight b.wait b.next (by omega), gn_c, gb_c, gs_c, gl_c, tk_s, tk_0, List.drop_succ_cons, List.drop_zero, List.headD_cons, List.getD_cons_zero, List.getD_cons_succ, bind_s]
  rw [show L_impl_IsValidBroker_0 0 (b.wait.map Cl.e) (lenI (b.wait.map Cl.e)) 0 b.pool b.next (b.act.map Cl.e) (b.wait.map Cl.e) = _ from this]
  unfold brOk
  cases win b.pool 8 120 <;> cases win b.next 0 1000 <;> cases clsB b.next none b.act <;> cases clsB b.next none b.wait <;> rfl
theorem sVB_in {x0 pool next : Int} {A W LL : Rows} {l : List Cl} {i : Nat} (hl : l.length ≤ 1073741824) (hi : at' LL i = [.sl (l.map Cl.e)]) (hin : inR (i : Int) (lenI LL) = true) : ∀ (v u : List Cl), l = u ++ v →
    L_spec_IsValidBroker_1 x0 (i : Int) (u.length : Int) pool next A W LL = bif clsB next (u.getLast?.map (·.id)) v then L_spec_IsValidBroker_0 x0 (w64 ((i : Int) + 1)) pool next A W LL else some [.bool false]
  | [], u, e => by
    rw [List.append_nil] at e
    subst e
    rw [L_spec_IsValidBroker_1_eq, hin, tn_c, hi]
    simp only [cond_true, gn_c, gb_c, gs_c, gl_c, tk_s, tk_0, List.drop_succ_cons, List.drop_zero, List.headD_cons, List.getD_cons_zero, List.getD_cons_succ, bind_s]
    rw [lt_e]; rfl
  | c :: v, u, e => by
    have hul : u.length < l.length := by rw [e]; simp
    have ih := sVB_in (x0 := x0) (pool := pool) (next := next) (A := A) (W := W) hl hi hin v (u ++ [c]) (by rw [e]; simp)
    rw [List.length_append] at ih
    simp only [List.getLast?_append, List.getLast?_singleton, Option.some_or, Option.map_some, List.length_cons, List.length_nil] at ih
    have h1 : ltI (u.length : Int) (lenI (l.map Cl.e)) = true := by rw [e]; exact lt_m u v c
    have h2 : at' (l.map Cl.e) u.length = c.e := by rw [e]; exact at_m u v c
    have h3 : inR (u.length : Int) (lenI (l.map Cl.e)) = true := by rw [e]; exact in_m u v c
    rw [L_spec_IsValidBroker_1_eq, hin, tn_c, hi]
    simp only [cond_true, gn_c, gb_c, gs_c, gl_c, tk_s, tk_0, List.drop_succ_cons, List.drop_zero, List.headD_cons, List.getD_cons_zero, List.getD_cons_succ, bind_s]
    rw [h1, h3, tn_c, h2, w64_s (by omega)]
    simp only [cond_true, Cl.e, l1In_ok, gn_c, gb_c, gs_c, gl_c, tk_s, tk_0, List.drop_succ_cons, List.drop_zero, List.headD_cons, List.getD_cons_zero, List.getD_cons_succ, bind_s]
    rw [ih]
    rcases snoc_or' u with rfl | ⟨u', p, rfl⟩
    · rw [show ltI 0 ((([] : List Cl).length : Nat) : Int) = false from rfl]
      simp only [cond_false]
      have := cl_step next c false (bif clsB next (some c.id) v then L_spec_IsValidBroker_0 x0 (w64 ((i : Int) + 1)) pool next A W LL else some [.bool false])
      simp only [cond_false] at this
      rw [this]
      simp only [clsB, List.getLast?_nil, Option.map_none]
      cases clOk next c <;> rfl
    · have e1 : w64 ((((u' ++ [p]).length : Nat) : Int) - 1) = (u'.length : Int) := by rw [w64_id ⟨by simp only [List.length_append, List.length_singleton]; omega, by omega⟩]; simp
      have h4 : at' (l.map Cl.e) u'.length = p.e := by rw [e, List.append_assoc]; exact at_m u' _ p
      have h5 : inR (u'.length : Int) (lenI (l.map Cl.e)) = true := by rw [e, List.append_assoc]; exact in_m u' _ p
      rw [show ltI 0 (((u' ++ [p]).length : Nat) : Int) = true from ltT (by simp only [List.length_append, List.length_singleton]; omega), e1, h5, tn_c, h4]
      simp only [cond_true, Cl.e, gn_c, gb_c, gs_c, gl_c, tk_s, tk_0, List.drop_succ_cons, List.drop_zero, List.headD_cons, List.getD_cons_zero, List.getD_cons_succ, bind_s]
      rw [cl_step next c (leI c.id p.id)]
      simp only [clsB, List.getLast?_append, List.getLast?_singleton, Option.some_or, Option.map_some]
      cases clOk next c && !leI c.id p.id <;> rfl
theorem sVB_3 (b : Br) (h : b.B) {x0 : Int} {i : Nat} {a : Cl} (ha : b.act[i]? = some a) : ∀ (v u : List Cl), b.wait = u ++ v →
    L_spec_IsValidBroker_3 x0 (i : Int) (u.length : Int) b.pool b.next (b.act.map Cl.e) (b.wait.map Cl.e) = bif v.all (fun c => !decide (a.id = c.id)) then L_spec_IsValidBroker_2 x0 ((i + 1 : Nat) : Int) b.pool b.next (b.act.map Cl.e) (b.wait.map Cl.e) else some [.bool false]
  | [], u, e => by
    rw [List.append_nil] at e
    have hB : b.act.length + b.wait.length ≤ 1073741824 := h
    have := (List.getElem?_eq_some_iff.mp ha).1
    rw [L_spec_IsValidBroker_3_eq, show ltI (u.length : Int) (lenI (b.wait.map Cl.e)) = false by rw [e]; exact lt_e u, w64_s (i := i) (by omega)]; rfl
  | c :: v, u, e => by
    have hB : b.act.length + b.wait.length ≤ 1073741824 := h
    have hul : u.length < b.wait.length := by rw [e]; simp
    have ih := sVB_3 b h (x0 := x0) ha v (u ++ [c]) (by rw [e]; simp)
    rw [List.length_append] at ih
    simp only [List.length_cons, List.length_nil] at ih
    have h1 : ltI (u.length : Int) (lenI (b.wait.map Cl.e)) = true := by rw [e]; exact lt_m u v c
    have h2 : at' (b.wait.map Cl.e) u.length = c.e := by rw [e]; exact at_m u v c
    have h3 : inR (u.length : Int) (lenI (b.wait.map Cl.e)) = true := by rw [e]; exact in_m u v c
    have h4 : at' (b.act.map Cl.e) i = a.e := by simp [List.getD_eq_getElem?_getD, ha]
    have h5 : inR (i : Int) (lenI (b.act.map Cl.e)) = true := in_i (List.getElem?_eq_some_iff.mp ha).1
    rw [L_spec_IsValidBroker_3_eq, h1, h3, h5, tn_c, tn_c, h2, h4, w64_s (i := u.length) (by omega), ih]
    simp only [cond_true, Cl.e, gn_c, gb_c, gs_c, gl_c, tk_s, tk_0, List.drop_succ_cons, List.drop_zero, List.headD_cons, List.getD_cons_zero, List.getD_cons_succ, bind_s, List.all_cons]
    by_cases hq : a.id = c.id
    · rw [eqT hq, decide_eq_true hq]; rfl
    · rw [eqF hq, decide_eq_false hq]; rfl
theorem sVB_2 (b : Br) (h : b.B) {x0 : Int} : ∀ (v u : List Cl), b.act = u ++ v →
    L_spec_IsValidBroker_2 x0 (u.length : Int) b.pool b.next (b.act.map Cl.e) (b.wait.map Cl.e) = some [.bool (v.all (fun a => b.wait.all fun c => !decide (a.id = c.id)) && (win b.pool 8 120 && (win b.next 0 1000 && endB b)))]
  | [], u, e => by
    rw [List.append_nil] at e
    rw [L_spec_IsValidBroker_2_eq, show ltI (u.length : Int) (lenI (b.act.map Cl.e)) = false by rw [e]; exact lt_e u]
    simp only [cond_false, l1In_ok, sRoom, gn_c, gb_c, gs_c, gl_c, tk_s, tk_0, List.drop_succ_cons, List.drop_zero, List.headD_cons, List.getD_cons_zero, List.getD_cons_succ, bind_s]
    rw [iVB_end b]
    cases win b.pool 8 120 <;> cases win b.next 0 1000 <;> rfl
  | a :: v, u, e => by
    have ih := sVB_2 b h (x0 := x0) v (u ++ [a]) (by rw [e]; simp)
    rw [List.length_append] at ih
    simp only [List.length_cons, List.length_nil, Nat.zero_add] at ih
    have h1 : ltI (u.length : Int) (lenI (b.act.map Cl.e)) = true := by rw [e]; exact lt_m u v a
    have h3 := sVB_3 b h (x0 := x0) (i := u.length) (a := a) (by rw [e]; simp) b.wait [] rfl
    rw [L_spec_IsValidBroker_2_eq, h1, cond_true, show L_spec_IsValidBroker_3 x0 (u.length : Int) 0 b.pool b.next (b.act.map Cl.e) (b.wait.map Cl.e) = _ from h3, ih, List.all_cons]
    cases b.wait.all fun c => !decide (a.id = c.id) <;> rfl
theorem apart_eq (a w : List Cl) : (a.all fun x => w.all fun c => !decide (x.id = c.id)) = apartB a w := by
  rw [Bool.eq_iff_iff]
  simp only [apartB, hasId, List.all_eq_true, Bool.not_eq_true', decide_eq_false_iff_not, List.any_eq_false, decide_eq_true_eq]
  exact ⟨fun h c hc x hx => h x hx c hc, fun h x hx c hc => h c hc x hx⟩
theorem sValidBr (b : Br) (h : b.B) : callI tE f_spec_IsValidBroker [.int b.pool, .int b.next, .sl (b.act.map Cl.e), .sl (b.wait.map Cl.e)] = some [.bool (brOk b)] := by
  have hB : b.act.length + b.wait.length ≤ 1073741824 := h
  have k0 := sVB_in (x0 := 0) (pool := b.pool) (next := b.next) (A := b.act.map Cl.e) (W := b.wait.map Cl.e) (LL := [[.sl (b.act.map Cl.e)], [.sl (b.wait.map Cl.e)]]) (l := b.act) (i := 0) (by omega) rfl rfl b.act [] rfl
  have k1 := sVB_in (x0 := 0) (pool := b.pool) (next := b.next) (A := b.act.map Cl.e) (W := b.wait.map Cl.e) (LL := [[.sl (b.act.map Cl.e)], [.sl (b.wait.map Cl.e)]]) (l := b.wait) (i := 1) (by omega) rfl rfl b.wait [] rfl
  have k2 := sVB_2 b h (x0 := 0) b.act [] rfl
  rw [c_spec_IsValidBroker, L_spec_IsValidBroker_0_eq, show ltI 0 2 = true from rfl, cond_true, show L_spec_IsValidBroker_1 0 0 0 b.pool b.next (b.act.map Cl.e) (b.wait.map Cl.e) [[.sl (b.act.map Cl.e)], [.sl (b.wait.map Cl.e)]] = _ from k0]
  rw [show w64 (((0 : Nat) : Int) + 1) = 1 from by decide, L_spec_IsValidBroker_0_eq, show ltI 1 2 = true from rfl, cond_true, show L_spec_IsValidBroker_1 0 1 0 b.pool b.next (b.act.map Cl.e) (b.wait.map Cl.e) [[.sl (b.act.map Cl.e)], [.sl (b.wait.map Cl.e)]] = _ from k1]
  rw [show w64 (((1 : Nat) : Int) + 1) = 2 from by decide, L_spec_IsValidBroker_0_eq, show ltI 2 2 = false from rfl, cond_false, show L_spec_IsValidBroker_2 0 0 b.pool b.next (b.act.map Cl.e) (b.wait.map Cl.e) = _ from k2, apart_eq]
  simp only [List.getLast?_nil, Option.map_none]
  unfold brOk
  cases win b.pool 8 120 <;> cases win b.next 0 1000 <;> cases clsB b.next none b.act <;> cases clsB b.next none b.wait <;> cases apartB b.act b.wait <;> rfl
def opOk (o : Opr) : Bool := bif eqI o.kind 1 then soOk o.so else bif eqI o.kind 2 then jnOk o.jn else bif eqI o.kind 3 then agOk o.ag else false
theorem iValidOp (o : Opr) (h : o.B2) : callI tE f_impl_validOp o.e = some [.bool (opOk o)] := by
  obtain ⟨h1, h2, h3⟩ := h.p
  unfold Opr.e opOk
  rw [c_impl_validOp]
  simp only [iValidSo o.so h1, iValidJn o.jn h2, iValidAg o.ag h3, gn_c, gb_c, gs_c, gl_c, tk_s, tk_0, List.drop_succ_cons, List.drop_zero, List.headD_cons, List.getD_cons_zero, List.getD_cons_succ, bind_s]
  cases eqI o.kind 1 <;> cases eqI o.kind 2 <;> cases eqI o.kind 3 <;> rfl
theorem sOpOk (o : Opr) (h : o.B2) : callI tE f_spec_l30OpOk o.e = some [.bool (opOk o)] := by
  obtain ⟨h1, h2, h3⟩ := h.p
  unfold Opr.e opOk
  rw [c_spec_l30OpOk]
  simp only [sValidSo o.so h1, sValidJn o.jn h2, sValidAg o.ag h3, gn_c, gb_c, gs_c, gl_c, tk_s, tk_0, List.drop_succ_cons, List.drop_zero, List.headD_cons, List.getD_cons_zero, List.getD_cons_succ, bind_s]
  cases eqI o.kind 1 <;> cases eqI o.kind 2 <;> cases eqI o.kind 3 <;> rfl
def slotOk (b : Br) (i : Nat) (x : Sl) : Bool := eqI x.id i && (opOk x.op && (eqBo x.done (opDone x.op) && !eqBo (hasId b.act x.id || hasId b.wait x.id) x.done))
def slotsOk (b : Br) : Nat → List Sl → Bool
  | _, [] => true
  | i, x :: l => slotOk b i x && slotsOk b (i + 1) l
def syOk (y : Sy) : Bool := brOk y.br && (eqI y.slots.length y.br.next && (leI y.slots.length 8 && (win y.round 0 1000 && slotsOk y.br 0 y.slots)))
def Sy.B2 (y : Sy) : Prop := y.sz ≤ 1073741800
theorem Sy.B2.p {y : Sy} (h : y.B2) : y.br.B ∧ y.slots.length ≤ 1073741824 ∧ ∀ x ∈ y.slots, x.op.B2 ∧ x.out.sz ≤ 1073741824 := by
  have h : y.br.sz + szL Sl.sz y.slots ≤ 1073741800 := h
  have hl := szL_len Sl.sz y.slots
  refine ⟨by show y.br.sz ≤ _; omega, by omega, fun x hx => ?_⟩
  have := szL_mem (f := Sl.sz) hx
  have e : Sl.sz x = x.op.sz + x.out.sz := rfl
  exact ⟨by show x.op.sz ≤ _; omega, by omega⟩
theorem slot_end (b : Br) (i : Nat) (x : Sl) (X : Option (List Dat)) : (bif hasId b.act x.id then (bif !(eqI x.id i) then some [Dat.bool false] else bif !(opOk x.op) then some [.bool false] else bif !(eqBo x.done (opDone x.op)) then some [.bool false] else bif eqBo true x.done then some [.bool false] else X)
    else (bif !(eqI x.id i) then some [Dat.bool false] else bif !(opOk x.op) then some [.bool false] else bif !(eqBo x.done (opDone x.op)) then some [.bool false] else bif eqBo (hasId b.wait x.id) x.done then some [.bool false] else X)) = bif slotOk b i x then X else some [.bool false] := by
  unfold slotOk
  cases hasId b.act x.id <;> cases eqI x.id i <;> cases opOk x.op <;> cases eqBo x.done (opDone x.op) <;> cases hasId b.wait x.id <;> cases x.done <;> rfl
theorem iVS_loop (y : Sy) (h : y.B2) : ∀ (v u : List Sl), y.slots = u ++ v → L_impl_IsValidSystem_0 0 (y.slots.map Sl.e) (lenI (y.slots.map Sl.e)) (u.length : Int) y.br.pool y.br.next (y.br.act.map Cl.e) (y.br.wait.map Cl.e) = some [.bool (slotsOk y.br u.length v)]
  | [], u, e => by
    rw [List.append_nil] at e
    rw [L_impl_IsValidSystem_0_eq, show ltI (u.length : Int) (lenI (y.slots.map Sl.e)) = false by rw [e]; exact lt_e u]; rfl
  | x :: v, u, e => by
    obtain ⟨p1, p2, p3⟩ := h.p
    have hB : y.br.act.length + y.br.wait.length ≤ 1073741824 := p1
    have hul : u.length < y.slots.length := by rw [e]; simp
    have ih := iVS_loop y h v (u ++ [x]) (by rw [e]; simp)
    rw [List.length_append] at ih
    simp only [List.length_cons, List.length_nil, Nat.zero_add] at ih
    have h1 : ltI (u.length : Int) (lenI (y.slots.map Sl.e)) = true := by rw [e]; exact lt_m u v x
    have h2 : at' (y.slots.map Sl.e) u.length = x.e := by rw [e]; exact at_m u v x
    have h3 : inR (u.length : Int) (lenI (y.slots.map Sl.e)) = true := by rw [e]; exact in_m u v x
    have ho := (p3 x (by rw [e]; simp)).1
    have q1 := iValidOp x.op ho
    have q2 := iIsOpDone x.op
    unfold Opr.e at q1 q2
    rw [L_impl_IsValidSystem_0_eq, h1, h3, tn_c, h2, w64_s (by omega), ih]
    simp only [cond_true, Sl.e, gn_c, gb_c, gs_c, gl_c, tk_s, tk_0, List.drop_succ_cons, List.drop_zero, List.headD_cons, List.getD_cons_zero, List.getD_cons_succ, bind_s, iClientAt y.br.act x.id (by omega), iClientAt y.br.wait x.id (by omega), clIx_has, q1, q2]
    rw [slot_end]
    simp only [slotsOk]
    cases slotOk y.br u.length x <;> rfl
theorem iValidSy (y : Sy) (h : y.B2) : callI tE f_impl_IsValidSystem [.int y.br.pool, .int y.br.next, .sl (y.br.act.map Cl.e), .sl (y.br.wait.map Cl.e), .sl (y.slots.map Sl.e), .int y.round] = some [.bool (syOk y)] := by
  obtain ⟨p1, p2, p3⟩ := h.p
  have := iVS_loop y h y.slots [] rfl
  rw [c_impl_IsValidSystem]
  simp only [iValidBr y.br p1, within_ok, gn_c, gb_c, gs_c, gl_c, tk_s, tk_0, List.drop_succ_cons, List.drop_zero, List.headD_cons, List.getD_cons_zero, List.getD_cons_succ, bind_s]
  rw [show L_impl_IsValidSystem_0 0 (y.slots.map Sl.e) (lenI (y.slots.map Sl.e)) 0 y.br.pool y.br.next (y.br.act.map Cl.e) (y.br.wait.map Cl.e) = _ from this, lenI_map]
  unfold syOk
  rw [show ltI 8 (y.slots.length : Int) = !leI (y.slots.length : Int) 8 by unfold ltI leI; rw [← decide_not]; congr 1; apply propext; omega]
  cases brOk y.br <;> cases eqI (y.slots.length : Int) y.br.next <;> cases leI (y.slots.length : Int) 8 <;> cases win y.round 0 1000 <;> rfl
theorem sVS_loop (y : Sy) (h : y.B2) : ∀ (v u : List Sl), y.slots = u ++ v → L_spec_IsValidSystem_0 0 (u.length : Int) y.br.pool y.br.next (y.br.act.map Cl.e) (y.br.wait.map Cl.e) (y.slots.map Sl.e) y.round = some [.bool (slotsOk y.br u.length v)]
  | [], u, e => by
    rw [List.append_nil] at e
    rw [L_spec_IsValidSystem_0_eq, show ltI (u.length : Int) (lenI (y.slots.map Sl.e)) = false by rw [e]; exact lt_e u]; rfl
  | x :: v, u, e => by
    obtain ⟨p1, p2, p3⟩ := h.p
    have hB : y.br.act.length + y.br.wait.length ≤ 1073741824 := p1
    have hul : u.length < y.slots.length := by rw [e]; simp
    have ih := sVS_loop y h v (u ++ [x]) (by rw [e]; simp)
    rw [List.length_append] at ih
    simp only [List.length_cons, List.length_nil, Nat.zero_add] at ih
    have h1 : ltI (u.length : Int) (lenI (y.slots.map Sl.e)) = true := by rw [e]; exact lt_m u v x
    have h2 : at' (y.slots.map Sl.e) u.length = x.e := by rw [e]; exact at_m u v x
    have h3 : inR (u.length : Int) (lenI (y.slots.map Sl.e)) = true := by rw [e]; exact in_m u v x
    have ho := (p3 x (by rw [e]; simp)).1
    have q1 := sOpOk x.op ho
    have q2 := sIsOpDone x.op
    unfold Opr.e at q1 q2
    rw [L_spec_IsValidSystem_0_eq, h1, h3, tn_c, h2, w64_s (by omega), ih]
    simp only [cond_true, Sl.e, gn_c, gb_c, gs_c, gl_c, tk_s, tk_0, List.drop_succ_cons, List.drop_zero, List.headD_cons, List.getD_cons_zero, List.getD_cons_succ, bind_s, sAt y.br.act _ (show y.br.act.length ≤ 4611686018427387904 by omega), sAt y.br.wait _ (show y.br.wait.length ≤ 4611686018427387904 by omega), clIx_has, q1, q2]
    by_cases hid : x.id = (u.length : Int)
    · rw [← hid]
      have := slot_end y.br u.length x (some [.bool (slotsOk y.br (u.length + 1) v)])
      rw [← hid] at this
      rw [this]
      simp only [slotsOk]
      cases slotOk y.br u.length x <;> rfl
    · have hs : slotOk y.br u.length x = false := by unfold slotOk; rw [eqF hid]; rfl
      simp only [slotsOk, hs, eqF hid, Bool.not_false, cond_true, Bool.false_and]
      cases hasId y.br.act (u.length : Int) <;> rfl
theorem sValidSy (y : Sy) (h : y.B2) : callI tE f_spec_IsValidSystem [.int y.br.pool, .int y.br.next, .sl (y.br.act.map Cl.e), .sl (y.br.wait.map Cl.e), .sl (y.slots.map Sl.e), .int y.round] = some [.bool (syOk y)] := by
  obtain ⟨p1, p2, p3⟩ := h.p
  have := sVS_loop y h y.slots [] rfl
  rw [c_spec_IsValidSystem]
  simp only [sValidBr y.br p1, l1In_ok, gn_c, gb_c, gs_c, gl_c, tk_s, tk_0, List.drop_succ_cons, List.drop_zero, List.headD_cons, List.getD_cons_zero, List.getD_cons_succ, bind_s]
  rw [show L_spec_IsValidSystem_0 0 0 y.br.pool y.br.next (y.br.act.map Cl.e) (y.br.wait.map Cl.e) (y.slots.map Sl.e) y.round = _ from this, lenI_map]
  unfold syOk
  rw [show ltI 8 (y.slots.length : Int) = !leI (y.slots.length : Int) 8 by unfold ltI leI; rw [← decide_not]; congr 1; apply propext; omega]
  cases brOk y.br <;> cases eqI (y.slots.length : Int) y.br.next <;> cases leI (y.slots.length : Int) 8 <;> cases win y.round 0 1000 <;> rfl
end Go.Proofs.YtceoogjanfbdcaaGreat.Vai
namespace Go.Proofs.YtceoogjanfbdcaaGreat.Vai
open Go
set_option linter.unusedSimpArgs false
set_option linter.unusedVariables false
set_option linter.unnecessarySimpa false
set_option maxRecDepth 10000
def passF : Nat → Int → Int → Int → Int
  | 0, _, k, _ => k
  | f + 1, n, k, x => if x < n ∧ k < 40 then passF f n (w64 (k + 1)) (w64 (x * 2)) else k
def passes (n : Int) : Int := passF 41 n 0 1
theorem iPass_loop (n : Int) : ∀ (f : Nat) (k x : Int), 0 ≤ k → k + f = 41 → L_impl_MergePasses_0 n k x = some [.int (passF f n k x)]
  | 0, k, x, h0, h => by
    rw [L_impl_MergePasses_0_eq, ltF (show (40 : Int) ≤ k by omega), cond_false]
    cases ltI x n <;> rfl
  | f + 1, k, x, h0, h => by
    rw [L_impl_MergePasses_0_eq]
    simp only [passF]
    by_cases h1 : x < n
    · by_cases h2 : k < 40
      · rw [ltT h1, ltT h2, if_pos ⟨h1, h2⟩, cond_true, cond_true]
        have e : w64 (k + 1) = k + 1 := w64_id ⟨by omega, by omega⟩
        exact iPass_loop n f _ _ (by omega) (by rw [e]; omega)
      · rw [ltT h1, ltF (by omega), if_neg (fun q => h2 q.2)]; rfl
    · rw [ltF (by omega), if_neg (fun q => h1 q.1)]; rfl
theorem iPasses (n : Int) : callI tE f_impl_MergePasses [.int n] = some [.int (passes n)] := by rw [c_impl_MergePasses]; exact iPass_loop n 41 0 1 (by omega) rfl
theorem sPass_loop (n : Int) : ∀ (f : Nat) (k x : Int), 0 ≤ k → k + f = 41 → L_spec_MergePasses_0 n k x = some [.int (passF f n k x)]
  | 0, k, x, h0, h => by
    rw [L_spec_MergePasses_0_eq, ltF (show (40 : Int) ≤ k by omega), cond_false]
    cases ltI x n <;> rfl
  | f + 1, k, x, h0, h => by
    rw [L_spec_MergePasses_0_eq]
    simp only [passF]
    by_cases h1 : x < n
    · by_cases h2 : k < 40
      · rw [ltT h1, ltT h2, if_pos ⟨h1, h2⟩, cond_true, cond_true]
        have e : w64 (k + 1) = k + 1 := w64_id ⟨by omega, by omega⟩
        exact sPass_loop n f _ _ (by omega) (by rw [e]; omega)
      · rw [ltT h1, ltF (by omega), if_neg (fun q => h2 q.2)]; rfl
    · rw [ltF (by omega), if_neg (fun q => h1 q.1)]; rfl
theorem sPasses (n : Int) : callI tE f_spec_MergePasses [.int n] = some [.int (passes n)] := by rw [c_spec_MergePasses]; exact sPass_loop n 41 0 1 (by omega) rfl
def stepsB (n : Int) : Int := if n ≤ 0 then 1 else w64 ((w64 ((w64 (4 * n)) + 2)) + (w64 ((w64 (n + 1)) * (w64 (passes n + 1)))))
theorem iStepsB (n : Int) : callI tE f_impl_SortStepBound [.int n] = some [.int (stepsB n)] := by
  rw [c_impl_SortStepBound, iPasses]
  unfold stepsB
  by_cases h : n ≤ 0
  · rw [leT h, if_pos h]; rfl
  · rw [leF (by omega), if_neg h]; rfl
theorem sStepsB (n : Int) : callI tE f_spec_SortStepBound [.int n] = some [.int (stepsB n)] := by
  rw [c_spec_SortStepBound, sPasses]
  unfold stepsB
  by_cases h : n ≤ 0
  · rw [leT h, if_pos h]; rfl
  · rw [leF (by omega), if_neg h]; rfl
end Go.Proofs.YtceoogjanfbdcaaGreat.Vai
namespace Go.Proofs.YtceoogjanfbdcaaGreat.Vai
open Go
set_option linter.unusedSimpArgs false
set_option linter.unusedVariables false
set_option linter.unnecessarySimpa false
set_option maxRecDepth 10000
theorem w64_ad (a b : Int) : w64 (w64 a + b) = w64 (a + b) := by
  have e : (2 : Int) ^ 64 = 18446744073709551616 := by decide
  have e2 : (2 : Int) ^ (64 - 1) = 9223372036854775808 := by decide
  simp only [w64, IntKind.wrap, IntKind.signed, IntKind.bits, Bool.true_and, decide_eq_true_eq, e, e2]
  split <;> split <;> split <;> omega
theorem w64_ad' (a b : Int) : w64 (a + w64 b) = w64 (a + b) := by rw [Int.add_comm, w64_ad, Int.add_comm]
theorem w64_ad3 (n a b : Int) : w64 (n + (w64 a + b)) = w64 (n + (a + b)) := by rw [show n + (w64 a + b) = (n + b) + w64 a by omega, w64_ad', show n + b + a = n + (a + b) by omega]
def jS (l : List Tk) : Int := (l.map fun x => 31 + (x.right.length : Int)).foldr (· + ·) 0
def gS (l : List Gt) : Int := (l.map fun x => 2 * (x.rows.length : Int) + 32).foldr (· + ·) 0
theorem jS_cons (x : Tk) (l : List Tk) : jS (x :: l) = 31 + (x.right.length : Int) + jS l := rfl
theorem gS_cons (x : Gt) (l : List Gt) : gS (x :: l) = 2 * (x.rows.length : Int) + 32 + gS l := rfl
def opSteps (o : Opr) : Int := if o.kind = 1 then stepsB o.so.inp.length else if o.kind = 2 then jS o.jn.pend else gS o.ag.pend
def rndL : Int → List Sl → Int
  | n, [] => n
  | n, x :: l => rndL (if x.done = true then n else w64 (n + opSteps x.op)) l
def rndY (y : Sy) : Int := if syOk y then rndL 0 y.slots else 0
theorem jn_p {j : Jn} (h : j.sz ≤ 1073741800) : j.pend.length ≤ 1073741800 ∧ ∀ x ∈ j.pend, x.right.length ≤ 1073741800 := by
  have hl := szL_len Tk.sz j.pend
  have h : szL Tk.sz j.pend ≤ 1073741800 := h
  refine ⟨by omega, fun x hx => ?_⟩
  have := szL_mem (f := Tk.sz) hx
  simp only [Tk.sz] at this
  omega
theorem ag_p {j : Ag} (h : j.sz ≤ 1073741800) : j.pend.length ≤ 1073741800 ∧ ∀ x ∈ j.pend, x.rows.length ≤ 1073741800 := by
  have hl := szL_len Gt.sz j.pend
  have h : szL Gt.sz j.pend ≤ 1073741800 := h
  refine ⟨by omega, fun x hx => ?_⟩
  have := szL_mem (f := Gt.sz) hx
  simp only [Gt.sz] at this
  omega
theorem iRb1 {l : List Tk} (hl : l.length ≤ 1073741800) {X : Rows} {N I : Int} : ∀ (v u : List Tk) (n : Int), l = u ++ v → L_impl_RoundBound_1 (w64 n) X N I (l.map Tk.e) (lenI (l.map Tk.e)) (u.length : Int) = L_impl_RoundBound_0 (w64 (n + jS v)) X N (w64 (I + 1))
  | [], u, n, e => by
    rw [List.append_nil] at e
    rw [L_impl_RoundBound_1_eq, show ltI (u.length : Int) (lenI (l.map Tk.e)) = false by rw [e]; exact lt_e u, cond_false, show n + jS [] = n from Int.add_zero n]
  | x :: v, u, n, e => by
    have hul : u.length < l.length := by rw [e]; simp
    have ih := iRb1 hl (X := X) (N := N) (I := I) v (u ++ [x]) (n + (31 + (x.right.length : Int))) (by rw [e]; simp)
    simp only [List.length_append, List.length_cons, List.length_nil, Nat.zero_add] at ih
    have h1 : ltI (u.length : Int) (lenI (l.map Tk.e)) = true := by rw [e]; exact lt_m u v x
    have h2 : at' (l.map Tk.e) u.length = x.e := by rw [e]; exact at_m u v x
    have h3 : inR (u.length : Int) (lenI (l.map Tk.e)) = true := by rw [e]; exact in_m u v x
    rw [L_impl_RoundBound_1_eq, h1, h3, tn_c, h2, w64_s (i := u.length) (by omega)]
    simp only [cond_true, Tk.e, gn_c, gb_c, gs_c, gl_c, tk_s, tk_0, List.drop_succ_cons, List.drop_zero, List.headD_cons, List.getD_cons_zero, List.getD_cons_succ, bind_s, c_impl_JoinStepBound, lenI_map, w64_ad, w64_ad']
    simp only [lenI_map] at ih
    rw [ih, jS_cons, Int.add_assoc]
theorem iRb2 {l : List Gt} (hl : l.length ≤ 1073741800) {X : Rows} {N I : Int} : ∀ (v u : List Gt) (n : Int), l = u ++ v → L_impl_RoundBound_2 (w64 n) X N I (l.map Gt.e) (lenI (l.map Gt.e)) (u.length : Int) = L_impl_RoundBound_0 (w64 (n + gS v)) X N (w64 (I + 1))
  | [], u, n, e => by
    rw [List.append_nil] at e
    rw [L_impl_RoundBound_2_eq, show ltI (u.length : Int) (lenI (l.map Gt.e)) = false by rw [e]; exact lt_e u, cond_false, show n + gS [] = n from Int.add_zero n]
  | x :: v, u, n, e => by
    have hul : u.length < l.length := by rw [e]; simp
    have ih := iRb2 hl (X := X) (N := N) (I := I) v (u ++ [x]) (n + (2 * (x.rows.length : Int) + 32)) (by rw [e]; simp)
    simp only [List.length_append, List.length_cons, List.length_nil, Nat.zero_add] at ih
    have h1 : ltI (u.length : Int) (lenI (l.map Gt.e)) = true := by rw [e]; exact lt_m u v x
    have h2 : at' (l.map Gt.e) u.length = x.e := by rw [e]; exact at_m u v x
    have h3 : inR (u.length : Int) (lenI (l.map Gt.e)) = true := by rw [e]; exact in_m u v x
    rw [L_impl_RoundBound_2_eq, h1, h3, tn_c, h2, w64_s (i := u.length) (by omega)]
    simp only [cond_true, Gt.e, gn_c, gb_c, gs_c, gl_c, tk_s, tk_0, List.drop_succ_cons, List.drop_zero, List.headD_cons, List.getD_cons_zero, List.getD_cons_succ, bind_s, c_impl_GroupStepBound, lenI_map, w64_ad, w64_ad', w64_ad3]
    simp only [lenI_map] at ih
    rw [show n + (2 * (x.rows.length : Int) + 1 + 31) = n + (2 * (x.rows.length : Int) + 32) by omega, ih, gS_cons, Int.add_assoc]
theorem sSt0 {l : List Tk} (hl : l.length ≤ 1073741800) {o : Opr} (ho : o.jn.pend = l) : ∀ (v u : List Tk) (n : Int), l = u ++ v → L_spec_l31Steps_0 0 (w64 n) (u.length : Int) o.kind (o.so.inp.map Rw.e) o.so.pos (o.so.heap.map Rw.e) (o.so.dfd.map Rw.e) (o.so.out.map Rw.e) (o.so.runs.map rsE) o.so.lp o.so.rp o.so.ph o.so.wr (l.map Tk.e) o.jn.wr o.jn.parts (o.ag.pend.map Gt.e) o.ag.wr o.ag.early = some [.int (w64 (n + jS v))]
  | [], u, n, e => by
    rw [List.append_nil] at e
    rw [L_spec_l31Steps_0_eq, show ltI (u.length : Int) (lenI (l.map Tk.e)) = false by rw [e]; exact lt_e u, cond_false, show n + jS [] = n from Int.add_zero n]
  | x :: v, u, n, e => by
    have hul : u.length < l.length := by rw [e]; simp
    have ih := sSt0 hl ho v (u ++ [x]) (n + (31 + (x.right.length : Int))) (by rw [e]; simp)
    simp only [List.length_append, List.length_cons, List.length_nil, Nat.zero_add] at ih
    have h1 : ltI (u.length : Int) (lenI (l.map Tk.e)) = true := by rw [e]; exact lt_m u v x
    have h2 : at' (l.map Tk.e) u.length = x.e := by rw [e]; exact at_m u v x
    have h3 : inR (u.length : Int) (lenI (l.map Tk.e)) = true := by rw [e]; exact in_m u v x
    rw [L_spec_l31Steps_0_eq, h1, h3, tn_c, h2, w64_s (i := u.length) (by omega)]
    simp only [cond_true, Tk.e, gn_c, gb_c, gs_c, gl_c, tk_s, tk_0, List.drop_succ_cons, List.drop_zero, List.headD_cons, List.getD_cons_zero, List.getD_cons_succ, bind_s, c_spec_JoinStepBound, lenI_map, w64_ad, w64_ad']
    rw [ih, jS_cons, Int.add_assoc]
theorem sSt1 {l : List Gt} (hl : l.length ≤ 1073741800) {o : Opr} (ho : o.ag.pend = l) : ∀ (v u : List Gt) (n : Int), l = u ++ v → L_spec_l31Steps_1 0 (w64 n) (u.length : Int) o.kind (o.so.inp.map Rw.e) o.so.pos (o.so.heap.map Rw.e) (o.so.dfd.map Rw.e) (o.so.out.map Rw.e) (o.so.runs.map rsE) o.so.lp o.so.rp o.so.ph o.so.wr (o.jn.pend.map Tk.e) o.jn.wr o.jn.parts (l.map Gt.e) o.ag.wr o.ag.early = some [.int (w64 (n + gS v))]
  | [], u, n, e => by
    rw [List.append_nil] at e
    rw [L_spec_l31Steps_1_eq, show ltI (u.length : Int) (lenI (l.map Gt.e)) = false by rw [e]; exact lt_e u, cond_false, show n + gS [] = n from Int.add_zero n]
  | x :: v, u, n, e => by
    have hul : u.length < l.length := by rw [e]; simp
    have ih := sSt1 hl ho v (u ++ [x]) (n + (2 * (x.rows.length : Int) + 32)) (by rw [e]; simp)
    simp only [List.length_append, List.length_cons, List.length_nil, Nat.zero_add] at ih
    have h1 : ltI (u.length : Int) (lenI (l.map Gt.e)) = true := by rw [e]; exact lt_m u v x
    have h2 : at' (l.map Gt.e) u.length = x.e := by rw [e]; exact at_m u v x
    have h3 : inR (u.length : Int) (lenI (l.map Gt.e)) = true := by rw [e]; exact in_m u v x
    rw [L_spec_l31Steps_1_eq, h1, h3, tn_c, h2, w64_s (i := u.length) (by omega)]
    simp only [cond_true, Gt.e, gn_c, gb_c, gs_c, gl_c, tk_s, tk_0, List.drop_succ_cons, List.drop_zero, List.headD_cons, List.getD_cons_zero, List.getD_cons_succ, bind_s, c_spec_GroupStepBound, lenI_map, w64_ad, w64_ad']
    rw [show n + 31 + (2 * (x.rows.length : Int) + 1) = n + (2 * (x.rows.length : Int) + 32) by omega, ih, gS_cons, Int.add_assoc]
theorem sSteps {o : Opr} (h : o.B2) (hk : opOk o = true) : ∃ m : Int, callI tE f_spec_l31Steps [.int o.kind, .sl (o.so.inp.map Rw.e), .int o.so.pos, .sl (o.so.heap.map Rw.e), .sl (o.so.dfd.map Rw.e), .sl (o.so.out.map Rw.e), .sl (o.so.runs.map rsE), .int o.so.lp, .int o.so.rp, .int o.so.ph, .int o.so.wr, .sl (o.jn.pend.map Tk.e), .int o.jn.wr, .int o.jn.parts, .sl (o.ag.pend.map Gt.e), .int o.ag.wr, .bool o.ag.early] = some [.int m] ∧ ∀ n, w64 (n + m) = w64 (n + opSteps o) := by
  obtain ⟨h1, h2, h3⟩ := h.p
  have j1 := jn_p (j := o.jn) h2
  have g1 := ag_p (j := o.ag) h3
  rw [c_spec_l31Steps]
  unfold opSteps
  by_cases k1 : o.kind = 1
  · refine ⟨stepsB o.so.inp.length, ?_, fun n => ?_⟩
    · rw [eqT k1, cond_true, lenI_map, sStepsB]; rfl
    · rw [if_pos k1]
  · rw [eqF k1, cond_false, if_neg k1]
    by_cases k2 : o.kind = 2
    · rw [eqT k2, cond_true, if_pos k2]
      have := sSt0 (o := o) j1.1 rfl o.jn.pend [] 0 rfl
      rw [Int.zero_add] at this
      exact ⟨_, this, fun n => w64_ad' _ _⟩
    · rw [eqF k2, cond_false, if_neg k2]
      have := sSt1 (o := o) g1.1 rfl o.ag.pend [] 0 rfl
      rw [Int.zero_add] at this
      exact ⟨_, this, fun n => w64_ad' _ _⟩
theorem slots_ok {b : Br} : ∀ {l : List Sl} {i : Nat}, slotsOk b i l = true → ∀ x ∈ l, opOk x.op = true
  | [], _, _, x, hx => by cases hx
  | a :: l, i, h, x, hx => by
    simp only [slotsOk, Bool.and_eq_true] at h
    rcases List.mem_cons.mp hx with rfl | hx
    · have := h.1
      simp only [slotOk, Bool.and_eq_true] at this
      exact this.2.1
    · exact slots_ok h.2 x hx
theorem sy_ops {y : Sy} (h : syOk y = true) : ∀ x ∈ y.slots, opOk x.op = true := by
  simp only [syOk, Bool.and_eq_true] at h
  exact slots_ok h.2.2.2.2
theorem op_kind {o : Opr} (h : opOk o = true) : o.kind = 1 ∨ o.kind = 2 ∨ o.kind = 3 := by
  by_cases h1 : o.kind = 1
  · exact .inl h1
  · by_cases h2 : o.kind = 2
    · exact .inr (.inl h2)
    · by_cases h3 : o.kind = 3
      · exact .inr (.inr h3)
      · unfold opOk at h
        rw [eqF h1, eqF h2, eqF h3] at h
        cases h
theorem iRb_loop (y : Sy) (h : y.B2) (hv : syOk y = true) : ∀ (v u : List Sl) (n : Int), y.slots = u ++ v → L_impl_RoundBound_0 (w64 n) (y.slots.map Sl.e) (lenI (y.slots.map Sl.e)) (u.length : Int) = some [.int (rndL (w64 n) v)]
  | [], u, n, e => by
    rw [List.append_nil] at e
    rw [L_impl_RoundBound_0_eq, show ltI (u.length : Int) (lenI (y.slots.map Sl.e)) = false by rw [e]; exact lt_e u]; rfl
  | x :: v, u, n, e => by
    obtain ⟨p1, p2, p3⟩ := h.p
    have hul : u.length < y.slots.length := by rw [e]; simp
    have hx : x ∈ y.slots := by rw [e]; simp
    have ih := fun n => iRb_loop y h hv v (u ++ [x]) n (by rw [e]; simp)
    simp only [List.length_append, List.length_cons, List.length_nil, Nat.zero_add] at ih
    have h1 : ltI (u.length : Int) (lenI (y.slots.map Sl.e)) = true := by rw [e]; exact lt_m u v x
    have h2 : at' (y.slots.map Sl.e) u.length = x.e := by rw [e]; exact at_m u v x
    have h3 : inR (u.length : Int) (lenI (y.slots.map Sl.e)) = true := by rw [e]; exact in_m u v x
    obtain ⟨q1, q2, q3⟩ := (p3 x hx).1.p
    have j1 := jn_p (j := x.op.jn) q2
    have g1 := ag_p (j := x.op.ag) q3
    rw [L_impl_RoundBound_0_eq, h1, h3, tn_c, h2]
    simp only [cond_true, Sl.e, gn_c, gb_c, gs_c, gl_c, tk_s, tk_0, List.drop_succ_cons, List.drop_zero, List.headD_cons, List.getD_cons_zero, List.getD_cons_succ, bind_s, lenI_map Rw.e x.op.so.inp, iStepsB, rndL]
    rw [show L_impl_RoundBound_1 (w64 n) (y.slots.map Sl.e) (lenI (y.slots.map Sl.e)) (u.length : Int) (x.op.jn.pend.map Tk.e) (lenI (x.op.jn.pend.map Tk.e)) 0 = _ from iRb1 j1.1 x.op.jn.pend [] n rfl, show L_impl_RoundBound_2 (w64 n) (y.slots.map Sl.e) (lenI (y.slots.map Sl.e)) (u.length : Int) (x.op.ag.pend.map Gt.e) (lenI (x.op.ag.pend.map Gt.e)) 0 = _ from iRb2 g1.1 x.op.ag.pend [] n rfl, w64_s (i := u.length) (by omega), w64_ad, ih, ih, ih, ih]
    cases hd : x.done with
    | true => rfl
    | false =>
      simp only [cond_false, Bool.false_eq_true, if_false, w64_ad]
      unfold opSteps
      rcases op_kind (sy_ops hv x hx) with k | k | k
      · rw [eqT k, if_pos k]; rfl
      · rw [eqF (by omega), eqT k, if_neg (by omega), if_pos k]; rfl
      · rw [eqF (by omega), eqF (by omega), eqT k, if_neg (by omega), if_neg (by omega)]; rfl
theorem iRound (y : Sy) (h : y.B2) : callI tE f_impl_RoundBound [.int y.br.pool, .int y.br.next, .sl (y.br.act.map Cl.e), .sl (y.br.wait.map Cl.e), .sl (y.slots.map Sl.e), .int y.round] = some [.int (rndY y)] := by
  rw [c_impl_RoundBound, iValidSy y h]
  simp only [gn_c, gb_c, gs_c, gl_c, tk_s, tk_0, List.drop_succ_cons, List.drop_zero, List.headD_cons, List.getD_cons_zero, List.getD_cons_succ, bind_s]
  unfold rndY
  cases hv : syOk y with
  | false => rfl
  | true =>
    rw [Bool.not_true, cond_false, if_pos rfl]
    exact iRb_loop y h hv y.slots [] 0 rfl
theorem sRb_loop (y : Sy) (h : y.B2) (hv : syOk y = true) : ∀ (v u : List Sl) (n : Int), y.slots = u ++ v → L_spec_RoundBound_0 0 n (u.length : Int) y.br.pool y.br.next (y.br.act.map Cl.e) (y.br.wait.map Cl.e) (y.slots.map Sl.e) y.round = some [.int (rndL n v)]
  | [], u, n, e => by
    rw [List.append_nil] at e
    rw [L_spec_RoundBound_0_eq, show ltI (u.length : Int) (lenI (y.slots.map Sl.e)) = false by rw [e]; exact lt_e u]; rfl
  | x :: v, u, n, e => by
    obtain ⟨p1, p2, p3⟩ := h.p
    have hul : u.length < y.slots.length := by rw [e]; simp
    have hx : x ∈ y.slots := by rw [e]; simp
    have ih := fun n => sRb_loop y h hv v (u ++ [x]) n (by rw [e]; simp)
    simp only [List.length_append, List.length_cons, List.length_nil, Nat.zero_add] at ih
    have h1 : ltI (u.length : Int) (lenI (y.slots.map Sl.e)) = true := by rw [e]; exact lt_m u v x
    have h2 : at' (y.slots.map Sl.e) u.length = x.e := by rw [e]; exact at_m u v x
    have h3 : inR (u.length : Int) (lenI (y.slots.map Sl.e)) = true := by rw [e]; exact in_m u v x
    obtain ⟨m, hm, hm2⟩ := sSteps (p3 x hx).1 (sy_ops hv x hx)
    rw [L_spec_RoundBound_0_eq, h1, h3, tn_c, h2, w64_s (i := u.length) (by omega)]
    simp only [cond_true, Sl.e, gn_c, gb_c, gs_c, gl_c, tk_s, tk_0, List.drop_succ_cons, List.drop_zero, List.headD_cons, List.getD_cons_zero, List.getD_cons_succ, bind_s, hm, hm2, ih, rndL]
    cases x.done <;> rfl
theorem sRound (y : Sy) (h : y.B2) : callI tE f_spec_RoundBound [.int y.br.pool, .int y.br.next, .sl (y.br.act.map Cl.e), .sl (y.br.wait.map Cl.e), .sl (y.slots.map Sl.e), .int y.round] = some [.int (rndY y)] := by
  rw [c_spec_RoundBound, sValidSy y h]
  simp only [gn_c, gb_c, gs_c, gl_c, tk_s, tk_0, List.drop_succ_cons, List.drop_zero, List.headD_cons, List.getD_cons_zero, List.getD_cons_succ, bind_s]
  unfold rndY
  cases hv : syOk y with
  | false => rfl
  | true =>
    rw [Bool.not_true, cond_false, if_pos rfl]
    exact sRb_loop y h hv y.slots [] 0 rfl
end Go.Proofs.YtceoogjanfbdcaaGreat.Vai
namespace Go.Proofs.YtceoogjanfbdcaaGreat.Vai
open Go
set_option linter.unusedSimpArgs false
set_option linter.unusedVariables false
set_option linter.unnecessarySimpa false
set_option maxRecDepth 10000
theorem of_sl {α : Type} {e : α → List Dat} {p : α → Prop} {t : TypeId} {te : TI} (ht : tE.T t = some te) (hp : 0 < te.by_) (hE : ∀ {ds : List Dat}, OkDs tE te.ls ds → ∃ x, ds = e x ∧ p x) {d : Dat} (h : OkD tE (.sl t) d) : ∃ l : List α, d = .sl (l.map e) ∧ BdL p l := by
  obtain ⟨rows, rfl, hn, hr⟩ := h.sl' ht
  have key : ∀ rows : Rows, (∀ r ∈ rows, OkDs tE te.ls r) → ∃ l : List α, rows = l.map e ∧ ∀ a ∈ l, p a := by
    intro rows
    induction rows with
    | nil => intro _; exact ⟨[], rfl, fun a ha => by cases ha⟩
    | cons r rows ih =>
      intro hr
      obtain ⟨l, h1, h2⟩ := ih (fun q hq => hr q (List.mem_cons_of_mem _ hq))
      obtain ⟨x, h3, h4⟩ := hE (hr r (by simp))
      exact ⟨x :: l, by rw [h1, h3]; rfl, fun a ha => (List.mem_cons.mp ha).elim (fun e => e ▸ h4) (h2 a)⟩
  obtain ⟨l, h1, h2⟩ := key rows hr
  refine ⟨l, by rw [h1], ?_, h2⟩
  have : rows.length = l.length := by rw [h1]; simp
  have h3 : rows.length ≤ reachBytes := Nat.le_trans (Nat.le_mul_of_pos_right _ hp) hn
  have h4 : reachBytes ≤ 1152921504606846976 := by decide
  omega
theorem OkDs.split {ls1 ls2 : List Leaf} {ds : List Dat} (h : OkDs tE (ls1 ++ ls2) ds) : ∃ d1 d2, ds = d1 ++ d2 ∧ OkDs tE ls1 d1 ∧ OkDs tE ls2 d2 := by
  induction ls1 generalizing ds with
  | nil => exact ⟨[], ds, rfl, .nil, h⟩
  | cons l ls ih =>
    obtain ⟨d, r, rfl, h1, h2⟩ := h.inv
    obtain ⟨d1, d2, rfl, h3, h4⟩ := ih h2
    exact ⟨d :: d1, d2, rfl, .cons _ _ _ _ h1 h3, h4⟩
theorem of_bool {ds : List Dat} (h : OkDs tE [.bool] ds) : ∃ n, ds = boE n ∧ BdT n := by
  obtain ⟨_, _, rfl, i, h⟩ := h.inv
  obtain rfl := h.nil_inv
  obtain ⟨n, rfl⟩ := i.bool'
  exact ⟨n, rfl, trivial⟩
theorem of_Row {ds : List Dat} (h : OkDs tE [.int .i64, .int .i64, .int .i64] ds) : ∃ x : Rw, ds = Rw.e x ∧ Rw.bd x := by
  obtain ⟨_, _, rfl, i0, h⟩ := h.inv
  obtain ⟨_, _, rfl, i1, h⟩ := h.inv
  obtain ⟨_, _, rfl, i2, h⟩ := h.inv
  obtain rfl := h.nil_inv
  obtain ⟨n0, rfl, j0⟩ := i0.i64
  obtain ⟨n1, rfl, j1⟩ := i1.i64
  obtain ⟨n2, rfl, j2⟩ := i2.i64
  exact ⟨⟨n0, n1, n2⟩, rfl, ⟨j0, j1, j2⟩⟩
theorem of_Pair {ds : List Dat} (h : OkDs tE [.int .i64, .int .i64, .int .i64, .int .i64, .int .i64, .int .i64, .bool] ds) : ∃ x : Pr, ds = Pr.e x ∧ Pr.bd x := by
  obtain ⟨_, _, rfl, i0, h⟩ := h.inv
  obtain ⟨_, _, rfl, i1, h⟩ := h.inv
  obtain ⟨_, _, rfl, i2, h⟩ := h.inv
  obtain ⟨_, _, rfl, i3, h⟩ := h.inv
  obtain ⟨_, _, rfl, i4, h⟩ := h.inv
  obtain ⟨_, _, rfl, i5, h⟩ := h.inv
  obtain ⟨_, _, rfl, i6, h⟩ := h.inv
  obtain rfl := h.nil_inv
  obtain ⟨n0, rfl, j0⟩ := i0.i64
  obtain ⟨n1, rfl, j1⟩ := i1.i64
  obtain ⟨n2, rfl, j2⟩ := i2.i64
  obtain ⟨n3, rfl, j3⟩ := i3.i64
  obtain ⟨n4, rfl, j4⟩ := i4.i64
  obtain ⟨n5, rfl, j5⟩ := i5.i64
  obtain ⟨n6, rfl⟩ := i6.bool'
  exact ⟨⟨⟨n0, n1, n2⟩, ⟨n3, n4, n5⟩, n6⟩, rfl, ⟨⟨j0, j1, j2⟩, ⟨j3, j4, j5⟩, trivial⟩⟩
theorem of_Group {ds : List Dat} (h : OkDs tE [.int .i64, .int .i64, .int .i64, .int .i64, .int .i64] ds) : ∃ x : Gr, ds = Gr.e x ∧ Gr.bd x := by
  obtain ⟨_, _, rfl, i0, h⟩ := h.inv
  obtain ⟨_, _, rfl, i1, h⟩ := h.inv
  obtain ⟨_, _, rfl, i2, h⟩ := h.inv
  obtain ⟨_, _, rfl, i3, h⟩ := h.inv
  obtain ⟨_, _, rfl, i4, h⟩ := h.inv
  obtain rfl := h.nil_inv
  obtain ⟨n0, rfl, j0⟩ := i0.i64
  obtain ⟨n1, rfl, j1⟩ := i1.i64
  obtain ⟨n2, rfl, j2⟩ := i2.i64
  obtain ⟨n3, rfl, j3⟩ := i3.i64
  obtain ⟨n4, rfl, j4⟩ := i4.i64
  exact ⟨⟨n0, n1, n2, n3, n4⟩, rfl, ⟨j0, j1, j2, j3, j4⟩⟩
theorem of_Client {ds : List Dat} (h : OkDs tE [.int .i64, .int .i64, .int .i64] ds) : ∃ x : Cl, ds = Cl.e x ∧ Cl.bd x := by
  obtain ⟨_, _, rfl, i0, h⟩ := h.inv
  obtain ⟨_, _, rfl, i1, h⟩ := h.inv
  obtain ⟨_, _, rfl, i2, h⟩ := h.inv
  obtain rfl := h.nil_inv
  obtain ⟨n0, rfl, j0⟩ := i0.i64
  obtain ⟨n1, rfl, j1⟩ := i1.i64
  obtain ⟨n2, rfl, j2⟩ := i2.i64
  exact ⟨⟨n0, n1, n2⟩, rfl, ⟨j0, j1, j2⟩⟩
theorem of_Task {ds : List Dat} (h : OkDs tE [.int .i64, .sl 120, .sl 120, .sl 4, .int .i64] ds) : ∃ x : Tk, ds = Tk.e x ∧ Tk.bd x := by
  obtain ⟨_, _, rfl, i0, h⟩ := h.inv
  obtain ⟨_, _, rfl, i1, h⟩ := h.inv
  obtain ⟨_, _, rfl, i2, h⟩ := h.inv
  obtain ⟨_, _, rfl, i3, h⟩ := h.inv
  obtain ⟨_, _, rfl, i4, h⟩ := h.inv
  obtain rfl := h.nil_inv
  obtain ⟨n0, rfl, j0⟩ := i0.i64
  obtain ⟨n1, rfl, j1⟩ := of_sl (te := ⟨[.int .i64, .int .i64, .int .i64], 24, true, [(0, 3), (1, 3), (2, 3)]⟩) rfl (by decide) of_Row i1
  obtain ⟨n2, rfl, j2⟩ := of_sl (te := ⟨[.int .i64, .int .i64, .int .i64], 24, true, [(0, 3), (1, 3), (2, 3)]⟩) rfl (by decide) of_Row i2
  obtain ⟨n3, rfl, j3⟩ := of_sl (te := ⟨[.bool], 1, false, []⟩) rfl (by decide) of_bool i3
  obtain ⟨n4, rfl, j4⟩ := i4.i64
  exact ⟨⟨n0, n1, n2, n3, n4⟩, rfl, ⟨j0, j1, j2, j3, j4⟩⟩
theorem of_GroupTask {ds : List Dat} (h : OkDs tE [.sl 120, .int .i64] ds) : ∃ x : Gt, ds = Gt.e x ∧ Gt.bd x := by
  obtain ⟨_, _, rfl, i0, h⟩ := h.inv
  obtain ⟨_, _, rfl, i1, h⟩ := h.inv
  obtain rfl := h.nil_inv
  obtain ⟨n0, rfl, j0⟩ := of_sl (te := ⟨[.int .i64, .int .i64, .int .i64], 24, true, [(0, 3), (1, 3), (2, 3)]⟩) rfl (by decide) of_Row i0
  obtain ⟨n1, rfl, j1⟩ := i1.i64
  exact ⟨⟨n0, n1⟩, rfl, ⟨j0, j1⟩⟩
theorem of_Run {ds : List Dat} (h : OkDs tE [.sl 120] ds) : ∃ x : List Rw, ds = rsE x ∧ rsB x := by
  obtain ⟨_, _, rfl, i0, h⟩ := h.inv
  obtain rfl := h.nil_inv
  obtain ⟨n0, rfl, j0⟩ := of_sl (te := ⟨[.int .i64, .int .i64, .int .i64], 24, true, [(0, 3), (1, 3), (2, 3)]⟩) rfl (by decide) of_Row i0
  exact ⟨n0, rfl, j0⟩
theorem of_Slot {ds : List Dat} (h : OkDs tE [.int .i64, .int .i64, .sl 120, .int .i64, .sl 120, .sl 120, .sl 120, .sl 287, .int .i64, .int .i64, .int .i64, .int .i64, .sl 290, .int .i64, .int .i64, .sl 293, .int .i64, .bool, .sl 120, .sl 280, .sl 282, .bool] ds) : ∃ x : Sl, ds = Sl.e x ∧ Sl.bd x := by
  obtain ⟨_, _, rfl, i0, h⟩ := h.inv
  obtain ⟨_, _, rfl, i1, h⟩ := h.inv
  obtain ⟨_, _, rfl, i2, h⟩ := h.inv
  obtain ⟨_, _, rfl, i3, h⟩ := h.inv
  obtain ⟨_, _, rfl, i4, h⟩ := h.inv
  obtain ⟨_, _, rfl, i5, h⟩ := h.inv
  obtain ⟨_, _, rfl, i6, h⟩ := h.inv
  obtain ⟨_, _, rfl, i7, h⟩ := h.inv
  obtain ⟨_, _, rfl, i8, h⟩ := h.inv
  obtain ⟨_, _, rfl, i9, h⟩ := h.inv
  obtain ⟨_, _, rfl, i10, h⟩ := h.inv
  obtain ⟨_, _, rfl, i11, h⟩ := h.inv
  obtain ⟨_, _, rfl, i12, h⟩ := h.inv
  obtain ⟨_, _, rfl, i13, h⟩ := h.inv
  obtain ⟨_, _, rfl, i14, h⟩ := h.inv
  obtain ⟨_, _, rfl, i15, h⟩ := h.inv
  obtain ⟨_, _, rfl, i16, h⟩ := h.inv
  obtain ⟨_, _, rfl, i17, h⟩ := h.inv
  obtain ⟨_, _, rfl, i18, h⟩ := h.inv
  obtain ⟨_, _, rfl, i19, h⟩ := h.inv
  obtain ⟨_, _, rfl, i20, h⟩ := h.inv
  obtain ⟨_, _, rfl, i21, h⟩ := h.inv
  obtain rfl := h.nil_inv
  obtain ⟨n0, rfl, j0⟩ := i0.i64
  obtain ⟨n1, rfl, j1⟩ := i1.i64
  obtain ⟨n2, rfl, j2⟩ := of_sl (te := ⟨[.int .i64, .int .i64, .int .i64], 24, true, [(0, 3), (1, 3), (2, 3)]⟩) rfl (by decide) of_Row i2
  obtain ⟨n3, rfl, j3⟩ := i3.i64
  obtain ⟨n4, rfl, j4⟩ := of_sl (te := ⟨[.int .i64, .int .i64, .int .i64], 24, true, [(0, 3), (1, 3), (2, 3)]⟩) rfl (by decide) of_Row i4
  obtain ⟨n5, rfl, j5⟩ := of_sl (te := ⟨[.int .i64, .int .i64, .int .i64], 24, true, [(0, 3), (1, 3), (2, 3)]⟩) rfl (by decide) of_Row i5
  obtain ⟨n6, rfl, j6⟩ := of_sl (te := ⟨[.int .i64, .int .i64, .int .i64], 24, true, [(0, 3), (1, 3), (2, 3)]⟩) rfl (by decide) of_Row i6
  obtain ⟨n7, rfl, j7⟩ := of_sl (te := ⟨[.sl 120], 24, true, [(0, 50)]⟩) rfl (by decide) of_Run i7
  obtain ⟨n8, rfl, j8⟩ := i8.i64
  obtain ⟨n9, rfl, j9⟩ := i9.i64
  obtain ⟨n10, rfl, j10⟩ := i10.i64
  obtain ⟨n11, rfl, j11⟩ := i11.i64
  obtain ⟨n12, rfl, j12⟩ := of_sl (te := ⟨[.int .i64, .sl 120, .sl 120, .sl 4, .int .i64], 88, true, [(0, 3), (1, 50), (2, 50), (3, 143), (4, 3)]⟩) rfl (by decide) of_Task i12
  obtain ⟨n13, rfl, j13⟩ := i13.i64
  obtain ⟨n14, rfl, j14⟩ := i14.i64
  obtain ⟨n15, rfl, j15⟩ := of_sl (te := ⟨[.sl 120, .int .i64], 32, true, [(0, 50), (1, 3)]⟩) rfl (by decide) of_GroupTask i15
  obtain ⟨n16, rfl, j16⟩ := i16.i64
  obtain ⟨n17, rfl⟩ := i17.bool'
  obtain ⟨n18, rfl, j18⟩ := of_sl (te := ⟨[.int .i64, .int .i64, .int .i64], 24, true, [(0, 3), (1, 3), (2, 3)]⟩) rfl (by decide) of_Row i18
  obtain ⟨n19, rfl, j19⟩ := of_sl (te := ⟨[.int .i64, .int .i64, .int .i64, .int .i64, .int .i64, .int .i64, .bool], 56, true, [(0, 120), (3, 120), (6, 4)]⟩) rfl (by decide) of_Pair i19
  obtain ⟨n20, rfl, j20⟩ := of_sl (te := ⟨[.int .i64, .int .i64, .int .i64, .int .i64, .int .i64], 40, true, [(0, 3), (1, 3), (2, 3), (3, 3), (4, 3)]⟩) rfl (by decide) of_Group i20
  obtain ⟨n21, rfl⟩ := i21.bool'
  exact ⟨⟨n0, ⟨n1, ⟨n2, n3, n4, n5, n6, n7, n8, n9, n10, n11⟩, ⟨n12, n13, n14⟩, ⟨n15, n16, n17⟩⟩, ⟨n18, n19, n20⟩, n21⟩, rfl, ⟨j0, ⟨j1, ⟨j2, j3, j4, j5, j6, j7, j8, j9, j10, j11⟩, ⟨j12, j13, j14⟩, ⟨j15, j16, trivial⟩⟩, ⟨j18, j19, j20⟩, trivial⟩⟩
theorem of_System {ds : List Dat} (h : OkDs tE [.int .i64, .int .i64, .sl 250, .sl 250, .sl 208, .int .i64] ds) : ∃ x : Sy, ds = Sy.e x ∧ Sy.bd x := by
  obtain ⟨_, _, rfl, i0, h⟩ := h.inv
  obtain ⟨_, _, rfl, i1, h⟩ := h.inv
  obtain ⟨_, _, rfl, i2, h⟩ := h.inv
  obtain ⟨_, _, rfl, i3, h⟩ := h.inv
  obtain ⟨_, _, rfl, i4, h⟩ := h.inv
  obtain ⟨_, _, rfl, i5, h⟩ := h.inv
  obtain rfl := h.nil_inv
  obtain ⟨n0, rfl, j0⟩ := i0.i64
  obtain ⟨n1, rfl, j1⟩ := i1.i64
  obtain ⟨n2, rfl, j2⟩ := of_sl (te := ⟨[.int .i64, .int .i64, .int .i64], 24, true, [(0, 3), (1, 3), (2, 3)]⟩) rfl (by decide) of_Client i2
  obtain ⟨n3, rfl, j3⟩ := of_sl (te := ⟨[.int .i64, .int .i64, .int .i64], 24, true, [(0, 3), (1, 3), (2, 3)]⟩) rfl (by decide) of_Client i3
  obtain ⟨n4, rfl, j4⟩ := of_sl (te := ⟨[.int .i64, .int .i64, .sl 120, .int .i64, .sl 120, .sl 120, .sl 120, .sl 287, .int .i64, .int .i64, .int .i64, .int .i64, .sl 290, .int .i64, .int .i64, .sl 293, .int .i64, .bool, .sl 120, .sl 280, .sl 282, .bool], 336, true, [(0, 3), (1, 202), (18, 206), (21, 4)]⟩) rfl (by decide) of_Slot i4
  obtain ⟨n5, rfl, j5⟩ := i5.i64
  exact ⟨⟨⟨n0, n1, n2, n3⟩, n4, n5⟩, rfl, ⟨⟨j0, j1, j2, j3⟩, j4, j5⟩⟩
end Go.Proofs.YtceoogjanfbdcaaGreat.Vai
namespace Go.Proofs.YtceoogjanfbdcaaGreat.Vai
open Go
set_option linter.unusedSimpArgs false
set_option linter.unusedVariables false
set_option linter.unnecessarySimpa false
set_option maxRecDepth 10000
theorem to_Row (x : Rw) : callI tE f_laws_toRow [.int x.k, .int x.v, .int x.w] = some [.int x.k, .int x.v, .int x.w] := by
  simp only [c_laws_toRow, gn_c, gb_c, gs_c, gl_c, tk_s, tk_0, List.drop_succ_cons, List.drop_zero, List.headD_cons, List.getD_cons_zero, List.getD_cons_succ, bind_s]
theorem to_RowS (l : List Rw) (h : l.length ≤ 1048576) : callI tE f_laws_toRowS [.sl (l.map Rw.e)] = some [.sl (l.map Rw.e)] := by
  have hl : l.length ≤ 1048576 := h
  rw [c_laws_toRowS]
  have := to_loop (L := L_laws_toRowS_0) (e := Rw.e) (z := [.int 0, .int 0, .int 0]) (P := fun a => (fun _ => 0) a ≤ 1048576) (fun p q p' q' a _ hpl hlt => by
    rw [L_laws_toRowS_0_eq]
    simp only [lt_mid, in_mid, tn_c, at_mid, cond_true, cond_false, gn_c, gb_c, gs_c, gl_c, tk_s, tk_0, List.drop_succ_cons, List.drop_zero, List.headD_cons, List.getD_cons_zero, List.getD_cons_succ, bind_s, in_mid' hpl, upd_mid' hpl, Rw.e, to_Row a, setRange, List.set_cons_zero, List.set_cons_succ]) (fun p p' hpl => by
    rw [L_laws_toRowS_0_eq, lt_end, cond_false]) l [] [] rfl (fun a ha => Nat.zero_le _) (by simp; omega)
  simp only [List.nil_append, List.length_nil, Int.ofNat_zero, Int.natCast_zero] at this
  rw [le0_len, eqI_self, fitT (by show (l.map Rw.e).length * _ ≤ _; rw [List.length_map]; omega)]
  simp only [Bool.and_self, cond_true]
  rw [show tn (lenI (l.map Rw.e)) = l.length by show (l.map Rw.e).length = _; simp]
  exact this
theorem sz_RowS (l : List Rw) (n : Int) (h0 : 0 ≤ n) (h1 : n ≤ 1048576) (h : BdL Rw.bd l) : callI tE f_laws_szRowS [.sl (l.map Rw.e), .int n] = some [.int (szv n l.length)] := by
  rw [c_laws_szRowS]
  exact sz_flat h0 h1 (by simp) h.1
theorem eq_Row (x y : Rw) : callI tE f_laws_eqRow [.int x.k, .int x.v, .int x.w, .int y.k, .int y.v, .int y.w] = some [.bool (decide (x = y))] := by
  have e : decide (x = y) = (decide (x.k = y.k) && (decide (x.v = y.v) && (decide (x.w = y.w)))) := by
    cases x; cases y
    simp only [Rw.mk.injEq, Bool.decide_and]
  simp only [gn_c, gb_c, gs_c, gl_c, tk_s, tk_0, List.drop_succ_cons, List.drop_zero, List.headD_cons, List.getD_cons_zero, List.getD_cons_succ, bind_s, eqI, eqBo, e, bif_and, Bool.and_true, c_laws_eqRow]
theorem eq_RowS (l l' : List Rw) (h : l.length ≤ 1152921504606846976) : callI tE f_laws_eqRowS [.sl (l.map Rw.e), .sl (l'.map Rw.e)] = some [.bool (decide (l = l'))] := by
  have hl : l.length ≤ 1152921504606846976 := h
  rw [c_laws_eqRowS]
  by_cases hll : l.length = l'.length
  · rw [eq_len hll, Bool.not_true, cond_false]
    have := eq_loop (L := L_laws_eqRowS_0) (e := Rw.e) (P := fun a => (fun _ => 0) a ≤ 1152921504606846976) (fun p q p' q' a b _ hpl hlt => by
      rw [L_laws_eqRowS_0_eq]
      simp only [lt_mid, in_mid, tn_c, at_mid, cond_true, cond_false, gn_c, gb_c, gs_c, gl_c, tk_s, tk_0, List.drop_succ_cons, List.drop_zero, List.headD_cons, List.getD_cons_zero, List.getD_cons_succ, bind_s, in_mid' hpl, at_mid' hpl, Rw.e, eq_Row a b, bifn]) (fun p p' hpl => by
      rw [L_laws_eqRowS_0_eq, lt_end, cond_false]) l l' [] [] rfl hll (fun a ha => Nat.zero_le _) (by simp; omega)
    simpa using this
  · rw [ne_len hll, Bool.not_false, cond_true, decide_eq_false (fun e => hll (by rw [e]))]
theorem to_BoolS (l : List Bool) (h : l.length ≤ 1048576) : callI tE f_laws_toBoolS [.sl (l.map boE)] = some [.sl (l.map boE)] := by
  have hl : l.length ≤ 1048576 := h
  rw [c_laws_toBoolS]
  have := to_loop (L := L_laws_toBoolS_0) (e := boE) (z := [.bool false]) (P := fun a => (fun _ => 0) a ≤ 1048576) (fun p q p' q' a _ hpl hlt => by
    rw [L_laws_toBoolS_0_eq]
    simp only [lt_mid, in_mid, tn_c, at_mid, cond_true, cond_false, gn_c, gb_c, gs_c, gl_c, tk_s, tk_0, List.drop_succ_cons, List.drop_zero, List.headD_cons, List.getD_cons_zero, List.getD_cons_succ, bind_s, in_mid' hpl, upd_mid' hpl, boE, setRange, List.set_cons_zero, List.set_cons_succ]) (fun p p' hpl => by
    rw [L_laws_toBoolS_0_eq, lt_end, cond_false]) l [] [] rfl (fun a ha => Nat.zero_le _) (by simp; omega)
  simp only [List.nil_append, List.length_nil, Int.ofNat_zero, Int.natCast_zero] at this
  rw [le0_len, eqI_self, fitT (by show (l.map boE).length * _ ≤ _; rw [List.length_map]; omega)]
  simp only [Bool.and_self, cond_true]
  rw [show tn (lenI (l.map boE)) = l.length by show (l.map boE).length = _; simp]
  exact this
theorem sz_BoolS (l : List Bool) (n : Int) (h0 : 0 ≤ n) (h1 : n ≤ 1048576) (h : BdL BdT l) : callI tE f_laws_szBoolS [.sl (l.map boE), .int n] = some [.int (szv n l.length)] := by
  rw [c_laws_szBoolS]
  exact sz_flat h0 h1 (by simp) h.1
theorem eq_BoolS (l l' : List Bool) (h : l.length ≤ 1152921504606846976) : callI tE f_laws_eqBoolS [.sl (l.map boE), .sl (l'.map boE)] = some [.bool (decide (l = l'))] := by
  have hl : l.length ≤ 1152921504606846976 := h
  rw [c_laws_eqBoolS]
  by_cases hll : l.length = l'.length
  · rw [eq_len hll, Bool.not_true, cond_false]
    have := eq_loop (L := L_laws_eqBoolS_0) (e := boE) (P := fun a => (fun _ => 0) a ≤ 1152921504606846976) (fun p q p' q' a b _ hpl hlt => by
      rw [L_laws_eqBoolS_0_eq]
      simp only [lt_mid, in_mid, tn_c, at_mid, cond_true, cond_false, gn_c, gb_c, gs_c, gl_c, tk_s, tk_0, List.drop_succ_cons, List.drop_zero, List.headD_cons, List.getD_cons_zero, List.getD_cons_succ, bind_s, in_mid' hpl, at_mid' hpl, boE, eqBo, bifn]) (fun p p' hpl => by
      rw [L_laws_eqBoolS_0_eq, lt_end, cond_false]) l l' [] [] rfl hll (fun a ha => Nat.zero_le _) (by simp; omega)
    simpa using this
  · rw [ne_len hll, Bool.not_false, cond_true, decide_eq_false (fun e => hll (by rw [e]))]
end Go.Proofs.YtceoogjanfbdcaaGreat.Vai
namespace Go.Proofs.YtceoogjanfbdcaaGreat.Vai
open Go
set_option linter.unusedSimpArgs false
set_option linter.unusedVariables false
set_option linter.unnecessarySimpa false
set_option maxRecDepth 10000
theorem to_Run (x : List Rw) (h : x.length ≤ 1048576) : callI tE f_laws_toRun [.sl (x.map Rw.e)] = some [.sl (x.map Rw.e)] := by
  simp only [c_laws_toRun, to_RowS x (by exact h), gn_c, gb_c, gs_c, gl_c, tk_s, tk_0, List.drop_succ_cons, List.drop_zero, List.headD_cons, List.getD_cons_zero, List.getD_cons_succ, bind_s]
theorem to_RunS (l : List (List Rw)) (h : szL List.length l ≤ 1048576) : callI tE f_laws_toRunS [.sl (l.map rsE)] = some [.sl (l.map rsE)] := by
  have hl : l.length ≤ 1048576 := (Nat.le_trans (szL_len _ _) h)
  rw [c_laws_toRunS]
  have := to_loop (L := L_laws_toRunS_0) (e := rsE) (z := [.sl []]) (P := fun a => List.length a ≤ 1048576) (fun p q p' q' a hP hpl hlt => by
    rw [L_laws_toRunS_0_eq]
    simp only [lt_mid, in_mid, tn_c, at_mid, cond_true, cond_false, gn_c, gb_c, gs_c, gl_c, tk_s, tk_0, List.drop_succ_cons, List.drop_zero, List.headD_cons, List.getD_cons_zero, List.getD_cons_succ, bind_s, in_mid' hpl, upd_mid' hpl, rsE, to_Run a hP, setRange, List.set_cons_zero, List.set_cons_succ]) (fun p p' hpl => by
    rw [L_laws_toRunS_0_eq, lt_end, cond_false]) l [] [] rfl (fun a ha => Nat.le_trans (szL_mem ha) h) (by simp; omega)
  simp only [List.nil_append, List.length_nil, Int.ofNat_zero, Int.natCast_zero] at this
  rw [le0_len, eqI_self, fitT (by show (l.map rsE).length * _ ≤ _; rw [List.length_map]; omega)]
  simp only [Bool.and_self, cond_true]
  rw [show tn (lenI (l.map rsE)) = l.length by show (l.map rsE).length = _; simp]
  exact this
theorem sz_Run (x : List Rw) (n : Int) (h0 : 0 ≤ n) (h1 : n ≤ 1048576) (h : rsB x) : callI tE f_laws_szRun [.sl (x.map Rw.e), .int n] = some [.int (szv n (x.length))] := by
  rw [c_laws_szRun]
  have b0 : BdL Rw.bd x := h
  rw [sz_RowS x n (by omega) (by omega) b0]
  simp only [gn_c, gb_c, gs_c, gl_c, tk_s, tk_0, List.drop_succ_cons, List.drop_zero, List.headD_cons, List.getD_cons_zero, List.getD_cons_succ, bind_s]
  exact sz_last (by omega)
theorem sz_RunS (l : List (List Rw)) (n : Int) (h0 : 0 ≤ n) (h1 : n ≤ 1048576) (h : BdL rsB l) : callI tE f_laws_szRunS [.sl (l.map rsE), .int n] = some [.int (szv n (szL List.length l))] := by
  have hl : l.length ≤ 1152921504606846976 := h.1
  rw [c_laws_szRunS, szL_cnt]
  refine sz_len (X := fun m => L_laws_szRunS_0 (l.map rsE) m 0) h0 h1 (List.length_map _) hl fun h2 => ?_
  have := sz_loop (L := L_laws_szRunS_0) (e := rsE) (g := List.length) (P := rsB) (fun p q a n hP h0 h1 hlt => by
    rw [L_laws_szRunS_0_eq]
    simp only [lt_mid, in_mid, tn_c, at_mid, cond_true, cond_false, gn_c, gb_c, gs_c, gl_c, tk_s, tk_0, List.drop_succ_cons, List.drop_zero, List.headD_cons, List.getD_cons_zero, List.getD_cons_succ, bind_s, rsE, sz_Run a n h0 h1 hP]) (fun p n => by
    rw [L_laws_szRunS_0_eq, lt_end, cond_false]) l [] (n - l.length) (fun a ha => h.2 a ha) (by omega) (by omega) (by simp; omega)
  simpa using this
theorem eq_Run (x y : List Rw) (h : x.length ≤ 1152921504606846976) : callI tE f_laws_eqRun [.sl (x.map Rw.e), .sl (y.map Rw.e)] = some [.bool (decide (x = y))] := by
  simp only [c_laws_eqRun, eq_RowS x y h, gn_c, gb_c, gs_c, gl_c, tk_s, tk_0, List.drop_succ_cons, List.drop_zero, List.headD_cons, List.getD_cons_zero, List.getD_cons_succ, bind_s, bif_and, Bool.and_true]
theorem eq_RunS (l l' : List (List Rw)) (h : szL List.length l ≤ 1152921504606846976) : callI tE f_laws_eqRunS [.sl (l.map rsE), .sl (l'.map rsE)] = some [.bool (decide (l = l'))] := by
  have hl : l.length ≤ 1152921504606846976 := (Nat.le_trans (szL_len _ _) h)
  rw [c_laws_eqRunS]
  by_cases hll : l.length = l'.length
  · rw [eq_len hll, Bool.not_true, cond_false]
    have := eq_loop (L := L_laws_eqRunS_0) (e := rsE) (P := fun a => List.length a ≤ 1152921504606846976) (fun p q p' q' a b hP hpl hlt => by
      rw [L_laws_eqRunS_0_eq]
      simp only [lt_mid, in_mid, tn_c, at_mid, cond_true, cond_false, gn_c, gb_c, gs_c, gl_c, tk_s, tk_0, List.drop_succ_cons, List.drop_zero, List.headD_cons, List.getD_cons_zero, List.getD_cons_succ, bind_s, in_mid' hpl, at_mid' hpl, rsE, eq_Run a b hP, bifn]) (fun p p' hpl => by
      rw [L_laws_eqRunS_0_eq, lt_end, cond_false]) l l' [] [] rfl hll (fun a ha => Nat.le_trans (szL_mem ha) h) (by simp; omega)
    simpa using this
  · rw [ne_len hll, Bool.not_false, cond_true, decide_eq_false (fun e => hll (by rw [e]))]
theorem to_Sorter (x : So) (h : x.sz ≤ 1048576) : callI tE f_laws_toSorter [.sl (x.inp.map Rw.e), .int x.pos, .sl (x.heap.map Rw.e), .sl (x.dfd.map Rw.e), .sl (x.out.map Rw.e), .sl (x.runs.map rsE), .int x.lp, .int x.rp, .int x.ph, .int x.wr] = some [.sl (x.inp.map Rw.e), .int x.pos, .sl (x.heap.map Rw.e), .sl (x.dfd.map Rw.e), .sl (x.out.map Rw.e), .sl (x.runs.map rsE), .int x.lp, .int x.rp, .int x.ph, .int x.wr] := by
  simp only [c_laws_toSorter, to_RowS x.inp (by simp only [So.sz] at h; omega), to_RowS x.heap (by simp only [So.sz] at h; omega), to_RowS x.dfd (by simp only [So.sz] at h; omega), to_RowS x.out (by simp only [So.sz] at h; omega), to_RunS x.runs (by simp only [So.sz] at h; omega), gn_c, gb_c, gs_c, gl_c, tk_s, tk_0, List.drop_succ_cons, List.drop_zero, List.headD_cons, List.getD_cons_zero, List.getD_cons_succ, bind_s]
theorem sz_Sorter (x : So) (n : Int) (h0 : 0 ≤ n) (h1 : n ≤ 1048576) (h : x.bd) : callI tE f_laws_szSorter [.sl (x.inp.map Rw.e), .int x.pos, .sl (x.heap.map Rw.e), .sl (x.dfd.map Rw.e), .sl (x.out.map Rw.e), .sl (x.runs.map rsE), .int x.lp, .int x.rp, .int x.ph, .int x.wr, .int n] = some [.int (szv n (x.sz))] := by
  rw [c_laws_szSorter]
  simp only [So.sz]
  obtain ⟨b0, _, b2, b3, b4, b5, _, _, _, _⟩ := h
  rw [sz_RowS x.inp n (by omega) (by omega) b0]
  simp only [gn_c, gb_c, gs_c, gl_c, tk_s, tk_0, List.drop_succ_cons, List.drop_zero, List.headD_cons, List.getD_cons_zero, List.getD_cons_succ, bind_s]
  refine sz_chain (by omega) fun h0 g0 => ?_
  rw [g0]
  rw [sz_RowS x.heap (n - (x.inp.length : Nat)) (by omega) (by omega) b2]
  simp only [gn_c, gb_c, gs_c, gl_c, tk_s, tk_0, List.drop_succ_cons, List.drop_zero, List.headD_cons, List.getD_cons_zero, List.getD_cons_succ, bind_s]
  refine sz_chain (by omega) fun h1 g1 => ?_
  rw [g1]
  rw [sz_RowS x.dfd (n - (x.inp.length : Nat) - (x.heap.length : Nat)) (by omega) (by omega) b3]
  simp only [gn_c, gb_c, gs_c, gl_c, tk_s, tk_0, List.drop_succ_cons, List.drop_zero, List.headD_cons, List.getD_cons_zero, List.getD_cons_succ, bind_s]
  refine sz_chain (by omega) fun h2 g2 => ?_
  rw [g2]
  rw [sz_RowS x.out (n - (x.inp.length : Nat) - (x.heap.length : Nat) - (x.dfd.length : Nat)) (by omega) (by omega) b4]
  simp only [gn_c, gb_c, gs_c, gl_c, tk_s, tk_0, List.drop_succ_cons, List.drop_zero, List.headD_cons, List.getD_cons_zero, List.getD_cons_succ, bind_s]
  refine sz_chain (by omega) fun h3 g3 => ?_
  rw [g3]
  rw [sz_RunS x.runs (n - (x.inp.length : Nat) - (x.heap.length : Nat) - (x.dfd.length : Nat) - (x.out.length : Nat)) (by omega) (by omega) b5]
  simp only [gn_c, gb_c, gs_c, gl_c, tk_s, tk_0, List.drop_succ_cons, List.drop_zero, List.headD_cons, List.getD_cons_zero, List.getD_cons_succ, bind_s]
  exact sz_last (by omega)
theorem eq_Sorter (x y : So) (h : x.sz ≤ 1152921504606846976) : callI tE f_laws_eqSorter [.sl (x.inp.map Rw.e), .int x.pos, .sl (x.heap.map Rw.e), .sl (x.dfd.map Rw.e), .sl (x.out.map Rw.e), .sl (x.runs.map rsE), .int x.lp, .int x.rp, .int x.ph, .int x.wr, .sl (y.inp.map Rw.e), .int y.pos, .sl (y.heap.map Rw.e), .sl (y.dfd.map Rw.e), .sl (y.out.map Rw.e), .sl (y.runs.map rsE), .int y.lp, .int y.rp, .int y.ph, .int y.wr] = some [.bool (decide (x = y))] := by
  have e : decide (x = y) = (decide (x.inp = y.inp) && (decide (x.pos = y.pos) && (decide (x.heap = y.heap) && (decide (x.dfd = y.dfd) && (decide (x.out = y.out) && (decide (x.runs = y.runs) && (decide (x.lp = y.lp) && (decide (x.rp = y.rp) && (decide (x.ph = y.ph) && (decide (x.wr = y.wr))))))))))) := by
    cases x; cases y
    simp only [So.mk.injEq, Bool.decide_and]
  simp only [eq_RowS x.inp y.inp (by simp only [So.sz] at h; omega), eq_RowS x.heap y.heap (by simp only [So.sz] at h; omega), eq_RowS x.dfd y.dfd (by simp only [So.sz] at h; omega), eq_RowS x.out y.out (by simp only [So.sz] at h; omega), eq_RunS x.runs y.runs (by simp only [So.sz] at h; omega), gn_c, gb_c, gs_c, gl_c, tk_s, tk_0, List.drop_succ_cons, List.drop_zero, List.headD_cons, List.getD_cons_zero, List.getD_cons_succ, bind_s, eqI, eqBo, e, bif_and, Bool.and_true, c_laws_eqSorter]
end Go.Proofs.YtceoogjanfbdcaaGreat.Vai
namespace Go.Proofs.YtceoogjanfbdcaaGreat.Vai
open Go
set_option linter.unusedSimpArgs false
set_option linter.unusedVariables false
set_option linter.unnecessarySimpa false
set_option maxRecDepth 10000
theorem to_Pair (x : Pr) : callI tE f_laws_toPair [.int x.l.k, .int x.l.v, .int x.l.w, .int x.r.k, .int x.r.v, .int x.r.w, .bool x.m] = some [.int x.l.k, .int x.l.v, .int x.l.w, .int x.r.k, .int x.r.v, .int x.r.w, .bool x.m] := by
  simp only [c_laws_toPair, to_Row x.l, to_Row x.r, gn_c, gb_c, gs_c, gl_c, tk_s, tk_0, List.drop_succ_cons, List.drop_zero, List.headD_cons, List.getD_cons_zero, List.getD_cons_succ, bind_s]
theorem to_PairS (l : List Pr) (h : l.length ≤ 1048576) : callI tE f_laws_toPairS [.sl (l.map Pr.e)] = some [.sl (l.map Pr.e)] := by
  have hl : l.length ≤ 1048576 := h
  rw [c_laws_toPairS]
  have := to_loop (L := L_laws_toPairS_0) (e := Pr.e) (z := [.int 0, .int 0, .int 0, .int 0, .int 0, .int 0, .bool false]) (P := fun a => (fun _ => 0) a ≤ 1048576) (fun p q p' q' a _ hpl hlt => by
    rw [L_laws_toPairS_0_eq]
    simp only [lt_mid, in_mid, tn_c, at_mid, cond_true, cond_false, gn_c, gb_c, gs_c, gl_c, tk_s, tk_0, List.drop_succ_cons, List.drop_zero, List.headD_cons, List.getD_cons_zero, List.getD_cons_succ, bind_s, in_mid' hpl, upd_mid' hpl, Pr.e, to_Pair a, setRange, List.set_cons_zero, List.set_cons_succ]) (fun p p' hpl => by
    rw [L_laws_toPairS_0_eq, lt_end, cond_false]) l [] [] rfl (fun a ha => Nat.zero_le _) (by simp; omega)
  simp only [List.nil_append, List.length_nil, Int.ofNat_zero, Int.natCast_zero] at this
  rw [le0_len, eqI_self, fitT (by show (l.map Pr.e).length * _ ≤ _; rw [List.length_map]; omega)]
  simp only [Bool.and_self, cond_true]
  rw [show tn (lenI (l.map Pr.e)) = l.length by show (l.map Pr.e).length = _; simp]
  exact this
theorem sz_PairS (l : List Pr) (n : Int) (h0 : 0 ≤ n) (h1 : n ≤ 1048576) (h : BdL Pr.bd l) : callI tE f_laws_szPairS [.sl (l.map Pr.e), .int n] = some [.int (szv n l.length)] := by
  rw [c_laws_szPairS]
  exact sz_flat h0 h1 (by simp) h.1
theorem eq_Pair (x y : Pr) : callI tE f_laws_eqPair [.int x.l.k, .int x.l.v, .int x.l.w, .int x.r.k, .int x.r.v, .int x.r.w, .bool x.m, .int y.l.k, .int y.l.v, .int y.l.w, .int y.r.k, .int y.r.v, .int y.r.w, .bool y.m] = some [.bool (decide (x = y))] := by
  have e : decide (x = y) = (decide (x.l = y.l) && (decide (x.r = y.r) && (decide (x.m = y.m)))) := by
    cases x; cases y
    simp only [Pr.mk.injEq, Bool.decide_and]
  simp only [eq_Row x.l y.l, eq_Row x.r y.r, gn_c, gb_c, gs_c, gl_c, tk_s, tk_0, List.drop_succ_cons, List.drop_zero, List.headD_cons, List.getD_cons_zero, List.getD_cons_succ, bind_s, eqI, eqBo, e, bif_and, Bool.and_true, c_laws_eqPair]
theorem eq_PairS (l l' : List Pr) (h : l.length ≤ 1152921504606846976) : callI tE f_laws_eqPairS [.sl (l.map Pr.e), .sl (l'.map Pr.e)] = some [.bool (decide (l = l'))] := by
  have hl : l.length ≤ 1152921504606846976 := h
  rw [c_laws_eqPairS]
  by_cases hll : l.length = l'.length
  · rw [eq_len hll, Bool.not_true, cond_false]
    have := eq_loop (L := L_laws_eqPairS_0) (e := Pr.e) (P := fun a => (fun _ => 0) a ≤ 1152921504606846976) (fun p q p' q' a b _ hpl hlt => by
      rw [L_laws_eqPairS_0_eq]
      simp only [lt_mid, in_mid, tn_c, at_mid, cond_true, cond_false, gn_c, gb_c, gs_c, gl_c, tk_s, tk_0, List.drop_succ_cons, List.drop_zero, List.headD_cons, List.getD_cons_zero, List.getD_cons_succ, bind_s, in_mid' hpl, at_mid' hpl, Pr.e, eq_Pair a b, bifn]) (fun p p' hpl => by
      rw [L_laws_eqPairS_0_eq, lt_end, cond_false]) l l' [] [] rfl hll (fun a ha => Nat.zero_le _) (by simp; omega)
    simpa using this
  · rw [ne_len hll, Bool.not_false, cond_true, decide_eq_false (fun e => hll (by rw [e]))]
theorem to_Group (x : Gr) : callI tE f_laws_toGroup [.int x.key, .int x.cnt, .int x.sum, .int x.lo, .int x.hi] = some [.int x.key, .int x.cnt, .int x.sum, .int x.lo, .int x.hi] := by
  simp only [c_laws_toGroup, gn_c, gb_c, gs_c, gl_c, tk_s, tk_0, List.drop_succ_cons, List.drop_zero, List.headD_cons, List.getD_cons_zero, List.getD_cons_succ, bind_s]
theorem to_GroupS (l : List Gr) (h : l.length ≤ 1048576) : callI tE f_laws_toGroupS [.sl (l.map Gr.e)] = some [.sl (l.map Gr.e)] := by
  have hl : l.length ≤ 1048576 := h
  rw [c_laws_toGroupS]
  have := to_loop (L := L_laws_toGroupS_0) (e := Gr.e) (z := [.int 0, .int 0, .int 0, .int 0, .int 0]) (P := fun a => (fun _ => 0) a ≤ 1048576) (fun p q p' q' a _ hpl hlt => by
    rw [L_laws_toGroupS_0_eq]
    simp only [lt_mid, in_mid, tn_c, at_mid, cond_true, cond_false, gn_c, gb_c, gs_c, gl_c, tk_s, tk_0, List.drop_succ_cons, List.drop_zero, List.headD_cons, List.getD_cons_zero, List.getD_cons_succ, bind_s, in_mid' hpl, upd_mid' hpl, Gr.e, to_Group a, setRange, List.set_cons_zero, List.set_cons_succ]) (fun p p' hpl => by
    rw [L_laws_toGroupS_0_eq, lt_end, cond_false]) l [] [] rfl (fun a ha => Nat.zero_le _) (by simp; omega)
  simp only [List.nil_append, List.length_nil, Int.ofNat_zero, Int.natCast_zero] at this
  rw [le0_len, eqI_self, fitT (by show (l.map Gr.e).length * _ ≤ _; rw [List.length_map]; omega)]
  simp only [Bool.and_self, cond_true]
  rw [show tn (lenI (l.map Gr.e)) = l.length by show (l.map Gr.e).length = _; simp]
  exact this
theorem sz_GroupS (l : List Gr) (n : Int) (h0 : 0 ≤ n) (h1 : n ≤ 1048576) (h : BdL Gr.bd l) : callI tE f_laws_szGroupS [.sl (l.map Gr.e), .int n] = some [.int (szv n l.length)] := by
  rw [c_laws_szGroupS]
  exact sz_flat h0 h1 (by simp) h.1
theorem eq_Group (x y : Gr) : callI tE f_laws_eqGroup [.int x.key, .int x.cnt, .int x.sum, .int x.lo, .int x.hi, .int y.key, .int y.cnt, .int y.sum, .int y.lo, .int y.hi] = some [.bool (decide (x = y))] := by
  have e : decide (x = y) = (decide (x.key = y.key) && (decide (x.cnt = y.cnt) && (decide (x.sum = y.sum) && (decide (x.lo = y.lo) && (decide (x.hi = y.hi)))))) := by
    cases x; cases y
    simp only [Gr.mk.injEq, Bool.decide_and]
  simp only [gn_c, gb_c, gs_c, gl_c, tk_s, tk_0, List.drop_succ_cons, List.drop_zero, List.headD_cons, List.getD_cons_zero, List.getD_cons_succ, bind_s, eqI, eqBo, e, bif_and, Bool.and_true, c_laws_eqGroup]
theorem eq_GroupS (l l' : List Gr) (h : l.length ≤ 1152921504606846976) : callI tE f_laws_eqGroupS [.sl (l.map Gr.e), .sl (l'.map Gr.e)] = some [.bool (decide (l = l'))] := by
  have hl : l.length ≤ 1152921504606846976 := h
  rw [c_laws_eqGroupS]
  by_cases hll : l.length = l'.length
  · rw [eq_len hll, Bool.not_true, cond_false]
    have := eq_loop (L := L_laws_eqGroupS_0) (e := Gr.e) (P := fun a => (fun _ => 0) a ≤ 1152921504606846976) (fun p q p' q' a b _ hpl hlt => by
      rw [L_laws_eqGroupS_0_eq]
      simp only [lt_mid, in_mid, tn_c, at_mid, cond_true, cond_false, gn_c, gb_c, gs_c, gl_c, tk_s, tk_0, List.drop_succ_cons, List.drop_zero, List.headD_cons, List.getD_cons_zero, List.getD_cons_succ, bind_s, in_mid' hpl, at_mid' hpl, Gr.e, eq_Group a b, bifn]) (fun p p' hpl => by
      rw [L_laws_eqGroupS_0_eq, lt_end, cond_false]) l l' [] [] rfl hll (fun a ha => Nat.zero_le _) (by simp; omega)
    simpa using this
  · rw [ne_len hll, Bool.not_false, cond_true, decide_eq_false (fun e => hll (by rw [e]))]
theorem to_Task (x : Tk) (h : x.sz ≤ 1048576) : callI tE f_laws_toTask [.int x.kind, .sl (x.left.map Rw.e), .sl (x.right.map Rw.e), .sl (x.mat.map boE), .int x.level] = some [.int x.kind, .sl (x.left.map Rw.e), .sl (x.right.map Rw.e), .sl (x.mat.map boE), .int x.level] := by
  simp only [c_laws_toTask, to_RowS x.left (by simp only [Tk.sz] at h; omega), to_RowS x.right (by simp only [Tk.sz] at h; omega), to_BoolS x.mat (by simp only [Tk.sz] at h; omega), gn_c, gb_c, gs_c, gl_c, tk_s, tk_0, List.drop_succ_cons, List.drop_zero, List.headD_cons, List.getD_cons_zero, List.getD_cons_succ, bind_s]
theorem to_TaskS (l : List Tk) (h : szL Tk.sz l ≤ 1048576) : callI tE f_laws_toTaskS [.sl (l.map Tk.e)] = some [.sl (l.map Tk.e)] := by
  have hl : l.length ≤ 1048576 := (Nat.le_trans (szL_len _ _) h)
  rw [c_laws_toTaskS]
  have := to_loop (L := L_laws_toTaskS_0) (e := Tk.e) (z := [.int 0, .sl [], .sl [], .sl [], .int 0]) (P := fun a => Tk.sz a ≤ 1048576) (fun p q p' q' a hP hpl hlt => by
    rw [L_laws_toTaskS_0_eq]
    simp only [lt_mid, in_mid, tn_c, at_mid, cond_true, cond_false, gn_c, gb_c, gs_c, gl_c, tk_s, tk_0, List.drop_succ_cons, List.drop_zero, List.headD_cons, List.getD_cons_zero, List.getD_cons_succ, bind_s, in_mid' hpl, upd_mid' hpl, Tk.e, to_Task a hP, setRange, List.set_cons_zero, List.set_cons_succ]) (fun p p' hpl => by
    rw [L_laws_toTaskS_0_eq, lt_end, cond_false]) l [] [] rfl (fun a ha => Nat.le_trans (szL_mem ha) h) (by simp; omega)
  simp only [List.nil_append, List.length_nil, Int.ofNat_zero, Int.natCast_zero] at this
  rw [le0_len, eqI_self, fitT (by show (l.map Tk.e).length * _ ≤ _; rw [List.length_map]; omega)]
  simp only [Bool.and_self, cond_true]
  rw [show tn (lenI (l.map Tk.e)) = l.length by show (l.map Tk.e).length = _; simp]
  exact this
theorem sz_Task (x : Tk) (n : Int) (h0 : 0 ≤ n) (h1 : n ≤ 1048576) (h : x.bd) : callI tE f_laws_szTask [.int x.kind, .sl (x.left.map Rw.e), .sl (x.right.map Rw.e), .sl (x.mat.map boE), .int x.level, .int n] = some [.int (szv n (x.sz))] := by
  rw [c_laws_szTask]
  simp only [Tk.sz]
  obtain ⟨_, b1, b2, b3, _⟩ := h
  rw [sz_RowS x.left n (by omega) (by omega) b1]
  simp only [gn_c, gb_c, gs_c, gl_c, tk_s, tk_0, List.drop_succ_cons, List.drop_zero, List.headD_cons, List.getD_cons_zero, List.getD_cons_succ, bind_s]
  refine sz_chain (by omega) fun h0 g0 => ?_
  rw [g0]
  rw [sz_RowS x.right (n - (x.left.length : Nat)) (by omega) (by omega) b2]
  simp only [gn_c, gb_c, gs_c, gl_c, tk_s, tk_0, List.drop_succ_cons, List.drop_zero, List.headD_cons, List.getD_cons_zero, List.getD_cons_succ, bind_s]
  refine sz_chain (by omega) fun h1 g1 => ?_
  rw [g1]
  rw [sz_BoolS x.mat (n - (x.left.length : Nat) - (x.right.length : Nat)) (by omega) (by omega) b3]
  simp only [gn_c, gb_c, gs_c, gl_c, tk_s, tk_0, List.drop_succ_cons, List.drop_zero, List.headD_cons, List.getD_cons_zero, List.getD_cons_succ, bind_s]
  exact sz_last (by omega)
theorem sz_TaskS (l : List Tk) (n : Int) (h0 : 0 ≤ n) (h1 : n ≤ 1048576) (h : BdL Tk.bd l) : callI tE f_laws_szTaskS [.sl (l.map Tk.e), .int n] = some [.int (szv n (szL Tk.sz l))] := by
  have hl : l.length ≤ 1152921504606846976 := h.1
  rw [c_laws_szTaskS, szL_cnt]
  refine sz_len (X := fun m => L_laws_szTaskS_0 (l.map Tk.e) m 0) h0 h1 (List.length_map _) hl fun h2 => ?_
  have := sz_loop (L := L_laws_szTaskS_0) (e := Tk.e) (g := Tk.sz) (P := Tk.bd) (fun p q a n hP h0 h1 hlt => by
    rw [L_laws_szTaskS_0_eq]
    simp only [lt_mid, in_mid, tn_c, at_mid, cond_true, cond_false, gn_c, gb_c, gs_c, gl_c, tk_s, tk_0, List.drop_succ_cons, List.drop_zero, List.headD_cons, List.getD_cons_zero, List.getD_cons_succ, bind_s, Tk.e, sz_Task a n h0 h1 hP]) (fun p n => by
    rw [L_laws_szTaskS_0_eq, lt_end, cond_false]) l [] (n - l.length) (fun a ha => h.2 a ha) (by omega) (by omega) (by simp; omega)
  simpa using this
theorem eq_Task (x y : Tk) (h : x.sz ≤ 1152921504606846976) : callI tE f_laws_eqTask [.int x.kind, .sl (x.left.map Rw.e), .sl (x.right.map Rw.e), .sl (x.mat.map boE), .int x.level, .int y.kind, .sl (y.left.map Rw.e), .sl (y.right.map Rw.e), .sl (y.mat.map boE), .int y.level] = some [.bool (decide (x = y))] := by
  have e : decide (x = y) = (decide (x.kind = y.kind) && (decide (x.left = y.left) && (decide (x.right = y.right) && (decide (x.mat = y.mat) && (decide (x.level = y.level)))))) := by
    cases x; cases y
    simp only [Tk.mk.injEq, Bool.decide_and]
  simp only [eq_RowS x.left y.left (by simp only [Tk.sz] at h; omega), eq_RowS x.right y.right (by simp only [Tk.sz] at h; omega), eq_BoolS x.mat y.mat (by simp only [Tk.sz] at h; omega), gn_c, gb_c, gs_c, gl_c, tk_s, tk_0, List.drop_succ_cons, List.drop_zero, List.headD_cons, List.getD_cons_zero, List.getD_cons_succ, bind_s, eqI, eqBo, e, bif_and, Bool.and_true, c_laws_eqTask]
theorem eq_TaskS (l l' : List Tk) (h : szL Tk.sz l ≤ 1152921504606846976) : callI tE f_laws_eqTaskS [.sl (l.map Tk.e), .sl (l'.map Tk.e)] = some [.bool (decide (l = l'))] := by
  have hl : l.length ≤ 1152921504606846976 := (Nat.le_trans (szL_len _ _) h)
  rw [c_laws_eqTaskS]
  by_cases hll : l.length = l'.length
  · rw [eq_len hll, Bool.not_true, cond_false]
    have := eq_loop (L := L_laws_eqTaskS_0) (e := Tk.e) (P := fun a => Tk.sz a ≤ 1152921504606846976) (fun p q p' q' a b hP hpl hlt => by
      rw [L_laws_eqTaskS_0_eq]
      simp only [lt_mid, in_mid, tn_c, at_mid, cond_true, cond_false, gn_c, gb_c, gs_c, gl_c, tk_s, tk_0, List.drop_succ_cons, List.drop_zero, List.headD_cons, List.getD_cons_zero, List.getD_cons_succ, bind_s, in_mid' hpl, at_mid' hpl, Tk.e, eq_Task a b hP, bifn]) (fun p p' hpl => by
      rw [L_laws_eqTaskS_0_eq, lt_end, cond_false]) l l' [] [] rfl hll (fun a ha => Nat.le_trans (szL_mem ha) h) (by simp; omega)
    simpa using this
  · rw [ne_len hll, Bool.not_false, cond_true, decide_eq_false (fun e => hll (by rw [e]))]
theorem to_GroupTask (x : Gt) (h : x.sz ≤ 1048576) : callI tE f_laws_toGroupTask [.sl (x.rows.map Rw.e), .int x.level] = some [.sl (x.rows.map Rw.e), .int x.level] := by
  simp only [c_laws_toGroupTask, to_RowS x.rows (by simp only [Gt.sz] at h; omega), gn_c, gb_c, gs_c, gl_c, tk_s, tk_0, List.drop_succ_cons, List.drop_zero, List.headD_cons, List.getD_cons_zero, List.getD_cons_succ, bind_s]
theorem to_GroupTaskS (l : List Gt) (h : szL Gt.sz l ≤ 1048576) : callI tE f_laws_toGroupTaskS [.sl (l.map Gt.e)] = some [.sl (l.map Gt.e)] := by
  have hl : l.length ≤ 1048576 := (Nat.le_trans (szL_len _ _) h)
  rw [c_laws_toGroupTaskS]
  have := to_loop (L := L_laws_toGroupTaskS_0) (e := Gt.e) (z := [.sl [], .int 0]) (P := fun a => Gt.sz a ≤ 1048576) (fun p q p' q' a hP hpl hlt => by
    rw [L_laws_toGroupTaskS_0_eq]
    simp only [lt_mid, in_mid, tn_c, at_mid, cond_true, cond_false, gn_c, gb_c, gs_c, gl_c, tk_s, tk_0, List.drop_succ_cons, List.drop_zero, List.headD_cons, List.getD_cons_zero, List.getD_cons_succ, bind_s, in_mid' hpl, upd_mid' hpl, Gt.e, to_GroupTask a hP, setRange, List.set_cons_zero, List.set_cons_succ]) (fun p p' hpl => by
    rw [L_laws_toGroupTaskS_0_eq, lt_end, cond_false]) l [] [] rfl (fun a ha => Nat.le_trans (szL_mem ha) h) (by simp; omega)
  simp only [List.nil_append, List.length_nil, Int.ofNat_zero, Int.natCast_zero] at this
  rw [le0_len, eqI_self, fitT (by show (l.map Gt.e).length * _ ≤ _; rw [List.length_map]; omega)]
  simp only [Bool.and_self, cond_true]
  rw [show tn (lenI (l.map Gt.e)) = l.length by show (l.map Gt.e).length = _; simp]
  exact this
theorem sz_GroupTask (x : Gt) (n : Int) (h0 : 0 ≤ n) (h1 : n ≤ 1048576) (h : x.bd) : callI tE f_laws_szGroupTask [.sl (x.rows.map Rw.e), .int x.level, .int n] = some [.int (szv n (x.sz))] := by
  rw [c_laws_szGroupTask]
  simp only [Gt.sz]
  obtain ⟨b0, _⟩ := h
  rw [sz_RowS x.rows n (by omega) (by omega) b0]
  simp only [gn_c, gb_c, gs_c, gl_c, tk_s, tk_0, List.drop_succ_cons, List.drop_zero, List.headD_cons, List.getD_cons_zero, List.getD_cons_succ, bind_s]
  exact sz_last (by omega)
theorem sz_GroupTaskS (l : List Gt) (n : Int) (h0 : 0 ≤ n) (h1 : n ≤ 1048576) (h : BdL Gt.bd l) : callI tE f_laws_szGroupTaskS [.sl (l.map Gt.e), .int n] = some [.int (szv n (szL Gt.sz l))] := by
  have hl : l.length ≤ 1152921504606846976 := h.1
  rw [c_laws_szGroupTaskS, szL_cnt]
  refine sz_len (X := fun m => L_laws_szGroupTaskS_0 (l.map Gt.e) m 0) h0 h1 (List.length_map _) hl fun h2 => ?_
  have := sz_loop (L := L_laws_szGroupTaskS_0) (e := Gt.e) (g := Gt.sz) (P := Gt.bd) (fun p q a n hP h0 h1 hlt => by
    rw [L_laws_szGroupTaskS_0_eq]
    simp only [lt_mid, in_mid, tn_c, at_mid, cond_true, cond_false, gn_c, gb_c, gs_c, gl_c, tk_s, tk_0, List.drop_succ_cons, List.drop_zero, List.headD_cons, List.getD_cons_zero, List.getD_cons_succ, bind_s, Gt.e, sz_GroupTask a n h0 h1 hP]) (fun p n => by
    rw [L_laws_szGroupTaskS_0_eq, lt_end, cond_false]) l [] (n - l.length) (fun a ha => h.2 a ha) (by omega) (by omega) (by simp; omega)
  simpa using this
theorem eq_GroupTask (x y : Gt) (h : x.sz ≤ 1152921504606846976) : callI tE f_laws_eqGroupTask [.sl (x.rows.map Rw.e), .int x.level, .sl (y.rows.map Rw.e), .int y.level] = some [.bool (decide (x = y))] := by
  have e : decide (x = y) = (decide (x.rows = y.rows) && (decide (x.level = y.level))) := by
    cases x; cases y
    simp only [Gt.mk.injEq, Bool.decide_and]
  simp only [eq_RowS x.rows y.rows (by simp only [Gt.sz] at h; omega), gn_c, gb_c, gs_c, gl_c, tk_s, tk_0, List.drop_succ_cons, List.drop_zero, List.headD_cons, List.getD_cons_zero, List.getD_cons_succ, bind_s, eqI, eqBo, e, bif_and, Bool.and_true, c_laws_eqGroupTask]
theorem eq_GroupTaskS (l l' : List Gt) (h : szL Gt.sz l ≤ 1152921504606846976) : callI tE f_laws_eqGroupTaskS [.sl (l.map Gt.e), .sl (l'.map Gt.e)] = some [.bool (decide (l = l'))] := by
  have hl : l.length ≤ 1152921504606846976 := (Nat.le_trans (szL_len _ _) h)
  rw [c_laws_eqGroupTaskS]
  by_cases hll : l.length = l'.length
  · rw [eq_len hll, Bool.not_true, cond_false]
    have := eq_loop (L := L_laws_eqGroupTaskS_0) (e := Gt.e) (P := fun a => Gt.sz a ≤ 1152921504606846976) (fun p q p' q' a b hP hpl hlt => by
      rw [L_laws_eqGroupTaskS_0_eq]
      simp only [lt_mid, in_mid, tn_c, at_mid, cond_true, cond_false, gn_c, gb_c, gs_c, gl_c, tk_s, tk_0, List.drop_succ_cons, List.drop_zero, List.headD_cons, List.getD_cons_zero, List.getD_cons_succ, bind_s, in_mid' hpl, at_mid' hpl, Gt.e, eq_GroupTask a b hP, bifn]) (fun p p' hpl => by
      rw [L_laws_eqGroupTaskS_0_eq, lt_end, cond_false]) l l' [] [] rfl hll (fun a ha => Nat.le_trans (szL_mem ha) h) (by simp; omega)
    simpa using this
  · rw [ne_len hll, Bool.not_false, cond_true, decide_eq_false (fun e => hll (by rw [e]))]
theorem to_Joiner (x : Jn) (h : x.sz ≤ 1048576) : callI tE f_laws_toJoiner [.sl (x.pend.map Tk.e), .int x.wr, .int x.parts] = some [.sl (x.pend.map Tk.e), .int x.wr, .int x.parts] := by
  simp only [c_laws_toJoiner, to_TaskS x.pend (by simp only [Jn.sz] at h; omega), gn_c, gb_c, gs_c, gl_c, tk_s, tk_0, List.drop_succ_cons, List.drop_zero, List.headD_cons, List.getD_cons_zero, List.getD_cons_succ, bind_s]
theorem to_Aggregator (x : Ag) (h : x.sz ≤ 1048576) : callI tE f_laws_toAggregator [.sl (x.pend.map Gt.e), .int x.wr, .bool x.early] = some [.sl (x.pend.map Gt.e), .int x.wr, .bool x.early] := by
  simp only [c_laws_toAggregator, to_GroupTaskS x.pend (by simp only [Ag.sz] at h; omega), gn_c, gb_c, gs_c, gl_c, tk_s, tk_0, List.drop_succ_cons, List.drop_zero, List.headD_cons, List.getD_cons_zero, List.getD_cons_succ, bind_s]
theorem to_Op (x : Opr) (h : x.sz ≤ 1048576) : callI tE f_laws_toOp [.int x.kind, .sl (x.so.inp.map Rw.e), .int x.so.pos, .sl (x.so.heap.map Rw.e), .sl (x.so.dfd.map Rw.e), .sl (x.so.out.map Rw.e), .sl (x.so.runs.map rsE), .int x.so.lp, .int x.so.rp, .int x.so.ph, .int x.so.wr, .sl (x.jn.pend.map Tk.e), .int x.jn.wr, .int x.jn.parts, .sl (x.ag.pend.map Gt.e), .int x.ag.wr, .bool x.ag.early] = some [.int x.kind, .sl (x.so.inp.map Rw.e), .int x.so.pos, .sl (x.so.heap.map Rw.e), .sl (x.so.dfd.map Rw.e), .sl (x.so.out.map Rw.e), .sl (x.so.runs.map rsE), .int x.so.lp, .int x.so.rp, .int x.so.ph, .int x.so.wr, .sl (x.jn.pend.map Tk.e), .int x.jn.wr, .int x.jn.parts, .sl (x.ag.pend.map Gt.e), .int x.ag.wr, .bool x.ag.early] := by
  simp only [c_laws_toOp, to_Sorter x.so (by simp only [Opr.sz] at h; omega), to_Joiner x.jn (by simp only [Opr.sz] at h; omega), to_Aggregator x.ag (by simp only [Opr.sz] at h; omega), gn_c, gb_c, gs_c, gl_c, tk_s, tk_0, List.drop_succ_cons, List.drop_zero, List.headD_cons, List.getD_cons_zero, List.getD_cons_succ, bind_s]
theorem to_Output (x : Ou) (h : x.sz ≤ 1048576) : callI tE f_laws_toOutput [.sl (x.rows.map Rw.e), .sl (x.pairs.map Pr.e), .sl (x.groups.map Gr.e)] = some [.sl (x.rows.map Rw.e), .sl (x.pairs.map Pr.e), .sl (x.groups.map Gr.e)] := by
  simp only [c_laws_toOutput, to_RowS x.rows (by simp only [Ou.sz] at h; omega), to_PairS x.pairs (by simp only [Ou.sz] at h; omega), to_GroupS x.groups (by simp only [Ou.sz] at h; omega), gn_c, gb_c, gs_c, gl_c, tk_s, tk_0, List.drop_succ_cons, List.drop_zero, List.headD_cons, List.getD_cons_zero, List.getD_cons_succ, bind_s]
theorem sz_Joiner (x : Jn) (n : Int) (h0 : 0 ≤ n) (h1 : n ≤ 1048576) (h : x.bd) : callI tE f_laws_szJoiner [.sl (x.pend.map Tk.e), .int x.wr, .int x.parts, .int n] = some [.int (szv n (x.sz))] := by
  rw [c_laws_szJoiner]
  simp only [Jn.sz]
  obtain ⟨b0, _, _⟩ := h
  rw [sz_TaskS x.pend n (by omega) (by omega) b0]
  simp only [gn_c, gb_c, gs_c, gl_c, tk_s, tk_0, List.drop_succ_cons, List.drop_zero, List.headD_cons, List.getD_cons_zero, List.getD_cons_succ, bind_s]
  exact sz_last (by omega)
theorem sz_Aggregator (x : Ag) (n : Int) (h0 : 0 ≤ n) (h1 : n ≤ 1048576) (h : x.bd) : callI tE f_laws_szAggregator [.sl (x.pend.map Gt.e), .int x.wr, .bool x.early, .int n] = some [.int (szv n (x.sz))] := by
  rw [c_laws_szAggregator]
  simp only [Ag.sz]
  obtain ⟨b0, _, _⟩ := h
  rw [sz_GroupTaskS x.pend n (by omega) (by omega) b0]
  simp only [gn_c, gb_c, gs_c, gl_c, tk_s, tk_0, List.drop_succ_cons, List.drop_zero, List.headD_cons, List.getD_cons_zero, List.getD_cons_succ, bind_s]
  exact sz_last (by omega)
theorem sz_Op (x : Opr) (n : Int) (h0 : 0 ≤ n) (h1 : n ≤ 1048576) (h : x.bd) : callI tE f_laws_szOp [.int x.kind, .sl (x.so.inp.map Rw.e), .int x.so.pos, .sl (x.so.heap.map Rw.e), .sl (x.so.dfd.map Rw.e), .sl (x.so.out.map Rw.e), .sl (x.so.runs.map rsE), .int x.so.lp, .int x.so.rp, .int x.so.ph, .int x.so.wr, .sl (x.jn.pend.map Tk.e), .int x.jn.wr, .int x.jn.parts, .sl (x.ag.pend.map Gt.e), .int x.ag.wr, .bool x.ag.early, .int n] = some [.int (szv n (x.sz))] := by
  rw [c_laws_szOp]
  simp only [Opr.sz]
  obtain ⟨_, b1, b2, b3⟩ := h
  rw [sz_Sorter x.so n (by omega) (by omega) b1]
  simp only [gn_c, gb_c, gs_c, gl_c, tk_s, tk_0, List.drop_succ_cons, List.drop_zero, List.headD_cons, List.getD_cons_zero, List.getD_cons_succ, bind_s]
  refine sz_chain (by omega) fun h0 g0 => ?_
  rw [g0]
  rw [sz_Joiner x.jn (n - (x.so.sz : Nat)) (by omega) (by omega) b2]
  simp only [gn_c, gb_c, gs_c, gl_c, tk_s, tk_0, List.drop_succ_cons, List.drop_zero, List.headD_cons, List.getD_cons_zero, List.getD_cons_succ, bind_s]
  refine sz_chain (by omega) fun h1 g1 => ?_
  rw [g1]
  rw [sz_Aggregator x.ag (n - (x.so.sz : Nat) - (x.jn.sz : Nat)) (by omega) (by omega) b3]
  simp only [gn_c, gb_c, gs_c, gl_c, tk_s, tk_0, List.drop_succ_cons, List.drop_zero, List.headD_cons, List.getD_cons_zero, List.getD_cons_succ, bind_s]
  exact sz_last (by omega)
theorem sz_Output (x : Ou) (n : Int) (h0 : 0 ≤ n) (h1 : n ≤ 1048576) (h : x.bd) : callI tE f_laws_szOutput [.sl (x.rows.map Rw.e), .sl (x.pairs.map Pr.e), .sl (x.groups.map Gr.e), .int n] = some [.int (szv n (x.sz))] := by
  rw [c_laws_szOutput]
  simp only [Ou.sz]
  obtain ⟨b0, b1, b2⟩ := h
  rw [sz_RowS x.rows n (by omega) (by omega) b0]
  simp only [gn_c, gb_c, gs_c, gl_c, tk_s, tk_0, List.drop_succ_cons, List.drop_zero, List.headD_cons, List.getD_cons_zero, List.getD_cons_succ, bind_s]
  refine sz_chain (by omega) fun h0 g0 => ?_
  rw [g0]
  rw [sz_PairS x.pairs (n - (x.rows.length : Nat)) (by omega) (by omega) b1]
  simp only [gn_c, gb_c, gs_c, gl_c, tk_s, tk_0, List.drop_succ_cons, List.drop_zero, List.headD_cons, List.getD_cons_zero, List.getD_cons_succ, bind_s]
  refine sz_chain (by omega) fun h1 g1 => ?_
  rw [g1]
  rw [sz_GroupS x.groups (n - (x.rows.length : Nat) - (x.pairs.length : Nat)) (by omega) (by omega) b2]
  simp only [gn_c, gb_c, gs_c, gl_c, tk_s, tk_0, List.drop_succ_cons, List.drop_zero, List.headD_cons, List.getD_cons_zero, List.getD_cons_succ, bind_s]
  exact sz_last (by omega)
theorem eq_Joiner (x y : Jn) (h : x.sz ≤ 1152921504606846976) : callI tE f_laws_eqJoiner [.sl (x.pend.map Tk.e), .int x.wr, .int x.parts, .sl (y.pend.map Tk.e), .int y.wr, .int y.parts] = some [.bool (decide (x = y))] := by
  have e : decide (x = y) = (decide (x.pend = y.pend) && (decide (x.wr = y.wr) && (decide (x.parts = y.parts)))) := by
    cases x; cases y
    simp only [Jn.mk.injEq, Bool.decide_and]
  simp only [eq_TaskS x.pend y.pend (by simp only [Jn.sz] at h; omega), gn_c, gb_c, gs_c, gl_c, tk_s, tk_0, List.drop_succ_cons, List.drop_zero, List.headD_cons, List.getD_cons_zero, List.getD_cons_succ, bind_s, eqI, eqBo, e, bif_and, Bool.and_true, c_laws_eqJoiner]
theorem eq_Aggregator (x y : Ag) (h : x.sz ≤ 1152921504606846976) : callI tE f_laws_eqAggregator [.sl (x.pend.map Gt.e), .int x.wr, .bool x.early, .sl (y.pend.map Gt.e), .int y.wr, .bool y.early] = some [.bool (decide (x = y))] := by
  have e : decide (x = y) = (decide (x.pend = y.pend) && (decide (x.wr = y.wr) && (decide (x.early = y.early)))) := by
    cases x; cases y
    simp only [Ag.mk.injEq, Bool.decide_and]
  simp only [eq_GroupTaskS x.pend y.pend (by simp only [Ag.sz] at h; omega), gn_c, gb_c, gs_c, gl_c, tk_s, tk_0, List.drop_succ_cons, List.drop_zero, List.headD_cons, List.getD_cons_zero, List.getD_cons_succ, bind_s, eqI, eqBo, e, bif_and, Bool.and_true, c_laws_eqAggregator]
theorem eq_Op (x y : Opr) (h : x.sz ≤ 1152921504606846976) : callI tE f_laws_eqOp [.int x.kind, .sl (x.so.inp.map Rw.e), .int x.so.pos, .sl (x.so.heap.map Rw.e), .sl (x.so.dfd.map Rw.e), .sl (x.so.out.map Rw.e), .sl (x.so.runs.map rsE), .int x.so.lp, .int x.so.rp, .int x.so.ph, .int x.so.wr, .sl (x.jn.pend.map Tk.e), .int x.jn.wr, .int x.jn.parts, .sl (x.ag.pend.map Gt.e), .int x.ag.wr, .bool x.ag.early, .int y.kind, .sl (y.so.inp.map Rw.e), .int y.so.pos, .sl (y.so.heap.map Rw.e), .sl (y.so.dfd.map Rw.e), .sl (y.so.out.map Rw.e), .sl (y.so.runs.map rsE), .int y.so.lp, .int y.so.rp, .int y.so.ph, .int y.so.wr, .sl (y.jn.pend.map Tk.e), .int y.jn.wr, .int y.jn.parts, .sl (y.ag.pend.map Gt.e), .int y.ag.wr, .bool y.ag.early] = some [.bool (decide (x = y))] := by
  have e : decide (x = y) = (decide (x.kind = y.kind) && (decide (x.so = y.so) && (decide (x.jn = y.jn) && (decide (x.ag = y.ag))))) := by
    cases x; cases y
    simp only [Opr.mk.injEq, Bool.decide_and]
  simp only [eq_Sorter x.so y.so (by simp only [Opr.sz] at h; omega), eq_Joiner x.jn y.jn (by simp only [Opr.sz] at h; omega), eq_Aggregator x.ag y.ag (by simp only [Opr.sz] at h; omega), gn_c, gb_c, gs_c, gl_c, tk_s, tk_0, List.drop_succ_cons, List.drop_zero, List.headD_cons, List.getD_cons_zero, List.getD_cons_succ, bind_s, eqI, eqBo, e, bif_and, Bool.and_true, c_laws_eqOp]
theorem eq_Output (x y : Ou) (h : x.sz ≤ 1152921504606846976) : callI tE f_laws_eqOutput [.sl (x.rows.map Rw.e), .sl (x.pairs.map Pr.e), .sl (x.groups.map Gr.e), .sl (y.rows.map Rw.e), .sl (y.pairs.map Pr.e), .sl (y.groups.map Gr.e)] = some [.bool (decide (x = y))] := by
  have e : decide (x = y) = (decide (x.rows = y.rows) && (decide (x.pairs = y.pairs) && (decide (x.groups = y.groups)))) := by
    cases x; cases y
    simp only [Ou.mk.injEq, Bool.decide_and]
  simp only [eq_RowS x.rows y.rows (by simp only [Ou.sz] at h; omega), eq_PairS x.pairs y.pairs (by simp only [Ou.sz] at h; omega), eq_GroupS x.groups y.groups (by simp only [Ou.sz] at h; omega), gn_c, gb_c, gs_c, gl_c, tk_s, tk_0, List.drop_succ_cons, List.drop_zero, List.headD_cons, List.getD_cons_zero, List.getD_cons_succ, bind_s, eqI, eqBo, e, bif_and, Bool.and_true, c_laws_eqOutput]
end Go.Proofs.YtceoogjanfbdcaaGreat.Vai
namespace Go.Proofs.YtceoogjanfbdcaaGreat.Vai
open Go
set_option linter.unusedSimpArgs false
set_option linter.unusedVariables false
set_option linter.unnecessarySimpa false
set_option maxRecDepth 10000
theorem to_Client (x : Cl) : callI tE f_laws_toClient [.int x.id, .int x.req, .int x.prio] = some [.int x.id, .int x.req, .int x.prio] := by
  simp only [c_laws_toClient, gn_c, gb_c, gs_c, gl_c, tk_s, tk_0, List.drop_succ_cons, List.drop_zero, List.headD_cons, List.getD_cons_zero, List.getD_cons_succ, bind_s]
theorem to_ClientS (l : List Cl) (h : l.length ≤ 1048576) : callI tE f_laws_toClientS [.sl (l.map Cl.e)] = some [.sl (l.map Cl.e)] := by
  have hl : l.length ≤ 1048576 := h
  rw [c_laws_toClientS]
  have := to_loop (L := L_laws_toClientS_0) (e := Cl.e) (z := [.int 0, .int 0, .int 0]) (P := fun a => (fun _ => 0) a ≤ 1048576) (fun p q p' q' a _ hpl hlt => by
    rw [L_laws_toClientS_0_eq]
    simp only [lt_mid, in_mid, tn_c, at_mid, cond_true, cond_false, gn_c, gb_c, gs_c, gl_c, tk_s, tk_0, List.drop_succ_cons, List.drop_zero, List.headD_cons, List.getD_cons_zero, List.getD_cons_succ, bind_s, in_mid' hpl, upd_mid' hpl, Cl.e, to_Client a, setRange, List.set_cons_zero, List.set_cons_succ]) (fun p p' hpl => by
    rw [L_laws_toClientS_0_eq, lt_end, cond_false]) l [] [] rfl (fun a ha => Nat.zero_le _) (by simp; omega)
  simp only [List.nil_append, List.length_nil, Int.ofNat_zero, Int.natCast_zero] at this
  rw [le0_len, eqI_self, fitT (by show (l.map Cl.e).length * _ ≤ _; rw [List.length_map]; omega)]
  simp only [Bool.and_self, cond_true]
  rw [show tn (lenI (l.map Cl.e)) = l.length by show (l.map Cl.e).length = _; simp]
  exact this
theorem sz_ClientS (l : List Cl) (n : Int) (h0 : 0 ≤ n) (h1 : n ≤ 1048576) (h : BdL Cl.bd l) : callI tE f_laws_szClientS [.sl (l.map Cl.e), .int n] = some [.int (szv n l.length)] := by
  rw [c_laws_szClientS]
  exact sz_flat h0 h1 (by simp) h.1
theorem eq_Client (x y : Cl) : callI tE f_laws_eqClient [.int x.id, .int x.req, .int x.prio, .int y.id, .int y.req, .int y.prio] = some [.bool (decide (x = y))] := by
  have e : decide (x = y) = (decide (x.id = y.id) && (decide (x.req = y.req) && (decide (x.prio = y.prio)))) := by
    cases x; cases y
    simp only [Cl.mk.injEq, Bool.decide_and]
  simp only [gn_c, gb_c, gs_c, gl_c, tk_s, tk_0, List.drop_succ_cons, List.drop_zero, List.headD_cons, List.getD_cons_zero, List.getD_cons_succ, bind_s, eqI, eqBo, e, bif_and, Bool.and_true, c_laws_eqClient]
theorem eq_ClientS (l l' : List Cl) (h : l.length ≤ 1152921504606846976) : callI tE f_laws_eqClientS [.sl (l.map Cl.e), .sl (l'.map Cl.e)] = some [.bool (decide (l = l'))] := by
  have hl : l.length ≤ 1152921504606846976 := h
  rw [c_laws_eqClientS]
  by_cases hll : l.length = l'.length
  · rw [eq_len hll, Bool.not_true, cond_false]
    have := eq_loop (L := L_laws_eqClientS_0) (e := Cl.e) (P := fun a => (fun _ => 0) a ≤ 1152921504606846976) (fun p q p' q' a b _ hpl hlt => by
      rw [L_laws_eqClientS_0_eq]
      simp only [lt_mid, in_mid, tn_c, at_mid, cond_true, cond_false, gn_c, gb_c, gs_c, gl_c, tk_s, tk_0, List.drop_succ_cons, List.drop_zero, List.headD_cons, List.getD_cons_zero, List.getD_cons_succ, bind_s, in_mid' hpl, at_mid' hpl, Cl.e, eq_Client a b, bifn]) (fun p p' hpl => by
      rw [L_laws_eqClientS_0_eq, lt_end, cond_false]) l l' [] [] rfl hll (fun a ha => Nat.zero_le _) (by simp; omega)
    simpa using this
  · rw [ne_len hll, Bool.not_false, cond_true, decide_eq_false (fun e => hll (by rw [e]))]
theorem to_Slot (x : Sl) (h : x.sz ≤ 1048576) : callI tE f_laws_toSlot [.int x.id, .int x.op.kind, .sl (x.op.so.inp.map Rw.e), .int x.op.so.pos, .sl (x.op.so.heap.map Rw.e), .sl (x.op.so.dfd.map Rw.e), .sl (x.op.so.out.map Rw.e), .sl (x.op.so.runs.map rsE), .int x.op.so.lp, .int x.op.so.rp, .int x.op.so.ph, .int x.op.so.wr, .sl (x.op.jn.pend.map Tk.e), .int x.op.jn.wr, .int x.op.jn.parts, .sl (x.op.ag.pend.map Gt.e), .int x.op.ag.wr, .bool x.op.ag.early, .sl (x.out.rows.map Rw.e), .sl (x.out.pairs.map Pr.e), .sl (x.out.groups.map Gr.e), .bool x.done] = some [.int x.id, .int x.op.kind, .sl (x.op.so.inp.map Rw.e), .int x.op.so.pos, .sl (x.op.so.heap.map Rw.e), .sl (x.op.so.dfd.map Rw.e), .sl (x.op.so.out.map Rw.e), .sl (x.op.so.runs.map rsE), .int x.op.so.lp, .int x.op.so.rp, .int x.op.so.ph, .int x.op.so.wr, .sl (x.op.jn.pend.map Tk.e), .int x.op.jn.wr, .int x.op.jn.parts, .sl (x.op.ag.pend.map Gt.e), .int x.op.ag.wr, .bool x.op.ag.early, .sl (x.out.rows.map Rw.e), .sl (x.out.pairs.map Pr.e), .sl (x.out.groups.map Gr.e), .bool x.done] := by
  simp only [c_laws_toSlot, to_Op x.op (by simp only [Sl.sz] at h; omega), to_Output x.out (by simp only [Sl.sz] at h; omega), gn_c, gb_c, gs_c, gl_c, tk_s, tk_0, List.drop_succ_cons, List.drop_zero, List.headD_cons, List.getD_cons_zero, List.getD_cons_succ, bind_s]
theorem to_SlotS (l : List Sl) (h : szL Sl.sz l ≤ 1048576) : callI tE f_laws_toSlotS [.sl (l.map Sl.e)] = some [.sl (l.map Sl.e)] := by
  have hl : l.length ≤ 1048576 := (Nat.le_trans (szL_len _ _) h)
  rw [c_laws_toSlotS]
  have := to_loop (L := L_laws_toSlotS_0) (e := Sl.e) (z := [.int 0, .int 0, .sl [], .int 0, .sl [], .sl [], .sl [], .sl [], .int 0, .int 0, .int 0, .int 0, .sl [], .int 0, .int 0, .sl [], .int 0, .bool false, .sl [], .sl [], .sl [], .bool false]) (P := fun a => Sl.sz a ≤ 1048576) (fun p q p' q' a hP hpl hlt => by
    rw [L_laws_toSlotS_0_eq]
    simp only [lt_mid, in_mid, tn_c, at_mid, cond_true, cond_false, gn_c, gb_c, gs_c, gl_c, tk_s, tk_0, List.drop_succ_cons, List.drop_zero, List.headD_cons, List.getD_cons_zero, List.getD_cons_succ, bind_s, in_mid' hpl, upd_mid' hpl, Sl.e, to_Slot a hP, setRange, List.set_cons_zero, List.set_cons_succ]) (fun p p' hpl => by
    rw [L_laws_toSlotS_0_eq, lt_end, cond_false]) l [] [] rfl (fun a ha => Nat.le_trans (szL_mem ha) h) (by simp; omega)
  simp only [List.nil_append, List.length_nil, Int.ofNat_zero, Int.natCast_zero] at this
  rw [le0_len, eqI_self, fitT (by show (l.map Sl.e).length * _ ≤ _; rw [List.length_map]; omega)]
  simp only [Bool.and_self, cond_true]
  rw [show tn (lenI (l.map Sl.e)) = l.length by show (l.map Sl.e).length = _; simp]
  exact this
theorem sz_Slot (x : Sl) (n : Int) (h0 : 0 ≤ n) (h1 : n ≤ 1048576) (h : x.bd) : callI tE f_laws_szSlot [.int x.id, .int x.op.kind, .sl (x.op.so.inp.map Rw.e), .int x.op.so.pos, .sl (x.op.so.heap.map Rw.e), .sl (x.op.so.dfd.map Rw.e), .sl (x.op.so.out.map Rw.e), .sl (x.op.so.runs.map rsE), .int x.op.so.lp, .int x.op.so.rp, .int x.op.so.ph, .int x.op.so.wr, .sl (x.op.jn.pend.map Tk.e), .int x.op.jn.wr, .int x.op.jn.parts, .sl (x.op.ag.pend.map Gt.e), .int x.op.ag.wr, .bool x.op.ag.early, .sl (x.out.rows.map Rw.e), .sl (x.out.pairs.map Pr.e), .sl (x.out.groups.map Gr.e), .bool x.done, .int n] = some [.int (szv n (x.sz))] := by
  rw [c_laws_szSlot]
  simp only [Sl.sz]
  obtain ⟨_, b1, b2, _⟩ := h
  rw [sz_Op x.op n (by omega) (by omega) b1]
  simp only [gn_c, gb_c, gs_c, gl_c, tk_s, tk_0, List.drop_succ_cons, List.drop_zero, List.headD_cons, List.getD_cons_zero, List.getD_cons_succ, bind_s]
  refine sz_chain (by omega) fun h0 g0 => ?_
  rw [g0]
  rw [sz_Output x.out (n - (x.op.sz : Nat)) (by omega) (by omega) b2]
  simp only [gn_c, gb_c, gs_c, gl_c, tk_s, tk_0, List.drop_succ_cons, List.drop_zero, List.headD_cons, List.getD_cons_zero, List.getD_cons_succ, bind_s]
  exact sz_last (by omega)
theorem sz_SlotS (l : List Sl) (n : Int) (h0 : 0 ≤ n) (h1 : n ≤ 1048576) (h : BdL Sl.bd l) : callI tE f_laws_szSlotS [.sl (l.map Sl.e), .int n] = some [.int (szv n (szL Sl.sz l))] := by
  have hl : l.length ≤ 1152921504606846976 := h.1
  rw [c_laws_szSlotS, szL_cnt]
  refine sz_len (X := fun m => L_laws_szSlotS_0 (l.map Sl.e) m 0) h0 h1 (List.length_map _) hl fun h2 => ?_
  have := sz_loop (L := L_laws_szSlotS_0) (e := Sl.e) (g := Sl.sz) (P := Sl.bd) (fun p q a n hP h0 h1 hlt => by
    rw [L_laws_szSlotS_0_eq]
    simp only [lt_mid, in_mid, tn_c, at_mid, cond_true, cond_false, gn_c, gb_c, gs_c, gl_c, tk_s, tk_0, List.drop_succ_cons, List.drop_zero, List.headD_cons, List.getD_cons_zero, List.getD_cons_succ, bind_s, Sl.e, sz_Slot a n h0 h1 hP]) (fun p n => by
    rw [L_laws_szSlotS_0_eq, lt_end, cond_false]) l [] (n - l.length) (fun a ha => h.2 a ha) (by omega) (by omega) (by simp; omega)
  simpa using this
theorem eq_Slot (x y : Sl) (h : x.sz ≤ 1152921504606846976) : callI tE f_laws_eqSlot [.int x.id, .int x.op.kind, .sl (x.op.so.inp.map Rw.e), .int x.op.so.pos, .sl (x.op.so.heap.map Rw.e), .sl (x.op.so.dfd.map Rw.e), .sl (x.op.so.out.map Rw.e), .sl (x.op.so.runs.map rsE), .int x.op.so.lp, .int x.op.so.rp, .int x.op.so.ph, .int x.op.so.wr, .sl (x.op.jn.pend.map Tk.e), .int x.op.jn.wr, .int x.op.jn.parts, .sl (x.op.ag.pend.map Gt.e), .int x.op.ag.wr, .bool x.op.ag.early, .sl (x.out.rows.map Rw.e), .sl (x.out.pairs.map Pr.e), .sl (x.out.groups.map Gr.e), .bool x.done, .int y.id, .int y.op.kind, .sl (y.op.so.inp.map Rw.e), .int y.op.so.pos, .sl (y.op.so.heap.map Rw.e), .sl (y.op.so.dfd.map Rw.e), .sl (y.op.so.out.map Rw.e), .sl (y.op.so.runs.map rsE), .int y.op.so.lp, .int y.op.so.rp, .int y.op.so.ph, .int y.op.so.wr, .sl (y.op.jn.pend.map Tk.e), .int y.op.jn.wr, .int y.op.jn.parts, .sl (y.op.ag.pend.map Gt.e), .int y.op.ag.wr, .bool y.op.ag.early, .sl (y.out.rows.map Rw.e), .sl (y.out.pairs.map Pr.e), .sl (y.out.groups.map Gr.e), .bool y.done] = some [.bool (decide (x = y))] := by
  have e : decide (x = y) = (decide (x.id = y.id) && (decide (x.op = y.op) && (decide (x.out = y.out) && (decide (x.done = y.done))))) := by
    cases x; cases y
    simp only [Sl.mk.injEq, Bool.decide_and]
  simp only [eq_Op x.op y.op (by simp only [Sl.sz] at h; omega), eq_Output x.out y.out (by simp only [Sl.sz] at h; omega), gn_c, gb_c, gs_c, gl_c, tk_s, tk_0, List.drop_succ_cons, List.drop_zero, List.headD_cons, List.getD_cons_zero, List.getD_cons_succ, bind_s, eqI, eqBo, e, bif_and, Bool.and_true, c_laws_eqSlot]
theorem eq_SlotS (l l' : List Sl) (h : szL Sl.sz l ≤ 1152921504606846976) : callI tE f_laws_eqSlotS [.sl (l.map Sl.e), .sl (l'.map Sl.e)] = some [.bool (decide (l = l'))] := by
  have hl : l.length ≤ 1152921504606846976 := (Nat.le_trans (szL_len _ _) h)
  rw [c_laws_eqSlotS]
  by_cases hll : l.length = l'.length
  · rw [eq_len hll, Bool.not_true, cond_false]
    have := eq_loop (L := L_laws_eqSlotS_0) (e := Sl.e) (P := fun a => Sl.sz a ≤ 1152921504606846976) (fun p q p' q' a b hP hpl hlt => by
      rw [L_laws_eqSlotS_0_eq]
      simp only [lt_mid, in_mid, tn_c, at_mid, cond_true, cond_false, gn_c, gb_c, gs_c, gl_c, tk_s, tk_0, List.drop_succ_cons, List.drop_zero, List.headD_cons, List.getD_cons_zero, List.getD_cons_succ, bind_s, in_mid' hpl, at_mid' hpl, Sl.e, eq_Slot a b hP, bifn]) (fun p p' hpl => by
      rw [L_laws_eqSlotS_0_eq, lt_end, cond_false]) l l' [] [] rfl hll (fun a ha => Nat.le_trans (szL_mem ha) h) (by simp; omega)
    simpa using this
  · rw [ne_len hll, Bool.not_false, cond_true, decide_eq_false (fun e => hll (by rw [e]))]
theorem to_Broker (x : Br) (h : x.sz ≤ 1048576) : callI tE f_laws_toBroker [.int x.pool, .int x.next, .sl (x.act.map Cl.e), .sl (x.wait.map Cl.e)] = some [.int x.pool, .int x.next, .sl (x.act.map Cl.e), .sl (x.wait.map Cl.e)] := by
  simp only [c_laws_toBroker, to_ClientS x.act (by simp only [Br.sz] at h; omega), to_ClientS x.wait (by simp only [Br.sz] at h; omega), gn_c, gb_c, gs_c, gl_c, tk_s, tk_0, List.drop_succ_cons, List.drop_zero, List.headD_cons, List.getD_cons_zero, List.getD_cons_succ, bind_s]
theorem sz_Broker (x : Br) (n : Int) (h0 : 0 ≤ n) (h1 : n ≤ 1048576) (h : x.bd) : callI tE f_laws_szBroker [.int x.pool, .int x.next, .sl (x.act.map Cl.e), .sl (x.wait.map Cl.e), .int n] = some [.int (szv n (x.sz))] := by
  rw [c_laws_szBroker]
  simp only [Br.sz]
  obtain ⟨_, _, b2, b3⟩ := h
  rw [sz_ClientS x.act n (by omega) (by omega) b2]
  simp only [gn_c, gb_c, gs_c, gl_c, tk_s, tk_0, List.drop_succ_cons, List.drop_zero, List.headD_cons, List.getD_cons_zero, List.getD_cons_succ, bind_s]
  refine sz_chain (by omega) fun h0 g0 => ?_
  rw [g0]
  rw [sz_ClientS x.wait (n - (x.act.length : Nat)) (by omega) (by omega) b3]
  simp only [gn_c, gb_c, gs_c, gl_c, tk_s, tk_0, List.drop_succ_cons, List.drop_zero, List.headD_cons, List.getD_cons_zero, List.getD_cons_succ, bind_s]
  exact sz_last (by omega)
theorem eq_Broker (x y : Br) (h : x.sz ≤ 1152921504606846976) : callI tE f_laws_eqBroker [.int x.pool, .int x.next, .sl (x.act.map Cl.e), .sl (x.wait.map Cl.e), .int y.pool, .int y.next, .sl (y.act.map Cl.e), .sl (y.wait.map Cl.e)] = some [.bool (decide (x = y))] := by
  have e : decide (x = y) = (decide (x.pool = y.pool) && (decide (x.next = y.next) && (decide (x.act = y.act) && (decide (x.wait = y.wait))))) := by
    cases x; cases y
    simp only [Br.mk.injEq, Bool.decide_and]
  simp only [eq_ClientS x.act y.act (by simp only [Br.sz] at h; omega), eq_ClientS x.wait y.wait (by simp only [Br.sz] at h; omega), gn_c, gb_c, gs_c, gl_c, tk_s, tk_0, List.drop_succ_cons, List.drop_zero, List.headD_cons, List.getD_cons_zero, List.getD_cons_succ, bind_s, eqI, eqBo, e, bif_and, Bool.and_true, c_laws_eqBroker]
theorem to_System (x : Sy) (h : x.sz ≤ 1048576) : callI tE f_laws_toSystem [.int x.br.pool, .int x.br.next, .sl (x.br.act.map Cl.e), .sl (x.br.wait.map Cl.e), .sl (x.slots.map Sl.e), .int x.round] = some [.int x.br.pool, .int x.br.next, .sl (x.br.act.map Cl.e), .sl (x.br.wait.map Cl.e), .sl (x.slots.map Sl.e), .int x.round] := by
  simp only [c_laws_toSystem, to_Broker x.br (by simp only [Sy.sz] at h; omega), to_SlotS x.slots (by simp only [Sy.sz] at h; omega), gn_c, gb_c, gs_c, gl_c, tk_s, tk_0, List.drop_succ_cons, List.drop_zero, List.headD_cons, List.getD_cons_zero, List.getD_cons_succ, bind_s]
theorem sz_System (x : Sy) (n : Int) (h0 : 0 ≤ n) (h1 : n ≤ 1048576) (h : x.bd) : callI tE f_laws_szSystem [.int x.br.pool, .int x.br.next, .sl (x.br.act.map Cl.e), .sl (x.br.wait.map Cl.e), .sl (x.slots.map Sl.e), .int x.round, .int n] = some [.int (szv n (x.sz))] := by
  rw [c_laws_szSystem]
  simp only [Sy.sz]
  obtain ⟨b0, b1, _⟩ := h
  rw [sz_Broker x.br n (by omega) (by omega) b0]
  simp only [gn_c, gb_c, gs_c, gl_c, tk_s, tk_0, List.drop_succ_cons, List.drop_zero, List.headD_cons, List.getD_cons_zero, List.getD_cons_succ, bind_s]
  refine sz_chain (by omega) fun h0 g0 => ?_
  rw [g0]
  rw [sz_SlotS x.slots (n - (x.br.sz : Nat)) (by omega) (by omega) b1]
  simp only [gn_c, gb_c, gs_c, gl_c, tk_s, tk_0, List.drop_succ_cons, List.drop_zero, List.headD_cons, List.getD_cons_zero, List.getD_cons_succ, bind_s]
  exact sz_last (by omega)
theorem eq_System (x y : Sy) (h : x.sz ≤ 1152921504606846976) : callI tE f_laws_eqSystem [.int x.br.pool, .int x.br.next, .sl (x.br.act.map Cl.e), .sl (x.br.wait.map Cl.e), .sl (x.slots.map Sl.e), .int x.round, .int y.br.pool, .int y.br.next, .sl (y.br.act.map Cl.e), .sl (y.br.wait.map Cl.e), .sl (y.slots.map Sl.e), .int y.round] = some [.bool (decide (x = y))] := by
  have e : decide (x = y) = (decide (x.br = y.br) && (decide (x.slots = y.slots) && (decide (x.round = y.round)))) := by
    cases x; cases y
    simp only [Sy.mk.injEq, Bool.decide_and]
  simp only [eq_Broker x.br y.br (by simp only [Sy.sz] at h; omega), eq_SlotS x.slots y.slots (by simp only [Sy.sz] at h; omega), gn_c, gb_c, gs_c, gl_c, tk_s, tk_0, List.drop_succ_cons, List.drop_zero, List.headD_cons, List.getD_cons_zero, List.getD_cons_succ, bind_s, eqI, eqBo, e, bif_and, Bool.and_true, c_laws_eqSystem]
end Go.Proofs.YtceoogjanfbdcaaGreat.Vai
namespace Go.Proofs.YtceoogjanfbdcaaGreat.Vai
open Go
set_option linter.unusedSimpArgs false
set_option linter.unusedVariables false
set_option linter.unnecessarySimpa false
theorem szv_ok {n : Int} {s : Nat} (h : (s : Int) ≤ n) : szv n s = n - s := if_pos h
theorem szv_no {n : Int} {s : Nat} (h : ¬ (s : Int) ≤ n) : szv n s = -1 := if_neg h
end Go.Proofs.YtceoogjanfbdcaaGreat.Vai
namespace Go.Proofs.YtceoogjanfbdcaaGreat.Vai
open Go
set_option linter.unusedSimpArgs false
set_option linter.unusedVariables false
set_option linter.unnecessarySimpa false
set_option maxRecDepth 100000
theorem c_laws_FnExactRoundBound (a0 : Int) (a1 : Int) (a2 : List (List Dat)) (a3 : List (List Dat)) (a4 : List (List Dat)) (a5 : Int) : callI tE f_laws_FnExactRoundBound [.int a0, .int a1, .sl a2, .sl a3, .sl a4, .int a5] = (((callI tE f_laws_szSystem [(.int a0), (.int a1), (.sl a2), (.sl a3), (.sl a4), (.int a5), (.int 1048576)])).bind (fun r0 => (bif (ltI (gn r0) 0) then (some [(.bool Bool.true)]) else (((callI tE f_laws_toSystem [(.int a0), (.int a1), (.sl a2), (.sl a3), (.sl a4), (.int a5)])).bind (fun r1 => (((callI tE f_spec_RoundBound [(.int (gn r1)), (.int (gn (tk 1 r1))), (.sl (gl (tk 2 r1))), (.sl (gl (tk 3 r1))), (.sl (gl (tk 4 r1))), (.int (gn (tk 5 r1)))])).bind (fun r2 => (((callI tE f_laws_toSystem [(.int a0), (.int a1), (.sl a2), (.sl a3), (.sl a4), (.int a5)])).bind (fun r3 => (((callI tE f_impl_RoundBound [(.int (gn r3)), (.int (gn (tk 1 r3))), (.sl (gl (tk 2 r3))), (.sl (gl (tk 3 r3))), (.sl (gl (tk 4 r3))), (.int (gn (tk 5 r3)))])).bind (fun r4 => (bif (!(eqI (gn r4) (gn r2))) then (some [(.bool Bool.false)]) else (((callI tE f_laws_toSystem [(.int a0), (.int a1), (.sl a2), (.sl a3), (.sl a4), (.int a5)])).bind (fun r5 => (((callI tE f_laws_eqSystem [(.int (gn r3)), (.int (gn (tk 1 r3))), (.sl (gl (tk 2 r3))), (.sl (gl (tk 3 r3))), (.sl (gl (tk 4 r3))), (.int (gn (tk 5 r3))), (.int (gn r5)), (.int (gn (tk 1 r5))), (.sl (gl (tk 2 r5))), (.sl (gl (tk 3 r5))), (.sl (gl (tk 4 r5))), (.int (gn (tk 5 r5)))])).bind (fun r6 => (bif (!(gb r6)) then (some [(.bool Bool.false)]) else (some [(.bool Bool.true)])))))))))))))))))) := (callI_run rfl (by kernel_rfl)).trans (by kernel_rfl)
end Go.Proofs.YtceoogjanfbdcaaGreat.Vai
namespace Go.Proofs.YtceoogjanfbdcaaGreat.Vai
open Go
set_option linter.unusedSimpArgs false
set_option linter.unusedVariables false
set_option linter.unnecessarySimpa false
set_option maxRecDepth 10000
theorem pure_FnExactRoundBound : ∀ ds, OkDs tE [.int .i64, .int .i64, .sl 250, .sl 250, .sl 208, .int .i64] ds → callI tE f_laws_FnExactRoundBound ds = some [.bool true] := by
  intro ds h0
  obtain ⟨_, _, rfl, i0, h1⟩ := OkDs.split (ls1 := [.int .i64, .int .i64, .sl 250, .sl 250, .sl 208, .int .i64]) (ls2 := []) h0
  obtain ⟨x0, rfl, hx0⟩ := of_System i0
  obtain rfl := h1.nil_inv
  simp only [Sy.e, List.cons_append, List.nil_append]
  rw [c_laws_FnExactRoundBound, sz_System x0 1048576 (by omega) (by omega) hx0]
  simp only [gn_c, gb_c, gs_c, gl_c, tk_s, tk_0, List.drop_succ_cons, List.drop_zero, List.headD_cons, List.getD_cons_zero, List.getD_cons_succ, bind_s]
  by_cases hs : (x0.sz : Int) ≤ 1048576
  · have hb2 : x0.B2 := by simp only [Sy.B2]; omega
    rw [szv_ok hs, ltF (by omega), cond_false, to_System x0 (by omega)]
    simp only [gn_c, gb_c, gs_c, gl_c, tk_s, tk_0, List.drop_succ_cons, List.drop_zero, List.headD_cons, List.getD_cons_zero, List.getD_cons_succ, bind_s, sRound x0 hb2, iRound x0 hb2, eq_System x0 x0 (by omega), decide_true, eqBo_self, eqI_self, Bool.not_true, cond_false]
  · rw [szv_no hs]; rfl
end Go.Proofs.YtceoogjanfbdcaaGreat.Vai
