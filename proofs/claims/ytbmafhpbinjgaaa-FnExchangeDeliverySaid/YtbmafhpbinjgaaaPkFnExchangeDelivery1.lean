/- What the law of this claim leans on; no condition. -/
import Derived.Test.YtbmafhpbinjgaaaEnv
import Derived.Test.YtbmafhpbinjgaaaVaiD
namespace Go.Proofs.Ytbmafhpbinjgaaa.Vai
open Go
set_option linter.unusedSimpArgs false
set_option linter.unusedVariables false
set_option linter.unnecessarySimpa false
abbrev f_laws_big : FuncId := 37
abbrev f_spec_l1New : FuncId := 145
abbrev f_spec_l1Byte : FuncId := 246
abbrev f_spec_l1Below : FuncId := 161
abbrev f_spec_l1Once : FuncId := 147
abbrev f_spec_l1PickInt : FuncId := 148
abbrev f_spec_l2Row : FuncId := 162
abbrev f_spec_l2Rows : FuncId := 242
abbrev f_impl_order : FuncId := 243
abbrev f_impl_CompareRows : FuncId := 149
abbrev f_spec_CompareRows : FuncId := 150
abbrev f_spec_SortRows : FuncId := 45
abbrev f_spec_l1In : FuncId := 152
abbrev f_spec_IsValidRow : FuncId := 183
abbrev f_spec_AreValidRows : FuncId := 151
abbrev f_spec_l26Lists : FuncId := 153
abbrev f_spec_NewExchange : FuncId := 47
abbrev f_impl_within : FuncId := 155
abbrev f_impl_IsValidRow : FuncId := 182
abbrev f_impl_allValid : FuncId := 300
abbrev f_impl_AreValidRows : FuncId := 226
abbrev f_impl_senders : FuncId := 154
abbrev f_impl_clone : FuncId := 244
abbrev f_impl_cloneLists : FuncId := 156
abbrev f_slices_insertionSortCmpFunc_Row : FuncId := 329
abbrev f_slices_swapRangeCmpFunc_Row : FuncId := 335
abbrev f_slices_rotateCmpFunc_Row : FuncId := 334
abbrev f_slices_symMergeCmpFunc_Row : FuncId := 330
abbrev f_slices_stableCmpFunc_Row : FuncId := 309
abbrev f_slices_SortStableFunc_Row : FuncId := 245
abbrev f_impl_SortRows : FuncId := 158
abbrev f_impl_together : FuncId := 160
abbrev f_spec_ReceiverFor : FuncId := 102
abbrev f_spec_IsValidExchange : FuncId := 90
abbrev f_spec_l26Copy : FuncId := 163
abbrev f_spec_ReceiveRow : FuncId := 69
abbrev f_impl_ReceiverFor : FuncId := 91
abbrev f_impl_IsValidExchange : FuncId := 89
abbrev f_impl_cloneExchange : FuncId := 164
abbrev f_impl_ReceiveRow : FuncId := 71
abbrev f_spec_SendRow : FuncId := 72
abbrev f_impl_SendRow : FuncId := 73
abbrev f_spec_l26From : FuncId := 184
abbrev f_spec_l26Exch : FuncId := 179
abbrev f_spec_DrawRunExchange : FuncId := 85
abbrev f_impl_RunExchange : FuncId := 86
abbrev f_spec_l26May : FuncId := 180
abbrev f_spec_RunExchange : FuncId := 87
abbrev f_spec_l6Rows : FuncId := 224
abbrev f_spec_l26Same : FuncId := 181
abbrev f_spec_EqualExchanges : FuncId := 88
abbrev f_impl_IsExchangeDone : FuncId := 92
abbrev f_spec_IsExchangeDone : FuncId := 93
abbrev f_spec_EqualBags : FuncId := 94
abbrev f_laws_FnExchangeDelivery : FuncId := 15
end Go.Proofs.Ytbmafhpbinjgaaa.Vai
namespace Go.Proofs.Ytbmafhpbinjgaaa.Vai
open Go
set_option linter.unusedSimpArgs false
set_option linter.unusedVariables false
set_option linter.unnecessarySimpa false
set_option maxRecDepth 100000
theorem c_laws_big (a0 : List (List Dat)) : callI tE f_laws_big [.sl a0] = (some [(.bool (ltI 1048576 (lenI a0)))]) := (callI_run rfl (by kernel_rfl)).trans (by kernel_rfl)
noncomputable def L_spec_l1New_0 (x0 : List (List Dat)) (x1 : Int) (x2 : Int) : Option (List Dat) := loopK tE f_spec_l1New 0 ⟨[(0, (.ro 5 Bool.false x0)), (3, (.i .i64 x1)), (4, (.i .i64 x2))], []⟩
theorem L_spec_l1New_0_eq (x0 : List (List Dat)) (x1 : Int) (x2 : Int) : L_spec_l1New_0 x0 x1 x2 = (bif (ltI x2 (lenI x0)) then (bif (ltI x2 4000) then (bif (inR x2 (lenI x0)) then (L_spec_l1New_0 x0 (Go.bits Go.BinOp.and .i64 (w64 ((w64 ((w64 (x1 * 131)) + (w64 (gn (at' x0 (tn x2)))))) + 7)) 1073741823) (w64 (x2 + 1))) else none) else (some [(.sl x0), (.int 0), (.int x1)])) else (some [(.sl x0), (.int 0), (.int x1)])) := (loopK_run (by kernel_rfl)).trans (by kernel_rfl)
theorem c_spec_l1New (a0 : List (List Dat)) : callI tE f_spec_l1New [.sl a0] = (L_spec_l1New_0 a0 (w64 (10101 + (lenI a0))) 0) := (callI_run rfl (by kernel_rfl)).trans (by kernel_rfl)
theorem c_spec_l1Byte (a0 : List (List Dat)) (a1 : Int) (a2 : Int) : callI tE f_spec_l1Byte [.sl a0, .int a1, .int a2] = (bif (ltI a1 (lenI a0)) then (bif (inR a1 (lenI a0)) then (some [(.int (Go.bits Go.BinOp.and .i64 (w64 ((Go.bits Go.BinOp.and .i64 (Go.bits Go.BinOp.xor .i64 ((w64 ((w64 (a2 * 6364136223846793005)) + 1442695040888963407)) / (Int.pow 2 (ite ((tn 33) ≤ (Go.IntKind.bits .i64)) (tn 33) 64))) ((w64 ((w64 (a2 * 6364136223846793005)) + 1442695040888963407)) / (Int.pow 2 (ite ((tn 45) ≤ (Go.IntKind.bits .i64)) (tn 45) 64)))) 255) + (w64 (gn (at' a0 (tn a1)))))) 255)), (.sl a0), (.int (w64 (a1 + 1))), (.int (w64 ((w64 (a2 * 6364136223846793005)) + 1442695040888963407)))]) else none) else (some [(.int (Go.bits Go.BinOp.and .i64 (Go.bits Go.BinOp.xor .i64 ((w64 ((w64 (a2 * 6364136223846793005)) + 1442695040888963407)) / (Int.pow 2 (ite ((tn 33) ≤ (Go.IntKind.bits .i64)) (tn 33) 64))) ((w64 ((w64 (a2 * 6364136223846793005)) + 1442695040888963407)) / (Int.pow 2 (ite ((tn 45) ≤ (Go.IntKind.bits .i64)) (tn 45) 64)))) 255)), (.sl a0), (.int a1), (.int (w64 ((w64 (a2 * 6364136223846793005)) + 1442695040888963407)))])) := (callI_run rfl (by kernel_rfl)).trans (by kernel_rfl)
theorem c_spec_l1Below (a0 : List (List Dat)) (a1 : Int) (a2 : Int) (a3 : Int) : callI tE f_spec_l1Below [.sl a0, .int a1, .int a2, .int a3] = (bif (leI a3 0) then (some [(.int 0), (.sl a0), (.int a1), (.int a2)]) else (bif (leI a3 256) then (((callI tE f_spec_l1Byte [(.sl a0), (.int a1), (.int a2)])).bind (fun r0 => (bif (!(eqI a3 0)) then (some [(.int (Int.tmod (gn r0) a3)), (.sl (gl (List.drop 1 r0))), (.int (gn (tk 1 (List.drop 1 r0)))), (.int (gn (tk 2 (List.drop 1 r0))))]) else none))) else (((callI tE f_spec_l1Byte [(.sl a0), (.int a1), (.int a2)])).bind (fun r0 => (((callI tE f_spec_l1Byte [(.sl (gl (List.drop 1 r0))), (.int (gn (tk 1 (List.drop 1 r0)))), (.int (gn (tk 2 (List.drop 1 r0))))])).bind (fun r1 => (((callI tE f_spec_l1Byte [(.sl (gl (List.drop 1 r1))), (.int (gn (tk 1 (List.drop 1 r1)))), (.int (gn (tk 2 (List.drop 1 r1))))])).bind (fun r2 => (((callI tE f_spec_l1Byte [(.sl (gl (List.drop 1 r2))), (.int (gn (tk 1 (List.drop 1 r2)))), (.int (gn (tk 2 (List.drop 1 r2))))])).bind (fun r3 => (bif (!(eqI a3 0)) then (some [(.int (Int.tmod (w64 ((w64 ((w64 ((w64 ((gn r0) * 16777216)) + (w64 ((gn r1) * 65536)))) + (w64 ((gn r2) * 256)))) + (gn r3))) a3)), (.sl (gl (List.drop 1 r3))), (.int (gn (tk 1 (List.drop 1 r3)))), (.int (gn (tk 2 (List.drop 1 r3))))]) else none))))))))))) := (callI_run rfl (by kernel_rfl)).trans (by kernel_rfl)
theorem c_spec_l1Once (a0 : List (List Dat)) (a1 : Int) (a2 : Int) (a3 : Int) : callI tE f_spec_l1Once [.sl a0, .int a1, .int a2, .int a3] = (((callI tE f_spec_l1Below [(.sl a0), (.int a1), (.int a2), (.int a3)])).bind (fun r0 => (some [(.bool (eqI (gn r0) 0)), (.sl (gl (List.drop 1 r0))), (.int (gn (tk 1 (List.drop 1 r0)))), (.int (gn (tk 2 (List.drop 1 r0))))]))) := (callI_run rfl (by kernel_rfl)).trans (by kernel_rfl)
theorem c_spec_l1PickInt (a0 : List (List Dat)) (a1 : Int) (a2 : Int) (a3 : List (List Dat)) : callI tE f_spec_l1PickInt [.sl a0, .int a1, .int a2, .sl a3] = (((callI tE f_spec_l1Below [(.sl a0), (.int a1), (.int a2), (.int (lenI a3))])).bind (fun r0 => (bif (inR (gn r0) (lenI a3)) then (some [(.int (gn (at' a3 (tn (gn r0))))), (.sl (gl (List.drop 1 r0))), (.int (gn (tk 1 (List.drop 1 r0)))), (.int (gn (tk 2 (List.drop 1 r0))))]) else none))) := (callI_run rfl (by kernel_rfl)).trans (by kernel_rfl)
theorem c_spec_l2Row (a0 : List (List Dat)) (a1 : Int) (a2 : Int) (a3 : Int) : callI tE f_spec_l2Row [.sl a0, .int a1, .int a2, .int a3] = (((callI tE f_spec_l1Below [(.sl a0), (.int a1), (.int a2), (.int a3)])).bind (fun r0 => (((callI tE f_spec_l1Below [(.sl (gl (List.drop 1 r0))), (.int (gn (tk 1 (List.drop 1 r0)))), (.int (gn (tk 2 (List.drop 1 r0)))), (.int 100)])).bind (fun r1 => (((callI tE f_spec_l1PickInt [(.sl (gl (List.drop 1 r1))), (.int (gn (tk 1 (List.drop 1 r1)))), (.int (gn (tk 2 (List.drop 1 r1)))), (.sl [[(.int 0)], [(.int 0)], [(.int 1)], [(.int 2)], [(.int 3)]])])).bind (fun r2 => (some [(.int (gn r0)), (.int (gn r1)), (.int (gn r2)), (.sl (gl (List.drop 1 r2))), (.int (gn (tk 1 (List.drop 1 r2)))), (.int (gn (tk 2 (List.drop 1 r2))))]))))))) := (callI_run rfl (by kernel_rfl)).trans (by kernel_rfl)
noncomputable def L_spec_l2Rows_0 (x0 : Int) (x1 : Int) (x2 : Int) (x3 : List (List Dat)) (x4 : Int) (x5 : Int) (x6 : List (List Dat)) : Option (List Dat) := loopK tE f_spec_l2Rows 0 ⟨[(0, (.ptr (1000000, 0) x0 0)), (5, (.own (500001, 0))), (6, (.i .i64 x1)), (7, (.i .i64 x2))], [((1000000, 0), (.box 257 [(.ro 5 Bool.false x3), (.i .i64 x4), (.i .i64 x5)])), ((500001, 0), (.row 43 x6 Bool.true 0 []))]⟩
theorem L_spec_l2Rows_0_eq (x0 : Int) (x1 : Int) (x2 : Int) (x3 : List (List Dat)) (x4 : Int) (x5 : Int) (x6 : List (List Dat)) : L_spec_l2Rows_0 x0 x1 x2 x3 x4 x5 x6 = (bif (ltI 0 x2) then (((callI tE f_spec_l2Row [(.sl x3), (.int x4), (.int x5), (.int x1)])).bind (fun r0 => (bif (fitM (Nat.succ (len x6)) 24) then (L_spec_l2Rows_0 x0 x1 (w64 (x2 - 1)) (gl (List.drop 3 r0)) (gn (tk 1 (List.drop 3 r0))) (gn (tk 2 (List.drop 3 r0))) (List.append x6 [[(.int (gn r0)), (.int (gn (tk 1 r0))), (.int (gn (tk 2 r0)))]])) else none))) else (some [(.sl x6), (.sl x3), (.int x4), (.int x5)])) := (loopK_run (by kernel_rfl)).trans (by kernel_rfl)
theorem c_spec_l2Rows (a0 : List (List Dat)) (a1 : Int) (a2 : Int) (a3 : Int) : callI tE f_spec_l2Rows [.sl a0, .int a1, .int a2, .int a3] = (((callI tE f_spec_l1PickInt [(.sl a0), (.int a1), (.int a2), (.sl [[(.int 1)], [(.int 2)], [(.int 4)], [(.int 10)]])])).bind (fun r0 => (((callI tE f_spec_l1Below [(.sl (gl (List.drop 1 r0))), (.int (gn (tk 1 (List.drop 1 r0)))), (.int (gn (tk 2 (List.drop 1 r0)))), (.int (w64 (a3 + 1)))])).bind (fun r1 => (L_spec_l2Rows_0 0 (gn r0) (gn r1) (gl (List.drop 1 r1)) (gn (tk 1 (List.drop 1 r1))) (gn (tk 2 (List.drop 1 r1))) []))))) := (callI_run rfl (by kernel_rfl)).trans (by kernel_rfl)
noncomputable def L_spec_l26From_0 (x0 : Int) (x1 : Int) (x2 : List (List Dat)) (x3 : Int) (x4 : Int) (x5 : List (List Dat)) : Option (List Dat) := loopK tE f_spec_l26From 0 ⟨[(0, (.ptr (1000000, 0) x0 0)), (3, (.own (500001, 0))), (4, (.i .i64 x1))], [((1000000, 0), (.box 257 [(.ro 5 Bool.false x2), (.i .i64 x3), (.i .i64 x4)])), ((500001, 0), (.row 34 x5 Bool.true 0 []))]⟩
theorem L_spec_l26From_0_eq (x0 : Int) (x1 : Int) (x2 : List (List Dat)) (x3 : Int) (x4 : Int) (x5 : List (List Dat)) : L_spec_l26From_0 x0 x1 x2 x3 x4 x5 = (bif (ltI 0 x1) then (((callI tE f_spec_l2Rows [(.sl x2), (.int x3), (.int x4), (.int 5)])).bind (fun r0 => (bif (fitM (Nat.succ (len x5)) 24) then (L_spec_l26From_0 x0 (w64 (x1 - 1)) (gl (List.drop 1 r0)) (gn (tk 1 (List.drop 1 r0))) (gn (tk 2 (List.drop 1 r0))) (List.append x5 [[(.sl (gl r0))]])) else none))) else (some [(.sl x5), (.sl x2), (.int x3), (.int x4)])) := (loopK_run (by kernel_rfl)).trans (by kernel_rfl)
theorem c_spec_l26From (a0 : List (List Dat)) (a1 : Int) (a2 : Int) : callI tE f_spec_l26From [.sl a0, .int a1, .int a2] = (((callI tE f_spec_l1Below [(.sl a0), (.int a1), (.int a2), (.int 3)])).bind (fun r0 => (L_spec_l26From_0 0 (w64 (1 + (gn r0))) (gl (List.drop 1 r0)) (gn (tk 1 (List.drop 1 r0))) (gn (tk 2 (List.drop 1 r0))) []))) := (callI_run rfl (by kernel_rfl)).trans (by kernel_rfl)
noncomputable def L_spec_l26Exch_0 (x0 : Int) (x1 : Int) (x2 : Int) (x3 : Int) (x4 : List (List Dat)) (x5 : Int) (x6 : Int) (x7 : Int) (x8 : Int) (x9 : List (List Dat)) (x10 : List (List Dat)) (x11 : List (List Dat)) (x12 : List (List Dat)) (x13 : List (List Dat)) (x14 : List (List Dat)) : Option (List Dat) := loopK tE f_spec_l26Exch 0 ⟨[(0, (.ptr (1000000, 0) x0 0)), (2, (.ptr (500001, 0) x1 0)), (3, (.ptr (500002, 0) x2 0)), (5, (.i .i64 x3))], [((1000000, 0), (.box 257 [(.ro 5 Bool.false x4), (.i .i64 x5), (.i .i64 x6)])), ((500001, 0), (.box 49 [(.own (500003, 0)), (.own (500004, 0)), (.own (500005, 0)), (.i .i64 x7)])), ((500002, 0), (.box 49 [(.own (500006, 0)), (.own (500007, 0)), (.own (500008, 0)), (.i .i64 x8)])), ((500003, 0), (.row 34 x9 Bool.true 0 [])), ((500004, 0), (.row 34 x10 Bool.true 0 [])), ((500005, 0), (.row 34 x11 Bool.true 0 [])), ((500006, 0), (.row 34 x12 Bool.true 0 [])), ((500007, 0), (.row 34 x13 Bool.true 0 [])), ((500008, 0), (.row 34 x14 Bool.true 0 []))]⟩
theorem L_spec_l26Exch_0_eq (x0 : Int) (x1 : Int) (x2 : Int) (x3 : Int) (x4 : List (List Dat)) (x5 : Int) (x6 : Int) (x7 : Int) (x8 : Int) (x9 : List (List Dat)) (x10 : List (List Dat)) (x11 : List (List Dat)) (x12 : List (List Dat)) (x13 : List (List Dat)) (x14 : List (List Dat)) : L_spec_l26Exch_0 x0 x1 x2 x3 x4 x5 x6 x7 x8 x9 x10 x11 x12 x13 x14 = (bif (ltI 0 x3) then (((callI tE f_spec_l1Once [(.sl x4), (.int x5), (.int x6), (.int 2)])).bind (fun r0 => (bif (gb r0) then (((callI tE f_spec_l1Below [(.sl (gl (List.drop 1 r0))), (.int (gn (tk 1 (List.drop 1 r0)))), (.int (gn (tk 2 (List.drop 1 r0)))), (.int 3)])).bind (fun r1 => (((callI tE f_spec_SendRow [(.sl x12), (.sl x13), (.sl x14), (.int x8), (.int (gn r1))])).bind (fun r2 => (L_spec_l26Exch_0 x0 x1 x2 (w64 (x3 - 1)) (gl (List.drop 1 r1)) (gn (tk 1 (List.drop 1 r1))) (gn (tk 2 (List.drop 1 r1))) x7 (gn (tk 3 r2)) x9 x10 x11 (gl r2) (gl (tk 1 r2)) (gl (tk 2 r2))))))) else (((callI tE f_spec_l1Below [(.sl (gl (List.drop 1 r0))), (.int (gn (tk 1 (List.drop 1 r0)))), (.int (gn (tk 2 (List.drop 1 r0)))), (.int 3)])).bind (fun r1 => (((callI tE f_spec_ReceiveRow [(.sl x12), (.sl x13), (.sl x14), (.int x8), (.int (gn r1))])).bind (fun r2 => (L_spec_l26Exch_0 x0 x1 x2 (w64 (x3 - 1)) (gl (List.drop 1 r1)) (gn (tk 1 (List.drop 1 r1))) (gn (tk 2 (List.drop 1 r1))) x7 (gn (tk 3 r2)) x9 x10 x11 (gl r2) (gl (tk 1 r2)) (gl (tk 2 r2)))))))))) else (((callI tE f_spec_l1Below [(.sl x4), (.int x5), (.int x6), (.int 14)])).bind (fun r0 => (bif (eqI (gn r0) 0) then (((callI tE f_spec_l1PickInt [(.sl (gl (List.drop 1 r0))), (.int (gn (tk 1 (List.drop 1 r0)))), (.int (gn (tk 2 (List.drop 1 r0)))), (.sl [[(.int 0)], [(.int 10)]])])).bind (fun r1 => (some [(.sl x12), (.sl x13), (.sl x14), (.int (gn r1)), (.sl (gl (List.drop 1 r1))), (.int (gn (tk 1 (List.drop 1 r1)))), (.int (gn (tk 2 (List.drop 1 r1))))]))) else (bif (eqI (gn r0) 1) then (bif (inR 0 (lenI x13)) then (((callI tE f_spec_l2Row [(.sl (gl (List.drop 1 r0))), (.int (gn (tk 1 (List.drop 1 r0)))), (.int (gn (tk 2 (List.drop 1 r0)))), (.int 10)])).bind (fun r1 => (bif (fitM (Nat.succ (len (gl (at' x13 (tn 0))))) 24) then (bif (inR 0 (lenI x13)) then (some [(.sl x12), (.sl (updR x13 (tn 0) 0 [(.sl (List.append (gl (at' x13 (tn 0))) [[(.int (gn r1)), (.int (gn (tk 1 r1))), (.int (gn (tk 2 r1)))]]))])), (.sl x14), (.int x8), (.sl (gl (List.drop 3 r1))), (.int (gn (tk 1 (List.drop 3 r1)))), (.int (gn (tk 2 (List.drop 3 r1))))]) else none) else none))) else none) else (bif (eqI (gn r0) 2) then (bif ((leI 0 1) && (leI 1 (lenI x14))) then (some [(.sl x12), (.sl x13), (.sl (List.take (tn ((lenI x14) - 1)) (List.drop (tn 1) x14))), (.int x8), (.sl (gl (List.drop 1 r0))), (.int (gn (tk 1 (List.drop 1 r0)))), (.int (gn (tk 2 (List.drop 1 r0))))]) else none) else (some [(.sl x12), (.sl x13), (.sl x14), (.int x8), (.sl (gl (List.drop 1 r0))), (.int (gn (tk 1 (List.drop 1 r0)))), (.int (gn (tk 2 (List.drop 1 r0))))]))))))) := (loopK_run (by kernel_rfl)).trans (by kernel_rfl)
theorem c_spec_l26Exch (a0 : List (List Dat)) (a1 : Int) (a2 : Int) : callI tE f_spec_l26Exch [.sl a0, .int a1, .int a2] = (((callI tE f_spec_l26From [(.sl a0), (.int a1), (.int a2)])).bind (fun r0 => (((callI tE f_spec_l1Below [(.sl (gl (List.drop 1 r0))), (.int (gn (tk 1 (List.drop 1 r0)))), (.int (gn (tk 2 (List.drop 1 r0)))), (.int 3)])).bind (fun r1 => (((callI tE f_spec_l1Below [(.sl (gl (List.drop 1 r1))), (.int (gn (tk 1 (List.drop 1 r1)))), (.int (gn (tk 2 (List.drop 1 r1)))), (.int 3)])).bind (fun r2 => (((callI tE f_spec_NewExchange [(.sl (gl r0)), (.int (w64 (1 + (gn r1)))), (.int (w64 (1 + (gn r2))))])).bind (fun r3 => (((callI tE f_spec_l1Below [(.sl (gl (List.drop 1 r2))), (.int (gn (tk 1 (List.drop 1 r2)))), (.int (gn (tk 2 (List.drop 1 r2)))), (.int 9)])).bind (fun r4 => (L_spec_l26Exch_0 0 0 0 (gn r4) (gl (List.drop 1 r4)) (gn (tk 1 (List.drop 1 r4))) (gn (tk 2 (List.drop 1 r4))) 0 (gn (tk 3 r3)) [] [] [] (gl r3) (gl (tk 1 r3)) (gl (tk 2 r3))))))))))))) := (callI_run rfl (by kernel_rfl)).trans (by kernel_rfl)
noncomputable def L_spec_DrawRunExchange_0 (x0 : Int) (x1 : Int) (x2 : Int) (x3 : Int) (x4 : Int) (x5 : List (List Dat)) (x6 : Int) (x7 : Int) (x8 : Int) (x9 : List (List Dat)) (x10 : List (List Dat)) (x11 : List (List Dat)) (x12 : List (List Dat)) (x13 : List (List Dat)) (x14 : List (List Dat)) (x15 : List (List Dat)) : Option (List Dat) := loopK tE f_spec_DrawRunExchange 0 ⟨[(2, (.ptr (500000, 0) x0 0)), (4, (.ptr (500001, 0) x1 0)), (5, (.ptr (500002, 0) x2 0)), (6, (.own (500003, 0))), (7, (.i .i64 x3))], [((500000, 0), (.box 49 [(.own (500004, 0)), (.own (500005, 0)), (.own (500006, 0)), (.i .i64 x4)])), ((500001, 0), (.box 257 [(.ro 5 Bool.false x5), (.i .i64 x6), (.i .i64 x7)])), ((500002, 0), (.box 49 [(.own (500007, 0)), (.own (500008, 0)), (.own (500009, 0)), (.i .i64 x8)])), ((500003, 0), (.row 3 x9 Bool.true 0 [])), ((500004, 0), (.row 34 x10 Bool.true 0 [])), ((500005, 0), (.row 34 x11 Bool.true 0 [])), ((500006, 0), (.row 34 x12 Bool.true 0 [])), ((500007, 0), (.row 34 x13 Bool.true 0 [])), ((500008, 0), (.row 34 x14 Bool.true 0 [])), ((500009, 0), (.row 34 x15 Bool.true 0 []))]⟩
theorem L_spec_DrawRunExchange_0_eq (x0 : Int) (x1 : Int) (x2 : Int) (x3 : Int) (x4 : Int) (x5 : List (List Dat)) (x6 : Int) (x7 : Int) (x8 : Int) (x9 : List (List Dat)) (x10 : List (List Dat)) (x11 : List (List Dat)) (x12 : List (List Dat)) (x13 : List (List Dat)) (x14 : List (List Dat)) (x15 : List (List Dat)) : L_spec_DrawRunExchange_0 x0 x1 x2 x3 x4 x5 x6 x7 x8 x9 x10 x11 x12 x13 x14 x15 = (bif (ltI 0 x3) then (((callI tE f_spec_l1Below [(.sl x5), (.int x6), (.int x7), (.int 9)])).bind (fun r0 => (bif (fitM (Nat.succ (len x9)) 8) then (L_spec_DrawRunExchange_0 x0 x1 x2 (w64 (x3 - 1)) x4 (gl (List.drop 1 r0)) (gn (tk 1 (List.drop 1 r0))) (gn (tk 2 (List.drop 1 r0))) x8 (List.append x9 [[(.int (w64 ((gn r0) - 2)))]]) x10 x11 x12 x13 x14 x15) else none))) else (some [(.sl x13), (.sl x14), (.sl x15), (.int x8), (.sl x9)])) := (loopK_run (by kernel_rfl)).trans (by kernel_rfl)
theorem c_spec_DrawRunExchange (a0 : List (List Dat)) : callI tE f_spec_DrawRunExchange [.sl a0] = (((callI tE f_spec_l1New [(.sl a0)])).bind (fun r0 => (((callI tE f_spec_l26Exch [(.sl (gl r0)), (.int (gn (tk 1 r0))), (.int (gn (tk 2 r0)))])).bind (fun r1 => (((callI tE f_spec_l1Below [(.sl (gl (List.drop 4 r1))), (.int (gn (tk 1 (List.drop 4 r1)))), (.int (gn (tk 2 (List.drop 4 r1)))), (.int 5)])).bind (fun r2 => (L_spec_DrawRunExchange_0 0 0 0 (gn r2) 0 (gl (List.drop 1 r2)) (gn (tk 1 (List.drop 1 r2))) (gn (tk 2 (List.drop 1 r2))) (gn (tk 3 r1)) [] [] [] [] (gl r1) (gl (tk 1 r1)) (gl (tk 2 r1))))))))) := (callI_run rfl (by kernel_rfl)).trans (by kernel_rfl)
end Go.Proofs.Ytbmafhpbinjgaaa.Vai
namespace Go.Proofs.Ytbmafhpbinjgaaa.Vai
open Go
set_option linter.unusedSimpArgs false
set_option linter.unusedVariables false
set_option linter.unnecessarySimpa false
set_option maxRecDepth 100000
theorem c_impl_order (a0 : Int) (a1 : Int) : callI tE f_impl_order [.int a0, .int a1] = (bif (ltI a0 a1) then (some [(.int (-1))]) else (bif (ltI a1 a0) then (some [(.int 1)]) else (some [(.int 0)]))) := (callI_run rfl (by kernel_rfl)).trans (by kernel_rfl)
theorem c_impl_CompareRows (a0 : Int) (a1 : Int) (a2 : Int) (a3 : Int) (a4 : Int) (a5 : Int) : callI tE f_impl_CompareRows [.int a0, .int a1, .int a2, .int a3, .int a4, .int a5] = (((callI tE f_impl_order [(.int a0), (.int a3)])).bind (fun r0 => (bif (!(eqI (gn r0) 0)) then (some [(.int (gn r0))]) else (((callI tE f_impl_order [(.int a1), (.int a4)])).bind (fun r1 => (bif (!(eqI (gn r1) 0)) then (some [(.int (gn r1))]) else (((callI tE f_impl_order [(.int a2), (.int a5)])).bind (fun r2 => (some [(.int (gn r2))]))))))))) := (callI_run rfl (by kernel_rfl)).trans (by kernel_rfl)
noncomputable def L_spec_CompareRows_0 (x0 : Int) (x1 : List (List Dat)) (x2 : List (List Dat)) : Option (List Dat) := loopK tE f_spec_CompareRows 0 ⟨[(5, (.own (500000, 0))), (6, (.own (500001, 0))), (7, (.i .i64 x0))], [((500000, 0), (.row 3 x1 Bool.true 0 [])), ((500001, 0), (.row 3 x2 Bool.true 0 []))]⟩
theorem L_spec_CompareRows_0_eq (x0 : Int) (x1 : List (List Dat)) (x2 : List (List Dat)) : L_spec_CompareRows_0 x0 x1 x2 = (bif (ltI x0 3) then (bif (inR x0 (lenI x1)) then (bif (inR x0 (lenI x2)) then (bif (ltI (gn (at' x1 (tn x0))) (gn (at' x2 (tn x0)))) then (some [(.int (-1))]) else (bif (inR x0 (lenI x1)) then (bif (inR x0 (lenI x2)) then (bif (ltI (gn (at' x2 (tn x0))) (gn (at' x1 (tn x0)))) then (some [(.int 1)]) else (L_spec_CompareRows_0 (w64 (x0 + 1)) x1 x2)) else none) else none)) else none) else none) else (some [(.int 0)])) := (loopK_run (by kernel_rfl)).trans (by kernel_rfl)
theorem c_spec_CompareRows (a0 : Int) (a1 : Int) (a2 : Int) (a3 : Int) (a4 : Int) (a5 : Int) : callI tE f_spec_CompareRows [.int a0, .int a1, .int a2, .int a3, .int a4, .int a5] = (L_spec_CompareRows_0 0 [[(.int a0)], [(.int a1)], [(.int a2)]] [[(.int a3)], [(.int a4)], [(.int a5)]]) := (callI_run rfl (by kernel_rfl)).trans (by kernel_rfl)
theorem c_spec_l1In (a0 : Int) (a1 : Int) (a2 : Int) : callI tE f_spec_l1In [.int a0, .int a1, .int a2] = (bif (leI a1 a0) then (some [(.bool (leI a0 a2))]) else (some [(.bool Bool.false)])) := (callI_run rfl (by kernel_rfl)).trans (by kernel_rfl)
theorem c_spec_IsValidRow (a0 : Int) (a1 : Int) (a2 : Int) : callI tE f_spec_IsValidRow [.int a0, .int a1, .int a2] = (((callI tE f_spec_l1In [(.int a0), (.int 0), (.int 9)])).bind (fun r0 => (bif (gb r0) then (((callI tE f_spec_l1In [(.int a1), (.int 0), (.int 99)])).bind (fun r1 => (bif (gb r1) then (((callI tE f_spec_l1In [(.int a2), (.int 0), (.int 3)])).bind (fun r2 => (some [(.bool (gb r2))]))) else (some [(.bool Bool.false)])))) else (some [(.bool Bool.false)])))) := (callI_run rfl (by kernel_rfl)).trans (by kernel_rfl)
noncomputable def L_spec_AreValidRows_0 (x0 : List (List Dat)) (x1 : Int) : Option (List Dat) := loopK tE f_spec_AreValidRows 0 ⟨[(0, (.ro 43 Bool.false x0)), (3, (.i .i64 x1))], []⟩
theorem L_spec_AreValidRows_0_eq (x0 : List (List Dat)) (x1 : Int) : L_spec_AreValidRows_0 x0 x1 = (bif (ltI x1 (lenI x0)) then (bif (inR x1 (lenI x0)) then (((callI tE f_spec_IsValidRow [(.int (gn (at' x0 (tn x1)))), (.int (gn (tk 1 (at' x0 (tn x1))))), (.int (gn (tk 2 (at' x0 (tn x1)))))])).bind (fun r0 => (bif (!(gb r0)) then (some [(.bool Bool.false)]) else (L_spec_AreValidRows_0 x0 (w64 (x1 + 1)))))) else none) else (some [(.bool (leI (lenI x0) 24))])) := (loopK_run (by kernel_rfl)).trans (by kernel_rfl)
theorem c_spec_AreValidRows (a0 : List (List Dat)) : callI tE f_spec_AreValidRows [.sl a0] = (L_spec_AreValidRows_0 a0 0) := (callI_run rfl (by kernel_rfl)).trans (by kernel_rfl)
theorem c_impl_within (a0 : Int) (a1 : Int) (a2 : Int) : callI tE f_impl_within [.int a0, .int a1, .int a2] = (bif (leI a1 a0) then (some [(.bool (leI a0 a2))]) else (some [(.bool Bool.false)])) := (callI_run rfl (by kernel_rfl)).trans (by kernel_rfl)
theorem c_impl_IsValidRow (a0 : Int) (a1 : Int) (a2 : Int) : callI tE f_impl_IsValidRow [.int a0, .int a1, .int a2] = (((callI tE f_impl_within [(.int a0), (.int 0), (.int 9)])).bind (fun r0 => (bif (gb r0) then (((callI tE f_impl_within [(.int a1), (.int 0), (.int 99)])).bind (fun r1 => (bif (gb r1) then (((callI tE f_impl_within [(.int a2), (.int 0), (.int 3)])).bind (fun r2 => (some [(.bool (gb r2))]))) else (some [(.bool Bool.false)])))) else (some [(.bool Bool.false)])))) := (callI_run rfl (by kernel_rfl)).trans (by kernel_rfl)
noncomputable def L_impl_allValid_0 (x0 : List (List Dat)) (x1 : Int) (x2 : Int) : Option (List Dat) := loopK tE f_impl_allValid 0 ⟨[(5, (.ro 43 Bool.false x0)), (6, (.i .i64 x1)), (7, (.i .i64 x2))], []⟩
theorem L_impl_allValid_0_eq (x0 : List (List Dat)) (x1 : Int) (x2 : Int) : L_impl_allValid_0 x0 x1 x2 = (bif (ltI x2 x1) then (bif (inR x2 (lenI x0)) then (((callI tE f_impl_IsValidRow [(.int (gn (at' x0 (tn x2)))), (.int (gn (tk 1 (at' x0 (tn x2))))), (.int (gn (tk 2 (at' x0 (tn x2)))))])).bind (fun r0 => (bif (!(gb r0)) then (some [(.bool Bool.false)]) else (L_impl_allValid_0 x0 x1 (w64 (x2 + 1)))))) else none) else (some [(.bool Bool.true)])) := (loopK_run (by kernel_rfl)).trans (by kernel_rfl)
theorem c_impl_allValid (a0 : List (List Dat)) : callI tE f_impl_allValid [.sl a0] = (L_impl_allValid_0 a0 (lenI a0) 0) := (callI_run rfl (by kernel_rfl)).trans (by kernel_rfl)
theorem c_impl_AreValidRows (a0 : List (List Dat)) : callI tE f_impl_AreValidRows [.sl a0] = (bif (leI (lenI a0) 24) then (((callI tE f_impl_allValid [(.sl a0)])).bind (fun r0 => (some [(.bool (gb r0))]))) else (some [(.bool Bool.false)])) := (callI_run rfl (by kernel_rfl)).trans (by kernel_rfl)
theorem c_impl_clone (a0 : List (List Dat)) : callI tE f_impl_clone [.sl a0] = (bif (fitM (0 + (len a0)) 24) then (some [(.sl a0)]) else none) := (callI_run rfl (by kernel_rfl)).trans (by kernel_rfl)
noncomputable def L_spec_l6Rows_0 (x0 : List (List Dat)) (x1 : List (List Dat)) (x2 : Int) : Option (List Dat) := loopK tE f_spec_l6Rows 0 ⟨[(0, (.ro 43 Bool.false x0)), (1, (.ro 43 Bool.false x1)), (5, (.i .i64 x2))], []⟩
theorem L_spec_l6Rows_0_eq (x0 : List (List Dat)) (x1 : List (List Dat)) (x2 : Int) : L_spec_l6Rows_0 x0 x1 x2 = (bif (ltI x2 (lenI x0)) then (bif (inR x2 (lenI x0)) then (bif (inR x2 (lenI x1)) then (bif (!((eqI (gn (at' x0 (tn x2))) (gn (at' x1 (tn x2)))) && ((eqI (gn (tk 1 (at' x0 (tn x2)))) (gn (tk 1 (at' x1 (tn x2))))) && ((eqI (gn (tk 2 (at' x0 (tn x2)))) (gn (tk 2 (at' x1 (tn x2))))) && Bool.true)))) then (some [(.bool Bool.false)]) else (L_spec_l6Rows_0 x0 x1 (w64 (x2 + 1)))) else none) else none) else (some [(.bool Bool.true)])) := (loopK_run (by kernel_rfl)).trans (by kernel_rfl)
theorem c_spec_l6Rows (a0 : List (List Dat)) (a1 : List (List Dat)) : callI tE f_spec_l6Rows [.sl a0, .sl a1] = (bif (!(eqI (lenI a0) (lenI a1))) then (some [(.bool Bool.false)]) else (L_spec_l6Rows_0 a0 a1 0)) := (callI_run rfl (by kernel_rfl)).trans (by kernel_rfl)
noncomputable def L_spec_EqualBags_0 (x0 : Int) (x1 : List (List Dat)) (x2 : List (List Dat)) : Option (List Dat) := loopK tE f_spec_EqualBags 0 ⟨[(5, (.own (500000, 0))), (6, (.own (500001, 0))), (7, (.i .i64 x0))], [((500000, 0), (.row 43 x1 Bool.true 0 [])), ((500001, 0), (.row 43 x2 Bool.true 0 []))]⟩
theorem L_spec_EqualBags_0_eq (x0 : Int) (x1 : List (List Dat)) (x2 : List (List Dat)) : L_spec_EqualBags_0 x0 x1 x2 = (bif (ltI x0 (lenI x1)) then (bif (inR x0 (lenI x1)) then (bif (inR x0 (lenI x2)) then (bif (!((eqI (gn (at' x1 (tn x0))) (gn (at' x2 (tn x0)))) && ((eqI (gn (tk 1 (at' x1 (tn x0)))) (gn (tk 1 (at' x2 (tn x0))))) && ((eqI (gn (tk 2 (at' x1 (tn x0)))) (gn (tk 2 (at' x2 (tn x0))))) && Bool.true)))) then (some [(.bool Bool.false)]) else (L_spec_EqualBags_0 (w64 (x0 + 1)) x1 x2)) else none) else none) else (some [(.bool Bool.true)])) := (loopK_run (by kernel_rfl)).trans (by kernel_rfl)
theorem c_spec_EqualBags (a0 : List (List Dat)) (a1 : List (List Dat)) : callI tE f_spec_EqualBags [.sl a0, .sl a1] = (((callI tE f_spec_SortRows [(.sl a0)])).bind (fun r0 => (((callI tE f_spec_SortRows [(.sl a1)])).bind (fun r1 => (bif (!(eqI (lenI (gl r0)) (lenI (gl r1)))) then (some [(.bool Bool.false)]) else (L_spec_EqualBags_0 0 (gl r0) (gl r1))))))) := (callI_run rfl (by kernel_rfl)).trans (by kernel_rfl)
noncomputable def L_spec_SortRows_0 (x0 : List (List Dat)) (x1 : Int) (x2 : List (List Dat)) : Option (List Dat) := loopK tE f_spec_SortRows 0 ⟨[(0, (.ro 43 Bool.false x0)), (3, (.own (500000, 0))), (4, (.i .i64 x1))], [((500000, 0), (.row 43 x2 Bool.true 0 []))]⟩
noncomputable def L_spec_SortRows_1 (x0 : List (List Dat)) (x1 : Int) (x2 : Int) (x3 : List (List Dat)) : Option (List Dat) := loopK tE f_spec_SortRows 1 ⟨[(0, (.ro 43 Bool.false x0)), (3, (.own (500000, 0))), (4, (.i .i64 x1)), (5, (.i .i64 x2))], [((500000, 0), (.row 43 x3 Bool.true 0 []))]⟩
theorem L_spec_SortRows_0_eq (x0 : List (List Dat)) (x1 : Int) (x2 : List (List Dat)) : L_spec_SortRows_0 x0 x1 x2 = (bif (ltI x1 (lenI x0)) then (L_spec_SortRows_1 x0 x1 (lenI x2) x2) else (some [(.sl x2)])) := (loopK_run (by kernel_rfl)).trans (by kernel_rfl)
theorem L_spec_SortRows_1_eq (x0 : List (List Dat)) (x1 : Int) (x2 : Int) (x3 : List (List Dat)) : L_spec_SortRows_1 x0 x1 x2 x3 = (bif (ltI 0 x2) then (bif (inR (w64 (x2 - 1)) (lenI x3)) then (bif (inR x1 (lenI x0)) then (((callI tE f_spec_CompareRows [(.int (gn (at' x3 (tn (w64 (x2 - 1)))))), (.int (gn (tk 1 (at' x3 (tn (w64 (x2 - 1))))))), (.int (gn (tk 2 (at' x3 (tn (w64 (x2 - 1))))))), (.int (gn (at' x0 (tn x1)))), (.int (gn (tk 1 (at' x0 (tn x1))))), (.int (gn (tk 2 (at' x0 (tn x1)))))])).bind (fun r0 => (bif (ltI 0 (gn r0)) then (L_spec_SortRows_1 x0 x1 (w64 (x2 - 1)) x3) else (bif (inR x1 (lenI x0)) then (bif ((leI 0 x2) && (leI x2 (lenI x3))) then (bif (fitM (1 + (len (List.take (tn ((lenI x3) - x2)) (List.drop (tn x2) x3)))) 24) then (bif ((leI 0 x2) && (leI x2 (lenI x3))) then (bif (fitM (0 + (len (List.take (tn (x2 - 0)) (List.drop (tn 0) x3)))) 24) then (bif (fitM (Nat.succ ((len (List.take (tn (x2 - 0)) (List.drop (tn 0) x3))) + (len (List.take (tn ((lenI x3) - x2)) (List.drop (tn x2) x3))))) 24) then (L_spec_SortRows_0 x0 (w64 (x1 + 1)) (List.append (List.take (tn (x2 - 0)) (List.drop (tn 0) x3)) ([(.int (gn (at' x0 (tn x1)))), (.int (gn (tk 1 (at' x0 (tn x1))))), (.int (gn (tk 2 (at' x0 (tn x1)))))] :: (List.take (tn ((lenI x3) - x2)) (List.drop (tn x2) x3))))) else none) else none) else none) else none) else none) else none)))) else none) else none) else (bif (inR x1 (lenI x0)) then (bif ((leI 0 x2) && (leI x2 (lenI x3))) then (bif (fitM (1 + (len (List.take (tn ((lenI x3) - x2)) (List.drop (tn x2) x3)))) 24) then (bif ((leI 0 x2) && (leI x2 (lenI x3))) then (bif (fitM (0 + (len (List.take (tn (x2 - 0)) (List.drop (tn 0) x3)))) 24) then (bif (fitM (Nat.succ ((len (List.take (tn (x2 - 0)) (List.drop (tn 0) x3))) + (len (List.take (tn ((lenI x3) - x2)) (List.drop (tn x2) x3))))) 24) then (L_spec_SortRows_0 x0 (w64 (x1 + 1)) (List.append (List.take (tn (x2 - 0)) (List.drop (tn 0) x3)) ([(.int (gn (at' x0 (tn x1)))), (.int (gn (tk 1 (at' x0 (tn x1))))), (.int (gn (tk 2 (at' x0 (tn x1)))))] :: (List.take (tn ((lenI x3) - x2)) (List.drop (tn x2) x3))))) else none) else none) else none) else none) else none) else none)) := (loopK_run (by kernel_rfl)).trans (by kernel_rfl)
theorem c_spec_SortRows (a0 : List (List Dat)) : callI tE f_spec_SortRows [.sl a0] = (L_spec_SortRows_0 a0 0 []) := (callI_run rfl (by kernel_rfl)).trans (by kernel_rfl)
theorem c_impl_SortRows (a0 : List (List Dat)) : callI tE f_impl_SortRows [.sl a0] = (((callI tE f_impl_clone [(.sl a0)])).bind (fun r0 => (((callI tE f_slices_SortStableFunc_Row [(.sl (gl r0))])).bind (fun r1 => (some [(.sl (gl r1))]))))) := (callI_run rfl (by kernel_rfl)).trans (by kernel_rfl)
end Go.Proofs.Ytbmafhpbinjgaaa.Vai
namespace Go.Proofs.Ytbmafhpbinjgaaa.Vai
open Go
set_option linter.unusedSimpArgs false
set_option linter.unusedVariables false
set_option linter.unnecessarySimpa false
abbrev Rows := List (List Dat)
theorem gn_c (n : Int) (r : List Dat) : gn (.int n :: r) = n := rfl
theorem gb_c (b : Bool) (r : List Dat) : gb (.bool b :: r) = b := rfl
theorem gs_c (s : ByteArray) (r : List Dat) : gs (.str s :: r) = s := rfl
theorem gl_c (l : Rows) (r : List Dat) : gl (.sl l :: r) = l := rfl
theorem tk_0 (l : List Dat) : tk 0 l = l := rfl
theorem tk_s (k : Nat) (a : Dat) (l : List Dat) : tk (k + 1) (a :: l) = tk k l := rfl
theorem bind_s {α β : Type} (a : α) (f : α → Option β) : (some a).bind f = f a := rfl
theorem ltT {a b : Int} (h : a < b) : ltI a b = true := by simpa [ltI] using h
theorem ltF {a b : Int} (h : b ≤ a) : ltI a b = false := by simpa [ltI] using h
theorem leT {a b : Int} (h : a ≤ b) : leI a b = true := by simpa [leI] using h
theorem leF {a b : Int} (h : b < a) : leI a b = false := by simpa [leI] using h
theorem eqT {a b : Int} (h : a = b) : eqI a b = true := by simpa [eqI] using h
theorem eqF {a b : Int} (h : a ≠ b) : eqI a b = false := by simpa [eqI] using h
theorem eqI_self (a : Int) : eqI a a = true := by simp [eqI]
theorem eqBo_self (a : Bool) : eqBo a a = true := by simp [eqBo]
theorem leNT {a b : Nat} (h : a ≤ b) : leN a b = true := by simpa [leN] using h
theorem fitT {n b : Nat} (h : n * b ≤ 70368744177664) : fitM n b = true := leNT h
theorem inRT {i n : Int} (h : 0 ≤ i) (h2 : i < n) : inR i n = true := by simp [inR, leT h, ltT h2]
theorem tn_c (i : Nat) : tn (i : Int) = i := rfl
theorem w64_id {n : Int} (h : -9223372036854775808 ≤ n ∧ n ≤ 9223372036854775807) : w64 n = n := wrap64 ⟨h.1, by omega⟩
theorem w64_s {i : Nat} (h : i < 9223372036854775807) : w64 ((i : Int) + 1) = ((i + 1 : Nat) : Int) := by
  rw [w64_id ⟨by omega, by omega⟩]; omega
theorem bifn {α : Type} (b : Bool) (x y : α) : (bif !b then x else y) = bif b then y else x := by cases b <;> rfl
theorem at_mid (p q : Rows) (r : List Dat) : at' (p ++ r :: q) p.length = r := by
  simp [List.getD_eq_getElem?_getD]
theorem lt_mid (p q : Rows) (r : List Dat) : ltI (p.length : Int) (lenI (p ++ r :: q)) = true := ltT (by show (p.length : Int) < ((p ++ r :: q).length : Int); simp only [List.length_append, List.length_cons]; omega)
theorem in_mid (p q : Rows) (r : List Dat) : inR (p.length : Int) (lenI (p ++ r :: q)) = true := inRT (by omega) (by show (p.length : Int) < ((p ++ r :: q).length : Int); simp only [List.length_append, List.length_cons]; omega)
theorem lt_end (p : Rows) : ltI (p.length : Int) (lenI p) = false := ltF (Int.le_refl _)
theorem upd_mid (p q : Rows) (r : List Dat) (c : Nat) (ds : List Dat) : updR (p ++ r :: q) p.length c ds = p ++ setRange r c ds :: q := by
  unfold updR
  rw [show (p ++ r :: q).getD p.length [] = r from at_mid p q r, List.set_append_right _ _ (Nat.le_refl _)]
  simp
theorem snoc_len (p : Rows) (r : List Dat) : (p ++ [r]).length = p.length + 1 := by simp
theorem mid_eq {α : Type} (p q : List α) (r : α) : p ++ r :: q = (p ++ [r]) ++ q := by simp
section
variable {α β : Type} {e : α → List Dat}
theorem at_m (u v : List α) (a : α) : at' ((u ++ a :: v).map e) u.length = e a := by
  simp [List.getD_eq_getElem?_getD]
theorem lt_m (u v : List α) (a : α) : ltI (u.length : Int) (lenI ((u ++ a :: v).map e)) = true := ltT (by show (u.length : Int) < (((u ++ a :: v).map e).length : Int); simp only [List.length_append, List.length_cons, List.length_map]; omega)
theorem in_m (u v : List α) (a : α) : inR (u.length : Int) (lenI ((u ++ a :: v).map e)) = true := inRT (by omega) (by show (u.length : Int) < (((u ++ a :: v).map e).length : Int); simp only [List.length_append, List.length_cons, List.length_map]; omega)
theorem lt_e (l : List α) : ltI (l.length : Int) (lenI (l.map e)) = false := ltF (by simp)
theorem upd_m (u v : List α) (a : α) (c : Nat) (ds : List Dat) : updR ((u ++ a :: v).map e) u.length c ds = u.map e ++ setRange (e a) c ds :: v.map e := by
  have := upd_mid (u.map e) (v.map e) (e a) c ds
  simpa using this
theorem zip_loop {σ : Type} {L : σ → Int → Option β} {F : σ → List α → Option β} {I : σ → List α → List α → Prop} {l : List α} (hn : l.length < 9223372036854775807)
    (hs : ∀ (u : List α) (a : α) (v : List α) (s : σ), l = u ++ a :: v → I s u (a :: v) → (∃ s', L s u.length = L s' (w64 (u.length + 1)) ∧ I s' (u ++ [a]) v ∧ F s (a :: v) = F s' v) ∨ L s u.length = F s (a :: v))
    (he : ∀ s, I s l [] → L s l.length = F s []) (s : σ) (h0 : I s [] l) : L s 0 = F s l := by
  have key : ∀ (v u : List α) (s : σ), l = u ++ v → I s u v → L s (u.length : Nat) = F s v := by
    intro v
    induction v with
    | nil =>
      intro u s h hI
      rw [List.append_nil] at h
      subst h
      exact he s hI
    | cons a v ih =>
      intro u s h hI
      have hl : u.length < l.length := by rw [h]; simp
      rcases hs u a v s h hI with ⟨s', h1, h2, h3⟩ | h1
      · rw [h1, w64_s (by omega), h3]
        have := ih (u ++ [a]) s' (by rw [h]; simp) h2
        rw [List.length_append] at this
        exact this
      · exact h1
  exact key l [] s rfl h0
theorem all_loop {L : Int → Option β} {p : α → Bool} {no yes : Option β} {l : List α} (hn : l.length < 9223372036854775807)
    (hs : ∀ (u : List α) (a : α) (v : List α), l = u ++ a :: v → L u.length = bif p a then L (w64 (u.length + 1)) else no) (he : L l.length = yes) : L 0 = bif l.all p then yes else no :=
  zip_loop (σ := Unit) (L := fun _ => L) (F := fun _ v => bif v.all p then yes else no) (I := fun _ _ _ => True) hn (fun u a v _ h _ => by
    have := hs u a v h
    cases hp : p a
    · exact .inr (by rw [this, hp]; simp [hp])
    · exact .inl ⟨(), by rw [this, hp]; rfl, trivial, by simp [hp]⟩) (fun _ _ => by simpa using he) () trivial
end
def szL {α : Type} (f : α → Nat) : List α → Nat
  | [] => 0
  | a :: l => 1 + f a + szL f l
theorem szL_len {α : Type} (f : α → Nat) : ∀ l : List α, l.length ≤ szL f l
  | [] => Nat.le_refl _
  | a :: l => by have := szL_len f l; simp only [List.length_cons, szL]; omega
theorem szL_mem {α : Type} {f : α → Nat} : ∀ {l : List α} {a : α}, a ∈ l → f a ≤ szL f l
  | b :: l, a, h => by
    rcases List.mem_cons.mp h with rfl | h
    · simp only [szL]; omega
    · have := szL_mem (f := f) h; simp only [szL]; omega
theorem szL_split {α : Type} (f : α → Nat) (u v : List α) : szL f (u ++ v) = szL f u + szL f v := by
  induction u with
  | nil => simp [szL]
  | cons a u ih => simp only [List.cons_append, szL, ih]; omega
section
variable {α : Type} {e : α → List Dat} {f : α → Int → α} {c g : α → Nat}
theorem eq_loop [DecidableEq α] {L : Rows → Rows → Int → Option (List Dat)} {P : α → Prop} (hs : ∀ (p q p' q' : Rows) (a b : α), P a → p.length = p'.length → p.length < 4611686018427387904 → L (p ++ e a :: q) (p' ++ e b :: q') p.length = bif decide (a = b) then L (p ++ e a :: q) (p' ++ e b :: q') (w64 (p.length + 1)) else some [.bool false])
    (he : ∀ p p', p.length = p'.length → L p p' p.length = some [.bool true]) : ∀ (l l' : List α) (p p' : Rows), p.length = p'.length → l.length = l'.length → (∀ a ∈ l, P a) → p.length + l.length < 4611686018427387904 →
      L (p ++ l.map e) (p' ++ l'.map e) p.length = some [.bool (decide (l = l'))]
  | [], [], p, p', h, _, _, _ => by simpa using he p p' h
  | [], _ :: _, _, _, _, h, _, _ => by simp at h
  | _ :: _, [], _, _, _, h, _, _ => by simp at h
  | a :: l, b :: l', p, p', h, hl, hP, h3 => by
    simp only [List.length_cons] at h3 hl
    rw [List.map_cons, List.map_cons, hs p (l.map e) p' (l'.map e) a b (hP a (by simp)) h (by omega)]
    by_cases hab : a = b
    · rw [decide_eq_true hab, cond_true, w64_s (by omega), mid_eq, mid_eq p']
      have ih := eq_loop hs he l l' (p ++ [e a]) (p' ++ [e b]) (by simp [h]) (by omega) (fun b hb => hP b (by simp [hb])) (by simp; omega)
      rw [snoc_len] at ih
      rw [ih]
      simp [hab]
    · rw [decide_eq_false hab, cond_false]
      simp [hab]
end
end Go.Proofs.Ytbmafhpbinjgaaa.Vai
namespace Go.Proofs.Ytbmafhpbinjgaaa.Vai
open Go
set_option linter.unusedSimpArgs false
set_option linter.unusedVariables false
set_option linter.unnecessarySimpa false
def intE (n : Int) : List Dat := [.int n]
def boE (b : Bool) : List Dat := [.bool b]
def c1 {α : Type} (_ : α) : Nat := 1
structure Rw where
  k : Int
  v : Int
  w : Int
  deriving DecidableEq
def Rw.e (x : Rw) : List Dat := [.int x.k, .int x.v, .int x.w]
def rsE (l : List Rw) : List Dat := [.sl (l.map Rw.e)]
structure Pr where
  l : Rw
  r : Rw
  m : Bool
  deriving DecidableEq
def Pr.e (x : Pr) : List Dat := [.int x.l.k, .int x.l.v, .int x.l.w, .int x.r.k, .int x.r.v, .int x.r.w, .bool x.m]
structure Gr where
  key : Int
  cnt : Int
  sum : Int
  lo : Int
  hi : Int
  deriving DecidableEq
def Gr.e (x : Gr) : List Dat := [.int x.key, .int x.cnt, .int x.sum, .int x.lo, .int x.hi]
structure Cl where
  id : Int
  req : Int
  prio : Int
  deriving DecidableEq
def Cl.e (x : Cl) : List Dat := [.int x.id, .int x.req, .int x.prio]
structure Tk where
  kind : Int
  left : List Rw
  right : List Rw
  mat : List Bool
  level : Int
  deriving DecidableEq
def Tk.e (x : Tk) : List Dat := [.int x.kind, .sl (x.left.map Rw.e), .sl (x.right.map Rw.e), .sl (x.mat.map boE), .int x.level]
def Tk.sz (x : Tk) : Nat := x.left.length + (x.right.length + (x.mat.length))
structure Gt where
  rows : List Rw
  level : Int
  deriving DecidableEq
def Gt.e (x : Gt) : List Dat := [.sl (x.rows.map Rw.e), .int x.level]
def Gt.sz (x : Gt) : Nat := x.rows.length
structure So where
  inp : List Rw
  pos : Int
  heap : List Rw
  dfd : List Rw
  out : List Rw
  runs : List (List Rw)
  lp : Int
  rp : Int
  ph : Int
  wr : Int
  deriving DecidableEq
def So.e (x : So) : List Dat := [.sl (x.inp.map Rw.e), .int x.pos, .sl (x.heap.map Rw.e), .sl (x.dfd.map Rw.e), .sl (x.out.map Rw.e), .sl (x.runs.map rsE), .int x.lp, .int x.rp, .int x.ph, .int x.wr]
def So.sz (x : So) : Nat := x.inp.length + (x.heap.length + (x.dfd.length + (x.out.length + (szL List.length x.runs))))
structure Jn where
  pend : List Tk
  wr : Int
  parts : Int
  deriving DecidableEq
def Jn.e (x : Jn) : List Dat := [.sl (x.pend.map Tk.e), .int x.wr, .int x.parts]
def Jn.sz (x : Jn) : Nat := szL Tk.sz x.pend
structure Ag where
  pend : List Gt
  wr : Int
  early : Bool
  deriving DecidableEq
def Ag.e (x : Ag) : List Dat := [.sl (x.pend.map Gt.e), .int x.wr, .bool x.early]
def Ag.sz (x : Ag) : Nat := szL Gt.sz x.pend
structure Opr where
  kind : Int
  so : So
  jn : Jn
  ag : Ag
  deriving DecidableEq
def Opr.e (x : Opr) : List Dat := [.int x.kind, .sl (x.so.inp.map Rw.e), .int x.so.pos, .sl (x.so.heap.map Rw.e), .sl (x.so.dfd.map Rw.e), .sl (x.so.out.map Rw.e), .sl (x.so.runs.map rsE), .int x.so.lp, .int x.so.rp, .int x.so.ph, .int x.so.wr, .sl (x.jn.pend.map Tk.e), .int x.jn.wr, .int x.jn.parts, .sl (x.ag.pend.map Gt.e), .int x.ag.wr, .bool x.ag.early]
def Opr.sz (x : Opr) : Nat := So.sz x.so + (Jn.sz x.jn + (Ag.sz x.ag))
structure Ou where
  rows : List Rw
  pairs : List Pr
  groups : List Gr
  deriving DecidableEq
def Ou.e (x : Ou) : List Dat := [.sl (x.rows.map Rw.e), .sl (x.pairs.map Pr.e), .sl (x.groups.map Gr.e)]
def Ou.sz (x : Ou) : Nat := x.rows.length + (x.pairs.length + (x.groups.length))
structure Sl where
  id : Int
  op : Opr
  out : Ou
  done : Bool
  deriving DecidableEq
def Sl.e (x : Sl) : List Dat := [.int x.id, .int x.op.kind, .sl (x.op.so.inp.map Rw.e), .int x.op.so.pos, .sl (x.op.so.heap.map Rw.e), .sl (x.op.so.dfd.map Rw.e), .sl (x.op.so.out.map Rw.e), .sl (x.op.so.runs.map rsE), .int x.op.so.lp, .int x.op.so.rp, .int x.op.so.ph, .int x.op.so.wr, .sl (x.op.jn.pend.map Tk.e), .int x.op.jn.wr, .int x.op.jn.parts, .sl (x.op.ag.pend.map Gt.e), .int x.op.ag.wr, .bool x.op.ag.early, .sl (x.out.rows.map Rw.e), .sl (x.out.pairs.map Pr.e), .sl (x.out.groups.map Gr.e), .bool x.done]
def Sl.sz (x : Sl) : Nat := Opr.sz x.op + (Ou.sz x.out)
structure Br where
  pool : Int
  next : Int
  act : List Cl
  wait : List Cl
  deriving DecidableEq
def Br.e (x : Br) : List Dat := [.int x.pool, .int x.next, .sl (x.act.map Cl.e), .sl (x.wait.map Cl.e)]
def Br.sz (x : Br) : Nat := x.act.length + (x.wait.length)
structure Sy where
  br : Br
  slots : List Sl
  round : Int
  deriving DecidableEq
def Sy.e (x : Sy) : List Dat := [.int x.br.pool, .int x.br.next, .sl (x.br.act.map Cl.e), .sl (x.br.wait.map Cl.e), .sl (x.slots.map Sl.e), .int x.round]
def Sy.sz (x : Sy) : Nat := Br.sz x.br + (szL Sl.sz x.slots)
structure Xc where
  pend : List (List Rw)
  que : List (List Rw)
  got : List (List Rw)
  cap : Int
  deriving DecidableEq
def Xc.e (x : Xc) : List Dat := [.sl (x.pend.map rsE), .sl (x.que.map rsE), .sl (x.got.map rsE), .int x.cap]
def Xc.sz (x : Xc) : Nat := szL List.length x.pend + (szL List.length x.que + (szL List.length x.got))
structure Ck where
  so : So
  em : List Rw
  deriving DecidableEq
def Ck.e (x : Ck) : List Dat := [.sl (x.so.inp.map Rw.e), .int x.so.pos, .sl (x.so.heap.map Rw.e), .sl (x.so.dfd.map Rw.e), .sl (x.so.out.map Rw.e), .sl (x.so.runs.map rsE), .int x.so.lp, .int x.so.rp, .int x.so.ph, .int x.so.wr, .sl (x.em.map Rw.e)]
def Ck.sz (x : Ck) : Nat := So.sz x.so + (x.em.length)
end Go.Proofs.Ytbmafhpbinjgaaa.Vai
namespace Go.Proofs.Ytbmafhpbinjgaaa.Vai
open Go
set_option linter.unusedSimpArgs false
set_option linter.unusedVariables false
set_option linter.unnecessarySimpa false
theorem in_mid' {p p' : Rows} (h : p.length = p'.length) (q : Rows) (r : List Dat) : inR (p.length : Int) (lenI (p' ++ r :: q)) = true := by rw [h]; exact in_mid p' q r
theorem at_mid' {p p' : Rows} (h : p.length = p'.length) (q : Rows) (r : List Dat) : at' (p' ++ r :: q) p.length = r := by rw [h]; exact at_mid p' q r
theorem lenI_map {α : Type} (e : α → List Dat) (l : List α) : lenI (l.map e) = (l.length : Int) := by show ((l.map e).length : Int) = _; rw [List.length_map]
theorem eq_len {α : Type} {e : α → List Dat} {l l' : List α} (h : l.length = l'.length) : eqI (lenI (l.map e)) (lenI (l'.map e)) = true := eqT (by rw [lenI_map, lenI_map, h])
theorem ne_len {α : Type} {e : α → List Dat} {l l' : List α} (h : ¬ l.length = l'.length) : eqI (lenI (l.map e)) (lenI (l'.map e)) = false := eqF (by rw [lenI_map, lenI_map]; omega)
end Go.Proofs.Ytbmafhpbinjgaaa.Vai
namespace Go.Proofs.Ytbmafhpbinjgaaa.Vai
open Go
set_option linter.unusedSimpArgs false
set_option linter.unusedVariables false
set_option linter.unnecessarySimpa false
set_option maxRecDepth 10000
theorem bif_bo (b : Bool) : (bif b then some [Dat.bool true] else some [.bool false]) = some [.bool b] := by cases b <;> rfl
theorem len_map {α : Type} (e : α → List Dat) (l : List α) : len (l.map e) = l.length := by show (l.map e).length = _; simp
theorem app_map {α : Type} (e : α → List Dat) (l : List α) (a : α) : List.append (l.map e) [e a] = (l ++ [a]).map e := by simp
theorem app_map2 {α : Type} (e : α → List Dat) (l m : List α) : List.append (l.map e) (m.map e) = (l ++ m).map e := by simp
def win (n a b : Int) : Bool := leI a n && leI n b
theorem within_ok (n a b : Int) : callI tE f_impl_within [.int n, .int a, .int b] = some [.bool (win n a b)] := by
  rw [c_impl_within]; unfold win; cases leI a n <;> rfl
theorem l1In_ok (n a b : Int) : callI tE f_spec_l1In [.int n, .int a, .int b] = some [.bool (win n a b)] := by
  rw [c_spec_l1In]; unfold win; cases leI a n <;> rfl
theorem win_iff {n a b : Int} : win n a b = true ↔ a ≤ n ∧ n ≤ b := by simp [win, leI]
def Rw.ok (r : Rw) : Bool := win r.k 0 9 && (win r.v 0 99 && win r.w 0 3)
theorem Rw.ok_iff {r : Rw} : r.ok = true ↔ (0 ≤ r.k ∧ r.k ≤ 9) ∧ (0 ≤ r.v ∧ r.v ≤ 99) ∧ 0 ≤ r.w ∧ r.w ≤ 3 := by simp [Rw.ok, win_iff]
theorem iValidRow (r : Rw) : callI tE f_impl_IsValidRow [.int r.k, .int r.v, .int r.w] = some [.bool r.ok] := by
  simp only [c_impl_IsValidRow, within_ok, gn_c, gb_c, gs_c, gl_c, tk_s, tk_0, List.drop_succ_cons, List.drop_zero, List.headD_cons, List.getD_cons_zero, List.getD_cons_succ, bind_s]
  unfold Rw.ok
  cases win r.k 0 9 <;> cases win r.v 0 99 <;> rfl
theorem sValidRow (r : Rw) : callI tE f_spec_IsValidRow [.int r.k, .int r.v, .int r.w] = some [.bool r.ok] := by
  simp only [c_spec_IsValidRow, l1In_ok, gn_c, gb_c, gs_c, gl_c, tk_s, tk_0, List.drop_succ_cons, List.drop_zero, List.headD_cons, List.getD_cons_zero, List.getD_cons_succ, bind_s]
  unfold Rw.ok
  cases win r.k 0 9 <;> cases win r.v 0 99 <;> rfl
theorem iAllValid (l : List Rw) (h : l.length < 4611686018427387904) : callI tE f_impl_allValid [.sl (l.map Rw.e)] = some [.bool (l.all Rw.ok)] := by
  rw [c_impl_allValid]
  have := all_loop (l := l) (L := L_impl_allValid_0 (l.map Rw.e) (lenI (l.map Rw.e))) (p := Rw.ok) (no := some [.bool false]) (yes := some [.bool true]) (by omega) (fun u a v e => by
    subst e
    rw [L_impl_allValid_0_eq]
    simp only [lt_m, in_m, tn_c, at_m, cond_true, gn_c, gb_c, gs_c, gl_c, tk_s, tk_0, List.drop_succ_cons, List.drop_zero, List.headD_cons, List.getD_cons_zero, List.getD_cons_succ, bind_s, Rw.e, iValidRow, bifn]) (by rw [L_impl_allValid_0_eq, lt_e, cond_false])
  exact this.trans (bif_bo _)
def aok (l : List Rw) : Bool := leI l.length 24 && l.all Rw.ok
theorem iAreValid (l : List Rw) : callI tE f_impl_AreValidRows [.sl (l.map Rw.e)] = some [.bool (aok l)] := by
  rw [c_impl_AreValidRows, lenI_map]
  unfold aok
  by_cases h : (l.length : Int) ≤ 24
  · rw [leT h, iAllValid l (by omega)]; rfl
  · rw [leF (by omega)]; rfl
theorem sAreValid (l : List Rw) (h : l.length < 4611686018427387904) : callI tE f_spec_AreValidRows [.sl (l.map Rw.e)] = some [.bool (aok l)] := by
  rw [c_spec_AreValidRows]
  have := all_loop (l := l) (L := L_spec_AreValidRows_0 (l.map Rw.e)) (p := Rw.ok) (no := some [.bool false]) (yes := some [.bool (leI l.length 24)]) (by omega) (fun u a v e => by
    subst e
    rw [L_spec_AreValidRows_0_eq]
    simp only [lt_m, in_m, tn_c, at_m, cond_true, gn_c, gb_c, gs_c, gl_c, tk_s, tk_0, List.drop_succ_cons, List.drop_zero, List.headD_cons, List.getD_cons_zero, List.getD_cons_succ, bind_s, Rw.e, sValidRow, bifn]) (by rw [L_spec_AreValidRows_0_eq, lt_e, cond_false, lenI_map])
  refine this.trans ?_
  unfold aok
  cases l.all Rw.ok <;> simp
theorem aok_all {l : List Rw} (h : aok l = true) : ∀ r ∈ l, r.ok = true := by
  simp only [aok, Bool.and_eq_true] at h; exact List.all_eq_true.mp h.2
theorem aok_iff {l : List Rw} : aok l = true ↔ l.length ≤ 24 ∧ ∀ r ∈ l, r.ok = true := by
  simp only [aok, leI, Bool.and_eq_true, decide_eq_true_eq, List.all_eq_true]
  constructor
  · rintro ⟨h1, h2⟩; exact ⟨by omega, h2⟩
  · rintro ⟨h1, h2⟩; exact ⟨by omega, h2⟩
theorem iClone (l : List Rw) (h : l.length ≤ 1099511627776) : callI tE f_impl_clone [.sl (l.map Rw.e)] = some [.sl (l.map Rw.e)] := by
  rw [c_impl_clone, len_map, fitT (by omega)]; rfl
def ord (a b : Int) : Int := if a < b then -1 else if b < a then 1 else 0
def cmpR (a b : Rw) : Int := if ord a.k b.k ≠ 0 then ord a.k b.k else if ord a.v b.v ≠ 0 then ord a.v b.v else ord a.w b.w
theorem order_ok (a b : Int) : callI tE f_impl_order [.int a, .int b] = some [.int (ord a b)] := by
  rw [c_impl_order]
  unfold ord
  by_cases h : a < b
  · rw [ltT h, if_pos h]; rfl
  · rw [ltF (by omega), if_neg h]
    by_cases h2 : b < a
    · rw [ltT h2, if_pos h2]; rfl
    · rw [ltF (by omega), if_neg h2]; rfl
theorem iCompare (a b : Rw) : callI tE f_impl_CompareRows [.int a.k, .int a.v, .int a.w, .int b.k, .int b.v, .int b.w] = some [.int (cmpR a b)] := by
  simp only [c_impl_CompareRows, order_ok, gn_c, gb_c, gs_c, gl_c, tk_s, tk_0, List.drop_succ_cons, List.drop_zero, List.headD_cons, List.getD_cons_zero, List.getD_cons_succ, bind_s, bifn]
  unfold cmpR
  by_cases h : ord a.k b.k = 0
  · rw [eqT h, if_neg (by simpa using h)]
    by_cases h2 : ord a.v b.v = 0
    · rw [eqT h2, if_neg (by simpa using h2)]; rfl
    · rw [eqF h2, if_pos h2]; rfl
  · rw [eqF h, if_pos h]; rfl
theorem sCompare (a b : Rw) : callI tE f_spec_CompareRows [.int a.k, .int a.v, .int a.w, .int b.k, .int b.v, .int b.w] = some [.int (cmpR a b)] := by
  have step : ∀ (i : Nat) (x y : Int) (rest : Option (List Dat)), i < 3 → gn (at' [[Dat.int a.k], [.int a.v], [.int a.w]] i) = x → gn (at' [[Dat.int b.k], [.int b.v], [.int b.w]] i) = y → L_spec_CompareRows_0 (w64 ((i : Int) + 1)) [[.int a.k], [.int a.v], [.int a.w]] [[.int b.k], [.int b.v], [.int b.w]] = rest →
      L_spec_CompareRows_0 (i : Int) [[.int a.k], [.int a.v], [.int a.w]] [[.int b.k], [.int b.v], [.int b.w]] = if ord x y ≠ 0 then some [.int (ord x y)] else rest := fun i x y rest hi hx hy hr => by
    rw [L_spec_CompareRows_0_eq, ltT (by omega), inRT (by omega) (show (i : Int) < lenI [[Dat.int a.k], [.int a.v], [.int a.w]] by show (i : Int) < 3; omega), inRT (by omega) (show (i : Int) < lenI [[Dat.int b.k], [.int b.v], [.int b.w]] by show (i : Int) < 3; omega), tn_c, hx, hy, hr]
    unfold ord
    by_cases h : x < y
    · rw [ltT h]; simp [h]
    · rw [ltF (by omega)]
      by_cases h2 : y < x
      · rw [ltT h2]; simp [h, h2]
      · rw [ltF (by omega)]; simp [h, h2]
  rw [c_spec_CompareRows]
  have e3 : L_spec_CompareRows_0 (w64 (((2 : Nat) : Int) + 1)) [[.int a.k], [.int a.v], [.int a.w]] [[.int b.k], [.int b.v], [.int b.w]] = some [.int 0] := by
    rw [L_spec_CompareRows_0_eq]; rfl
  have e2 := step 2 a.w b.w _ (by omega) rfl rfl e3
  have e1 := step 1 a.v b.v _ (by omega) rfl rfl e2
  have e0 := step 0 a.k b.k _ (by omega) rfl rfl e1
  refine e0.trans ?_
  unfold cmpR
  by_cases h : ord a.k b.k = 0 <;> by_cases h2 : ord a.v b.v = 0 <;> by_cases h3 : ord a.w b.w = 0 <;> simp [h, h2, h3]
theorem ord_0 {a b : Int} : ord a b = 0 ↔ a = b := by
  unfold ord
  split
  · omega
  · split <;> omega
theorem ord_neg {a b : Int} : ord a b < 0 ↔ a < b := by
  unfold ord
  split
  · omega
  · split <;> omega
theorem ord_pos {a b : Int} : 0 < ord a b ↔ b < a := by
  unfold ord
  split
  · omega
  · split <;> omega
def Rw.lt (a b : Rw) : Prop := a.k < b.k ∨ a.k = b.k ∧ (a.v < b.v ∨ a.v = b.v ∧ a.w < b.w)
instance (a b : Rw) : Decidable (Rw.lt a b) := by unfold Rw.lt; infer_instance
theorem cmp_neg {a b : Rw} : cmpR a b < 0 ↔ Rw.lt a b := by
  unfold cmpR Rw.lt
  by_cases h : ord a.k b.k = 0
  · have := ord_0.mp h
    rw [if_neg (by simpa using h)]
    by_cases h2 : ord a.v b.v = 0
    · have := ord_0.mp h2
      rw [if_neg (by simpa using h2), ord_neg]; omega
    · have h3 := mt ord_0.mpr h2
      rw [if_pos h2, ord_neg]; omega
  · have h3 := mt ord_0.mpr h
    rw [if_pos h, ord_neg]; omega
theorem cmp_pos {a b : Rw} : 0 < cmpR a b ↔ Rw.lt b a := by
  unfold cmpR Rw.lt
  by_cases h : ord a.k b.k = 0
  · have := ord_0.mp h
    rw [if_neg (by simpa using h)]
    by_cases h2 : ord a.v b.v = 0
    · have := ord_0.mp h2
      rw [if_neg (by simpa using h2), ord_pos]; omega
    · have h3 := mt ord_0.mpr h2
      rw [if_pos h2, ord_pos]; omega
  · have h3 := mt ord_0.mpr h
    rw [if_pos h, ord_pos]; omega
theorem Rw.eq_of {a b : Rw} (h1 : a.k = b.k) (h2 : a.v = b.v) (h3 : a.w = b.w) : a = b := by cases a; cases b; simp_all
theorem Rw.lt_or {a b : Rw} : Rw.lt a b ∨ a = b ∨ Rw.lt b a := by
  unfold Rw.lt
  by_cases h1 : a.k = b.k <;> by_cases h2 : a.v = b.v <;> by_cases h3 : a.w = b.w
  · exact .inr (.inl (Rw.eq_of h1 h2 h3))
  all_goals omega
theorem Rw.lt_irr (a : Rw) : ¬ Rw.lt a a := by unfold Rw.lt; omega
theorem Rw.lt_tr {a b c : Rw} (h : Rw.lt a b) (h2 : Rw.lt b c) : Rw.lt a c := by unfold Rw.lt at *; omega
def Rw.le (a b : Rw) : Prop := ¬ Rw.lt b a
instance (a b : Rw) : Decidable (Rw.le a b) := by unfold Rw.le; infer_instance
theorem Rw.le_rfl (a : Rw) : Rw.le a a := Rw.lt_irr a
theorem Rw.le_tr {a b c : Rw} (h : Rw.le a b) (h2 : Rw.le b c) : Rw.le a c := by
  intro h3
  rcases Rw.lt_or (a := a) (b := b) with q | q | q
  · exact h2 (Rw.lt_tr h3 q)
  · subst q; exact h2 h3
  · exact h q
theorem Rw.le_antisymm {a b : Rw} (h : Rw.le a b) (h2 : Rw.le b a) : a = b := by
  rcases Rw.lt_or (a := a) (b := b) with q | q | q
  · exact absurd q h2
  · exact q
  · exact absurd q h
theorem Rw.lt_le {a b : Rw} (h : Rw.lt a b) : Rw.le a b := fun h2 => Rw.lt_irr a (Rw.lt_tr h h2)
theorem lt_cmp0 (a b : Rw) : ltI (cmpR a b) 0 = decide (Rw.lt a b) := by
  simp only [ltI, cmp_neg]
theorem lt_cmp0' (a b : Rw) : ltI 0 (cmpR a b) = decide (Rw.lt b a) := by
  simp only [ltI, cmp_pos]
theorem eq_Rw3 (a b : Rw) : (eqI a.k b.k && (eqI a.v b.v && (eqI a.w b.w && Bool.true))) = decide (a = b) := by
  have e : decide (a = b) = (decide (a.k = b.k) && (decide (a.v = b.v) && decide (a.w = b.w))) := by
    cases a; cases b
    simp only [Rw.mk.injEq, Bool.decide_and]
  simp only [e, eqI, Bool.and_true]
theorem sEqual (l l' : List Rw) (h : l.length ≤ 1152921504606846976) : callI tE f_spec_l6Rows [.sl (l.map Rw.e), .sl (l'.map Rw.e)] = some [.bool (decide (l = l'))] := by
  rw [c_spec_l6Rows]
  by_cases hll : l.length = l'.length
  · rw [eq_len hll, Bool.not_true, cond_false]
    have := eq_loop (L := L_spec_l6Rows_0) (e := Rw.e) (P := fun _ => True) (fun p q p' q' a b _ hpl hlt => by
      rw [L_spec_l6Rows_0_eq]
      simp only [lt_mid, in_mid, tn_c, at_mid, cond_true, cond_false, gn_c, gb_c, gs_c, gl_c, tk_s, tk_0, List.drop_succ_cons, List.drop_zero, List.headD_cons, List.getD_cons_zero, List.getD_cons_succ, bind_s, in_mid' hpl, at_mid' hpl, Rw.e, eq_Rw3, bifn]) (fun p p' hpl => by
      rw [L_spec_l6Rows_0_eq, lt_end, cond_false]) l l' [] [] rfl hll (fun a ha => trivial) (by simp; omega)
    simpa using this
  · rw [ne_len hll, Bool.not_false, cond_true, decide_eq_false (fun e => hll (by rw [e]))]
end Go.Proofs.Ytbmafhpbinjgaaa.Vai
namespace Go.Proofs.Ytbmafhpbinjgaaa.Vai
open Go
set_option linter.unusedSimpArgs false
set_option linter.unusedVariables false
set_option linter.unnecessarySimpa false
set_option maxRecDepth 10000
def Cu (b : Rows) (i : Int) : Prop := 0 ≤ i ∧ i ≤ b.length ∧ b.length ≤ 1048576
theorem and255 (n : Int) : Go.bits Go.BinOp.and .i64 n 255 = n % 256 := by
  have h255 : (BitVec.ofInt 64 255).toNat = 2 ^ 8 - 1 := by decide
  have key : (BitVec.ofInt 64 n &&& BitVec.ofInt 64 255).toNat = (n % ((2 ^ 64 : Nat) : Int)).toNat % 2 ^ 8 := by
    rw [BitVec.toNat_and, BitVec.toNat_ofInt, h255, Nat.and_two_pow_sub_one_eq_mod]
  show w64 (((BitVec.ofInt 64 n &&& BitVec.ofInt 64 255).toNat : Nat) : Int) = n % 256
  rw [key, w64_id ⟨by omega, by omega⟩]
  omega
theorem and255_b (n : Int) : 0 ≤ Go.bits Go.BinOp.and .i64 n 255 ∧ Go.bits Go.BinOp.and .i64 n 255 ≤ 255 := by
  rw [and255]; omega
theorem dByte {b : Rows} {i h : Int} (c : Cu b i) : ∃ r i' h', callI tE f_spec_l1Byte [.sl b, .int i, .int h] = some [.int r, .sl b, .int i', .int h'] ∧ Cu b i' ∧ 0 ≤ r ∧ r ≤ 255 := by
  obtain ⟨c1, c2, c3⟩ := c
  rw [c_spec_l1Byte]
  by_cases hi : i < b.length
  · rw [ltT (show i < lenI b from hi), cond_true, inRT c1 (show i < lenI b from hi), cond_true]
    exact ⟨_, _, _, rfl, ⟨by rw [w64_id ⟨by omega, by omega⟩]; omega, by rw [w64_id ⟨by omega, by omega⟩]; omega, c3⟩, (and255_b _).1, (and255_b _).2⟩
  · rw [ltF (show lenI b ≤ i by show (b.length : Int) ≤ i; omega), cond_false]
    exact ⟨_, _, _, rfl, ⟨c1, c2, c3⟩, (and255_b _).1, (and255_b _).2⟩
theorem dBelow {b : Rows} {i h : Int} (n : Int) (c : Cu b i) : ∃ r i' h', callI tE f_spec_l1Below [.sl b, .int i, .int h, .int n] = some [.int r, .sl b, .int i', .int h'] ∧ Cu b i' ∧ 0 ≤ r ∧ (0 < n → r < n) ∧ (n ≤ 0 → r = 0) := by
  rw [c_spec_l1Below]
  by_cases h0 : n ≤ 0
  · rw [leT h0, cond_true]
    exact ⟨0, i, h, rfl, c, by omega, by omega, fun _ => rfl⟩
  · rw [leF (by omega), cond_false]
    by_cases h1 : n ≤ 256
    · rw [leT h1, cond_true]
      obtain ⟨r, i1, h1', e1, c1, p1, q1⟩ := dByte (h := h) c
      rw [e1]
      simp only [gn_c, gb_c, gs_c, gl_c, tk_s, tk_0, List.drop_succ_cons, List.drop_zero, List.headD_cons, List.getD_cons_zero, List.getD_cons_succ, bind_s]
      rw [eqF (by omega)]
      exact ⟨_, _, _, rfl, c1, Int.tmod_nonneg _ p1, fun _ => Int.tmod_lt_of_pos _ (by omega), fun hh => by omega⟩
    · rw [leF (by omega), cond_false]
      obtain ⟨x, i1, h1', e1, c1, p1, q1⟩ := dByte (h := h) c
      obtain ⟨y, i2, h2', e2, c2, p2, q2⟩ := dByte (h := h1') c1
      obtain ⟨z, i3, h3', e3, c3, p3, q3⟩ := dByte (h := h2') c2
      obtain ⟨w, i4, h4', e4, c4, p4, q4⟩ := dByte (h := h3') c3
      simp only [e1, e2, e3, e4, gn_c, gb_c, gs_c, gl_c, tk_s, tk_0, List.drop_succ_cons, List.drop_zero, List.headD_cons, List.getD_cons_zero, List.getD_cons_succ, bind_s]
      rw [eqF (by omega)]
      have a1 : w64 (x * 16777216) = x * 16777216 := w64_id ⟨by omega, by omega⟩
      have a2 : w64 (y * 65536) = y * 65536 := w64_id ⟨by omega, by omega⟩
      have a3 : w64 (x * 16777216 + y * 65536) = x * 16777216 + y * 65536 := w64_id ⟨by omega, by omega⟩
      have a4 : w64 (z * 256) = z * 256 := w64_id ⟨by omega, by omega⟩
      have a5 : w64 (x * 16777216 + y * 65536 + z * 256) = x * 16777216 + y * 65536 + z * 256 := w64_id ⟨by omega, by omega⟩
      have a6 : w64 (x * 16777216 + y * 65536 + z * 256 + w) = x * 16777216 + y * 65536 + z * 256 + w := w64_id ⟨by omega, by omega⟩
      rw [a1, a2, a3, a4, a5, a6]
      exact ⟨_, _, _, rfl, c4, Int.tmod_nonneg _ (by omega), fun _ => Int.tmod_lt_of_pos _ (by omega), fun hh => by omega⟩
theorem dOnce {b : Rows} {i h : Int} (n : Int) (c : Cu b i) : ∃ t i' h', callI tE f_spec_l1Once [.sl b, .int i, .int h, .int n] = some [.bool t, .sl b, .int i', .int h'] ∧ Cu b i' := by
  obtain ⟨r, i1, h1, e1, c1, _⟩ := dBelow (h := h) n c
  rw [c_spec_l1Once, e1]
  simp only [gn_c, gb_c, gs_c, gl_c, tk_s, tk_0, List.drop_succ_cons, List.drop_zero, List.headD_cons, List.getD_cons_zero, List.getD_cons_succ, bind_s]
  exact ⟨_, _, _, rfl, c1⟩
theorem at_mem {L : Rows} {k : Nat} (h : k < L.length) : at' L k ∈ L := by
  show L.getD k [] ∈ L
  rw [List.getD_eq_getElem?_getD, List.getElem?_eq_getElem h]
  exact List.getElem_mem h
theorem dPickInt {b : Rows} {i h : Int} (L : Rows) (p : Int → Bool) (hL : 0 < L.length) (hp : (L.all fun r => p (gn r)) = true) (c : Cu b i) :
    ∃ r i' h', callI tE f_spec_l1PickInt [.sl b, .int i, .int h, .sl L] = some [.int r, .sl b, .int i', .int h'] ∧ Cu b i' ∧ p r = true := by
  obtain ⟨r, i1, h1, e1, c1, p1, p2, _⟩ := dBelow (h := h) (lenI L) c
  have hlt := p2 (show (0 : Int) < (L.length : Int) by omega)
  rw [c_spec_l1PickInt, e1]
  simp only [gn_c, gb_c, gs_c, gl_c, tk_s, tk_0, List.drop_succ_cons, List.drop_zero, List.headD_cons, List.getD_cons_zero, List.getD_cons_succ, bind_s]
  rw [inRT p1 hlt, cond_true]
  have hm : tn r < L.length := by
    have h2 : r < (L.length : Int) := hlt
    show r.toNat < L.length
    omega
  exact ⟨_, _, _, rfl, c1, List.all_eq_true.mp hp _ (at_mem hm)⟩
def btw (a b x : Int) : Bool := decide (a ≤ x) && decide (x ≤ b)
theorem btw_iff {a b x : Int} : btw a b x = true ↔ a ≤ x ∧ x ≤ b := by simp [btw]
theorem dRow {b : Rows} {i h : Int} (n : Int) (c : Cu b i) (hn : 0 < n) (hn2 : n ≤ 10) : ∃ (r : Rw) (i' h' : Int), callI tE f_spec_l2Row [.sl b, .int i, .int h, .int n] = some [.int r.k, .int r.v, .int r.w, .sl b, .int i', .int h'] ∧ Cu b i' ∧ r.ok = true := by
  obtain ⟨x, i1, h1, e1, c1, p1, q1, _⟩ := dBelow (h := h) n c
  obtain ⟨y, i2, h2, e2, c2, p2, q2, _⟩ := dBelow (h := h1) 100 c1
  obtain ⟨z, i3, h3, e3, c3, p3⟩ := dPickInt (h := h2) [[.int 0], [.int 0], [.int 1], [.int 2], [.int 3]] (btw 0 3) (by decide) rfl c2
  have := btw_iff.mp p3
  have := q1 hn
  have := q2 (by omega)
  rw [c_spec_l2Row]
  simp only [e1, e2, e3, gn_c, gb_c, gs_c, gl_c, tk_s, tk_0, List.drop_succ_cons, List.drop_zero, List.headD_cons, List.getD_cons_zero, List.getD_cons_succ, bind_s]
  exact ⟨⟨x, y, z⟩, _, _, rfl, c3, Rw.ok_iff.mpr (show (0 ≤ x ∧ x ≤ 9) ∧ (0 ≤ y ∧ y ≤ 99) ∧ 0 ≤ z ∧ z ≤ 3 by omega)⟩
theorem dRowsL {b : Rows} (keys z : Int) (hk : 0 < keys) (hk2 : keys ≤ 10) : ∀ (n : Nat) (i h : Int) (acc : List Rw), Cu b i → acc.length + n ≤ 100000 → (∀ r ∈ acc, r.ok = true) →
    ∃ (l : List Rw) (i' h' : Int), L_spec_l2Rows_0 z keys n b i h (acc.map Rw.e) = some [.sl (l.map Rw.e), .sl b, .int i', .int h'] ∧ Cu b i' ∧ (∀ r ∈ l, r.ok = true) ∧ l.length = acc.length + n
  | 0, i, h, acc, c, _, ha => by
    rw [L_spec_l2Rows_0_eq, ltF (by omega), cond_false]
    exact ⟨acc, i, h, rfl, c, ha, rfl⟩
  | n + 1, i, h, acc, c, hl, ha => by
    obtain ⟨r, i1, h1, e1, c1, hr⟩ := dRow (h := h) keys c hk hk2
    rw [L_spec_l2Rows_0_eq, ltT (by omega), cond_true, e1]
    simp only [gn_c, gb_c, gs_c, gl_c, tk_s, tk_0, List.drop_succ_cons, List.drop_zero, List.headD_cons, List.getD_cons_zero, List.getD_cons_succ, bind_s, len_map]
    rw [show fitM (Nat.succ acc.length) 24 = true from fitT (by omega), cond_true, show ([[Dat.int r.k, .int r.v, .int r.w]] : Rows) = [r.e] from rfl, app_map, show w64 (((n + 1 : Nat) : Int) - 1) = (n : Int) by rw [w64_id ⟨by omega, by omega⟩]; omega]
    obtain ⟨l, i', h', e2, c2, hr2, hl2⟩ := dRowsL keys z hk hk2 n i1 h1 (acc ++ [r]) c1 (by simp; omega) (fun x hx => by
      simp only [List.mem_append, List.mem_cons, List.not_mem_nil, or_false] at hx
      rcases hx with hx | rfl
      · exact ha x hx
      · exact hr)
    exact ⟨l, i', h', e2, c2, hr2, by rw [hl2]; simp; omega⟩
theorem dRows {b : Rows} {i h : Int} (most : Int) (c : Cu b i) (hm : 0 ≤ most) (hm2 : most ≤ 1000) : ∃ (l : List Rw) (i' h' : Int), callI tE f_spec_l2Rows [.sl b, .int i, .int h, .int most] = some [.sl (l.map Rw.e), .sl b, .int i', .int h'] ∧ Cu b i' ∧ (∀ r ∈ l, r.ok = true) ∧ (l.length : Int) ≤ most := by
  obtain ⟨k, i1, h1, e1, c1, p1⟩ := dPickInt (h := h) [[.int 1], [.int 2], [.int 4], [.int 10]] (btw 1 10) (by decide) rfl c
  have := btw_iff.mp p1
  obtain ⟨n, i2, h2, e2, c2, p2, q2, _⟩ := dBelow (h := h1) (most + 1) c1
  rw [c_spec_l2Rows, show w64 (most + 1) = most + 1 from w64_id ⟨by omega, by omega⟩]
  simp only [e1, e2, gn_c, gb_c, gs_c, gl_c, tk_s, tk_0, List.drop_succ_cons, List.drop_zero, List.headD_cons, List.getD_cons_zero, List.getD_cons_succ, bind_s]
  obtain ⟨m, rfl⟩ : ∃ m : Nat, n = m := ⟨n.toNat, by omega⟩
  have := q2 (by omega)
  obtain ⟨l, i', h', e3, c3, hr, hl⟩ := dRowsL k 0 (by omega) (by omega) m i2 h2 [] c2 (by simp; omega) (by simp)
  exact ⟨l, i', h', e3, c3, hr, by rw [hl]; simp; omega⟩
theorem l1New_loop (x : Rows) (hx : x.length ≤ 1048576) : ∀ (m n : Nat) (h : Int), n + m = x.length → ∃ h', L_spec_l1New_0 x h n = some [.sl x, .int 0, .int h']
  | 0, n, h, hn => by
    rw [L_spec_l1New_0_eq, ltF (show lenI x ≤ (n : Int) by show (x.length : Int) ≤ n; omega)]
    exact ⟨_, rfl⟩
  | m + 1, n, h, hn => by
    rw [L_spec_l1New_0_eq, ltT (show (n : Int) < lenI x by show (n : Int) < (x.length : Int); omega), cond_true]
    by_cases h4 : (n : Int) < 4000
    · rw [ltT h4, cond_true, inRT (by omega) (show (n : Int) < lenI x by show (n : Int) < (x.length : Int); omega), cond_true, w64_s (by omega)]
      exact l1New_loop x hx m (n + 1) _ (by omega)
    · rw [ltF (by omega)]
      exact ⟨_, rfl⟩
theorem dNew (x : Rows) (hx : x.length ≤ 1048576) : ∃ h, callI tE f_spec_l1New [.sl x] = some [.sl x, .int 0, .int h] ∧ Cu x 0 := by
  obtain ⟨h, e⟩ := l1New_loop x hx x.length 0 (w64 (10101 + lenI x)) (by omega)
  exact ⟨h, by rw [c_spec_l1New]; exact e, by unfold Cu; omega⟩
theorem of_rows {t : TypeId} {d : Dat} (h : OkD tE (.sl t) d) : ∃ l : Rows, d = .sl l := by
  cases h
  exact ⟨_, rfl⟩
end Go.Proofs.Ytbmafhpbinjgaaa.Vai
namespace Go.Proofs.Ytbmafhpbinjgaaa.Vai
open Go
set_option linter.unusedSimpArgs false
set_option linter.unusedVariables false
set_option linter.unnecessarySimpa false
set_option maxRecDepth 100000
noncomputable def L_spec_l26Lists_0 (x0 : List (List Dat)) (x1 : Int) (x2 : List (List Dat)) : Option (List Dat) := loopK tE f_spec_l26Lists 0 ⟨[(0, (.ro 34 Bool.false x0)), (3, (.own (500000, 0))), (4, (.i .i64 x1))], [((500000, 0), (.row 34 x2 Bool.true 0 []))]⟩
theorem L_spec_l26Lists_0_eq (x0 : List (List Dat)) (x1 : Int) (x2 : List (List Dat)) : L_spec_l26Lists_0 x0 x1 x2 = (bif (ltI x1 (lenI x0)) then (bif (inR x1 (lenI x0)) then (bif (fitM (0 + (len (gl (at' x0 (tn x1))))) 24) then (bif (fitM (Nat.succ (len x2)) 24) then (L_spec_l26Lists_0 x0 (w64 (x1 + 1)) (List.append x2 [[(.sl (gl (at' x0 (tn x1))))]])) else none) else none) else none) else (some [(.sl x2)])) := (loopK_run (by kernel_rfl)).trans (by kernel_rfl)
theorem c_spec_l26Lists (a0 : List (List Dat)) : callI tE f_spec_l26Lists [.sl a0] = (L_spec_l26Lists_0 a0 0 []) := (callI_run rfl (by kernel_rfl)).trans (by kernel_rfl)
noncomputable def L_spec_NewExchange_0 (x0 : List (List Dat)) (x1 : Int) (x2 : Int) (x3 : Int) (x4 : Int) (x5 : Int) (x6 : List (List Dat)) (x7 : List (List Dat)) (x8 : List (List Dat)) : Option (List Dat) := loopK tE f_spec_NewExchange 0 ⟨[(0, (.ro 34 Bool.false x0)), (1, (.i .i64 x1)), (2, (.i .i64 x2)), (6, (.ptr (500000, 0) x3 0)), (8, (.i .i64 x4))], [((500000, 0), (.box 49 [(.own (500001, 0)), (.own (500002, 0)), (.own (500003, 0)), (.i .i64 x5)])), ((500001, 0), (.row 34 x6 Bool.true 0 [])), ((500002, 0), (.row 34 x7 Bool.true 0 [])), ((500003, 0), (.row 34 x8 Bool.true 0 []))]⟩
noncomputable def L_spec_NewExchange_1 (x0 : Int) (x1 : Int) (x2 : Int) (x3 : Int) (x4 : Int) (x5 : List (List Dat)) (x6 : List (List Dat)) (x7 : List (List Dat)) (x8 : List (List Dat)) (x9 : List (List Dat)) (x10 : List (List Dat)) : Option (List Dat) := loopK tE f_spec_NewExchange 1 ⟨[(1, (.i .i64 x0)), (6, (.ptr (500000, 0) x1 0)), (9, (.ptr (500001, 0) x2 0))], [((500000, 0), (.box 49 [(.own (500002, 0)), (.own (500003, 0)), (.own (500004, 0)), (.i .i64 x3)])), ((500001, 0), (.box 49 [(.own (500005, 0)), (.own (500006, 0)), (.own (500007, 0)), (.i .i64 x4)])), ((500002, 0), (.row 34 x5 Bool.true 0 [])), ((500003, 0), (.row 34 x6 Bool.true 0 [])), ((500004, 0), (.row 34 x7 Bool.true 0 [])), ((500005, 0), (.row 34 x8 Bool.true 0 [])), ((500006, 0), (.row 34 x9 Bool.true 0 [])), ((500007, 0), (.row 34 x10 Bool.true 0 []))]⟩
theorem L_spec_NewExchange_0_eq (x0 : List (List Dat)) (x1 : Int) (x2 : Int) (x3 : Int) (x4 : Int) (x5 : Int) (x6 : List (List Dat)) (x7 : List (List Dat)) (x8 : List (List Dat)) : L_spec_NewExchange_0 x0 x1 x2 x3 x4 x5 x6 x7 x8 = (bif (ltI x4 (lenI x0)) then (bif (inR x4 (lenI x0)) then (((callI tE f_spec_AreValidRows [(.sl (gl (at' x0 (tn x4))))])).bind (fun r0 => (bif (!(gb r0)) then (some [(.sl []), (.sl []), (.sl []), (.int 0), (.bool Bool.false)]) else (L_spec_NewExchange_0 x0 x1 x2 x3 (w64 (x4 + 1)) x5 x6 x7 x8)))) else none) else (((callI tE f_spec_l1In [(.int (lenI x0)), (.int 1), (.int 3)])).bind (fun r0 => (bif (!(gb r0)) then (some [(.sl []), (.sl []), (.sl []), (.int 0), (.bool Bool.false)]) else (((callI tE f_spec_l1In [(.int x1), (.int 1), (.int 3)])).bind (fun r1 => (bif (!(gb r1)) then (some [(.sl []), (.sl []), (.sl []), (.int 0), (.bool Bool.false)]) else (((callI tE f_spec_l1In [(.int x2), (.int 1), (.int 9)])).bind (fun r2 => (bif (!(gb r2)) then (some [(.sl []), (.sl []), (.sl []), (.int 0), (.bool Bool.false)]) else (((callI tE f_spec_l26Lists [(.sl x0)])).bind (fun r3 => (L_spec_NewExchange_1 x1 x3 0 x5 x2 x6 x7 x8 (gl r3) [] []))))))))))))) := (loopK_run (by kernel_rfl)).trans (by kernel_rfl)
theorem L_spec_NewExchange_1_eq (x0 : Int) (x1 : Int) (x2 : Int) (x3 : Int) (x4 : Int) (x5 : List (List Dat)) (x6 : List (List Dat)) (x7 : List (List Dat)) (x8 : List (List Dat)) (x9 : List (List Dat)) (x10 : List (List Dat)) : L_spec_NewExchange_1 x0 x1 x2 x3 x4 x5 x6 x7 x8 x9 x10 = (bif (ltI (lenI x9) x0) then (bif (fitM (Nat.succ (len x9)) 24) then (bif (fitM (Nat.succ (len x10)) 24) then (L_spec_NewExchange_1 x0 x1 x2 x3 x4 x5 x6 x7 x8 (List.append x9 [[(.sl [])]]) (List.append x10 [[(.sl [])]])) else none) else none) else (some [(.sl x8), (.sl x9), (.sl x10), (.int x4), (.bool Bool.true)])) := (loopK_run (by kernel_rfl)).trans (by kernel_rfl)
theorem c_spec_NewExchange (a0 : List (List Dat)) (a1 : Int) (a2 : Int) : callI tE f_spec_NewExchange [.sl a0, .int a1, .int a2] = (L_spec_NewExchange_0 a0 a1 a2 0 0 0 [] [] []) := (callI_run rfl (by kernel_rfl)).trans (by kernel_rfl)
noncomputable def L_impl_senders_0 (x0 : List (List Dat)) (x1 : List (List Dat)) (x2 : Int) (x3 : Int) : Option (List Dat) := loopK tE f_impl_senders 0 ⟨[(0, (.ro 34 Bool.false x0)), (5, (.ro 34 Bool.false x1)), (6, (.i .i64 x2)), (7, (.i .i64 x3))], []⟩
theorem L_impl_senders_0_eq (x0 : List (List Dat)) (x1 : List (List Dat)) (x2 : Int) (x3 : Int) : L_impl_senders_0 x0 x1 x2 x3 = (bif (ltI x3 x2) then (bif (inR x3 (lenI x1)) then (((callI tE f_impl_AreValidRows [(.sl (gl (at' x1 (tn x3))))])).bind (fun r0 => (bif (!(gb r0)) then (some [(.bool Bool.false)]) else (L_impl_senders_0 x0 x1 x2 (w64 (x3 + 1)))))) else none) else (((callI tE f_impl_within [(.int (lenI x0)), (.int 1), (.int 3)])).bind (fun r0 => (some [(.bool (gb r0))])))) := (loopK_run (by kernel_rfl)).trans (by kernel_rfl)
theorem c_impl_senders (a0 : List (List Dat)) : callI tE f_impl_senders [.sl a0] = (L_impl_senders_0 a0 a0 (lenI a0) 0) := (callI_run rfl (by kernel_rfl)).trans (by kernel_rfl)
noncomputable def L_impl_cloneLists_0 (x0 : List (List Dat)) (x1 : Int) (x2 : Int) (x3 : List (List Dat)) : Option (List Dat) := loopK tE f_impl_cloneLists 0 ⟨[(3, (.own (500000, 0))), (6, (.ro 34 Bool.false x0)), (7, (.i .i64 x1)), (8, (.i .i64 x2))], [((500000, 0), (.row 34 x3 Bool.true 0 []))]⟩
theorem L_impl_cloneLists_0_eq (x0 : List (List Dat)) (x1 : Int) (x2 : Int) (x3 : List (List Dat)) : L_impl_cloneLists_0 x0 x1 x2 x3 = (bif (ltI x2 x1) then (bif (inR x2 (lenI x0)) then (((callI tE f_impl_clone [(.sl (gl (at' x0 (tn x2))))])).bind (fun r0 => (bif (fitM (Nat.succ (len x3)) 24) then (L_impl_cloneLists_0 x0 x1 (w64 (x2 + 1)) (List.append x3 [[(.sl (gl r0))]])) else none))) else none) else (some [(.sl x3)])) := (loopK_run (by kernel_rfl)).trans (by kernel_rfl)
theorem c_impl_cloneLists (a0 : List (List Dat)) : callI tE f_impl_cloneLists [.sl a0] = (L_impl_cloneLists_0 a0 (lenI a0) 0 []) := (callI_run rfl (by kernel_rfl)).trans (by kernel_rfl)
theorem c_spec_ReceiverFor (a0 : Int) (a1 : Int) (a2 : Int) (a3 : Int) : callI tE f_spec_ReceiverFor [.int a0, .int a1, .int a2, .int a3] = (((callI tE f_spec_l1In [(.int a3), (.int 1), (.int 3)])).bind (fun r0 => (bif (!(gb r0)) then (some [(.int 0)]) else (((callI tE f_spec_IsValidRow [(.int a0), (.int a1), (.int a2)])).bind (fun r1 => (bif (!(gb r1)) then (some [(.int 0)]) else (bif (!(eqI a3 0)) then (some [(.int (Int.tmod (Int.tmod (w64 (a0 * 7)) 16) a3))]) else none))))))) := (callI_run rfl (by kernel_rfl)).trans (by kernel_rfl)
noncomputable def L_spec_IsValidExchange_0 (x0 : Int) (x1 : Int) (x2 : List (List Dat)) (x3 : List (List Dat)) (x4 : List (List Dat)) (x5 : Int) : Option (List Dat) := loopK tE f_spec_IsValidExchange 0 ⟨[(1, (.ptr (500000, 0) x0 0)), (3, (.i .i64 x1))], [((500000, 0), (.box 49 [(.ro 34 Bool.false x2), (.ro 34 Bool.false x3), (.ro 34 Bool.false x4), (.i .i64 x5)]))]⟩
noncomputable def L_spec_IsValidExchange_1 (x0 : Int) (x1 : Int) (x2 : List (List Dat)) (x3 : List (List Dat)) (x4 : List (List Dat)) (x5 : Int) : Option (List Dat) := loopK tE f_spec_IsValidExchange 1 ⟨[(1, (.ptr (500000, 0) x0 0)), (4, (.i .i64 x1))], [((500000, 0), (.box 49 [(.ro 34 Bool.false x2), (.ro 34 Bool.false x3), (.ro 34 Bool.false x4), (.i .i64 x5)]))]⟩
noncomputable def L_spec_IsValidExchange_2 (x0 : Int) (x1 : Int) (x2 : Int) (x3 : List (List Dat)) (x4 : List (List Dat)) (x5 : List (List Dat)) (x6 : Int) (x7 : List (List Dat)) : Option (List Dat) := loopK tE f_spec_IsValidExchange 2 ⟨[(1, (.ptr (500000, 0) x0 0)), (4, (.i .i64 x1)), (5, (.own (500001, 0))), (6, (.i .i64 x2))], [((500000, 0), (.box 49 [(.ro 34 Bool.false x3), (.ro 34 Bool.false x4), (.ro 34 Bool.false x5), (.i .i64 x6)])), ((500001, 0), (.row 43 x7 Bool.true 0 []))]⟩
theorem L_spec_IsValidExchange_0_eq (x0 : Int) (x1 : Int) (x2 : List (List Dat)) (x3 : List (List Dat)) (x4 : List (List Dat)) (x5 : Int) : L_spec_IsValidExchange_0 x0 x1 x2 x3 x4 x5 = (bif (ltI x1 (lenI x2)) then (bif (inR x1 (lenI x2)) then (((callI tE f_spec_AreValidRows [(.sl (gl (at' x2 (tn x1))))])).bind (fun r0 => (bif (!(gb r0)) then (some [(.bool Bool.false)]) else (L_spec_IsValidExchange_0 x0 (w64 (x1 + 1)) x2 x3 x4 x5)))) else none) else (L_spec_IsValidExchange_1 x0 0 x2 x3 x4 x5)) := (loopK_run (by kernel_rfl)).trans (by kernel_rfl)
theorem L_spec_IsValidExchange_1_eq (x0 : Int) (x1 : Int) (x2 : List (List Dat)) (x3 : List (List Dat)) (x4 : List (List Dat)) (x5 : Int) : L_spec_IsValidExchange_1 x0 x1 x2 x3 x4 x5 = (bif (ltI x1 (lenI x3)) then (bif (inR x1 (lenI x3)) then (bif (ltI x5 (lenI (gl (at' x3 (tn x1))))) then (some [(.bool Bool.false)]) else (bif (inR x1 (lenI x3)) then (bif (fitM (0 + (len (gl (at' x3 (tn x1))))) 24) then (bif (inR x1 (lenI x4)) then (bif (fitM ((len (gl (at' x3 (tn x1)))) + (len (gl (at' x4 (tn x1))))) 24) then (L_spec_IsValidExchange_2 x0 x1 0 x2 x3 x4 x5 (List.append (gl (at' x3 (tn x1))) (gl (at' x4 (tn x1))))) else none) else none) else none) else none)) else none) else (some [(.bool Bool.true)])) := (loopK_run (by kernel_rfl)).trans (by kernel_rfl)
theorem L_spec_IsValidExchange_2_eq (x0 : Int) (x1 : Int) (x2 : Int) (x3 : List (List Dat)) (x4 : List (List Dat)) (x5 : List (List Dat)) (x6 : Int) (x7 : List (List Dat)) : L_spec_IsValidExchange_2 x0 x1 x2 x3 x4 x5 x6 x7 = (bif (ltI x2 (lenI x7)) then (bif (inR x2 (lenI x7)) then (((callI tE f_spec_IsValidRow [(.int (gn (at' x7 (tn x2)))), (.int (gn (tk 1 (at' x7 (tn x2))))), (.int (gn (tk 2 (at' x7 (tn x2)))))])).bind (fun r0 => (bif (!(gb r0)) then (some [(.bool Bool.false)]) else (bif (inR x2 (lenI x7)) then (((callI tE f_spec_ReceiverFor [(.int (gn (at' x7 (tn x2)))), (.int (gn (tk 1 (at' x7 (tn x2))))), (.int (gn (tk 2 (at' x7 (tn x2))))), (.int (lenI x4))])).bind (fun r1 => (bif (!(eqI (gn r1) x1)) then (some [(.bool Bool.false)]) else (L_spec_IsValidExchange_2 x0 x1 (w64 (x2 + 1)) x3 x4 x5 x6 x7)))) else none)))) else none) else (L_spec_IsValidExchange_1 x0 (w64 (x1 + 1)) x3 x4 x5 x6)) := (loopK_run (by kernel_rfl)).trans (by kernel_rfl)
theorem c_spec_IsValidExchange (a0 : List (List Dat)) (a1 : List (List Dat)) (a2 : List (List Dat)) (a3 : Int) : callI tE f_spec_IsValidExchange [.sl a0, .sl a1, .sl a2, .int a3] = (((callI tE f_spec_l1In [(.int (lenI a0)), (.int 1), (.int 3)])).bind (fun r0 => (bif (!(gb r0)) then (some [(.bool Bool.false)]) else (((callI tE f_spec_l1In [(.int (lenI a1)), (.int 1), (.int 3)])).bind (fun r1 => (bif (!(gb r1)) then (some [(.bool Bool.false)]) else (bif (!(eqI (lenI a2) (lenI a1))) then (some [(.bool Bool.false)]) else (((callI tE f_spec_l1In [(.int a3), (.int 1), (.int 9)])).bind (fun r2 => (bif (!(gb r2)) then (some [(.bool Bool.false)]) else (L_spec_IsValidExchange_0 0 0 a0 a1 a2 a3))))))))))) := (callI_run rfl (by kernel_rfl)).trans (by kernel_rfl)
theorem c_spec_l26Copy (a0 : List (List Dat)) (a1 : List (List Dat)) (a2 : List (List Dat)) (a3 : Int) : callI tE f_spec_l26Copy [.sl a0, .sl a1, .sl a2, .int a3] = (((callI tE f_spec_l26Lists [(.sl a0)])).bind (fun r0 => (((callI tE f_spec_l26Lists [(.sl a1)])).bind (fun r1 => (((callI tE f_spec_l26Lists [(.sl a2)])).bind (fun r2 => (some [(.sl (gl r0)), (.sl (gl r1)), (.sl (gl r2)), (.int a3)]))))))) := (callI_run rfl (by kernel_rfl)).trans (by kernel_rfl)
theorem c_spec_ReceiveRow (a0 : List (List Dat)) (a1 : List (List Dat)) (a2 : List (List Dat)) (a3 : Int) (a4 : Int) : callI tE f_spec_ReceiveRow [.sl a0, .sl a1, .sl a2, .int a3, .int a4] = (((callI tE f_spec_l26Copy [(.sl a0), (.sl a1), (.sl a2), (.int a3)])).bind (fun r0 => (((callI tE f_spec_IsValidExchange [(.sl a0), (.sl a1), (.sl a2), (.int a3)])).bind (fun r1 => (bif (!(gb r1)) then (some [(.sl (gl r0)), (.sl (gl (tk 1 r0))), (.sl (gl (tk 2 r0))), (.int (gn (tk 3 r0))), (.bool Bool.false)]) else (((callI tE f_spec_l1In [(.int a4), (.int 0), (.int (w64 ((lenI a1) - 1)))])).bind (fun r2 => (bif (!(gb r2)) then (some [(.sl (gl r0)), (.sl (gl (tk 1 r0))), (.sl (gl (tk 2 r0))), (.int (gn (tk 3 r0))), (.bool Bool.false)]) else (bif (inR a4 (lenI a1)) then (bif (eqI (lenI (gl (at' a1 (tn a4)))) 0) then (some [(.sl (gl r0)), (.sl (gl (tk 1 r0))), (.sl (gl (tk 2 r0))), (.int (gn (tk 3 r0))), (.bool Bool.false)]) else (bif (inR a4 (lenI (gl (tk 2 r0)))) then (bif (inR a4 (lenI (gl (tk 1 r0)))) then (bif (inR 0 (lenI (gl (at' (gl (tk 1 r0)) (tn a4))))) then (bif (fitM (Nat.succ (len (gl (at' (gl (tk 2 r0)) (tn a4))))) 24) then (bif (inR a4 (lenI (gl (tk 2 r0)))) then (bif ((eqI a4 a4) && Bool.true) then (bif (inR a4 (lenI (gl (tk 1 r0)))) then (bif ((leI 0 1) && (leI 1 (lenI (gl (at' (gl (tk 1 r0)) (tn a4)))))) then (bif (inR a4 (lenI (gl (tk 1 r0)))) then (bif (eqI a4 a4) then (some [(.sl (gl r0)), (.sl (updR (gl (tk 1 r0)) (tn a4) 0 [(.sl (List.take (tn ((lenI (gl (at' (gl (tk 1 r0)) (tn a4)))) - 1)) (List.drop (tn 1) (gl (at' (gl (tk 1 r0)) (tn a4))))))])), (.sl (updR (gl (tk 2 r0)) (tn a4) 0 [(.sl (List.append (gl (at' (gl (tk 2 r0)) (tn a4))) [[(.int (gn (at' (gl (at' (gl (tk 1 r0)) (tn a4))) (tn 0)))), (.int (gn (tk 1 (at' (gl (at' (gl (tk 1 r0)) (tn a4))) (tn 0))))), (.int (gn (tk 2 (at' (gl (at' (gl (tk 1 r0)) (tn a4))) (tn 0)))))]]))])), (.int (gn (tk 3 r0))), (.bool Bool.true)]) else none) else none) else none) else none) else none) else none) else none) else none) else none) else none)) else none))))))))) := (callI_run rfl (by kernel_rfl)).trans (by kernel_rfl)
theorem c_impl_ReceiverFor (a0 : Int) (a1 : Int) (a2 : Int) (a3 : Int) : callI tE f_impl_ReceiverFor [.int a0, .int a1, .int a2, .int a3] = (((callI tE f_impl_within [(.int a3), (.int 1), (.int 3)])).bind (fun r0 => (bif (!(gb r0)) then (some [(.int 0)]) else (((callI tE f_impl_IsValidRow [(.int a0), (.int a1), (.int a2)])).bind (fun r1 => (bif (!(gb r1)) then (some [(.int 0)]) else (bif (!(eqI a3 0)) then (some [(.int (Int.tmod (Int.tmod (w64 (7 * a0)) 16) a3))]) else none))))))) := (callI_run rfl (by kernel_rfl)).trans (by kernel_rfl)
noncomputable def L_impl_IsValidExchange_0 (x0 : Int) (x1 : Int) (x2 : Int) (x3 : Int) (x4 : List (List Dat)) (x5 : List (List Dat)) (x6 : List (List Dat)) (x7 : Int) : Option (List Dat) := loopK tE f_impl_IsValidExchange 0 ⟨[(1, (.ptr (500000, 0) x0 0)), (3, (.i .i64 x1)), (32, (.i .i64 x2)), (33, (.i .i64 x3))], [((500000, 0), (.box 49 [(.ro 34 Bool.false x4), (.ro 34 Bool.false x5), (.ro 34 Bool.false x6), (.i .i64 x7)]))]⟩
noncomputable def L_impl_IsValidExchange_1 (x0 : Int) (x1 : Int) (x2 : Int) (x3 : Int) (x4 : Int) (x5 : Int) (x6 : Int) (x7 : List (List Dat)) (x8 : List (List Dat)) (x9 : List (List Dat)) (x10 : Int) (x11 : List (List Dat)) : Option (List Dat) := loopK tE f_impl_IsValidExchange 1 ⟨[(1, (.ptr (500000, 0) x0 0)), (3, (.i .i64 x1)), (4, (.i .i64 x2)), (32, (.i .i64 x3)), (33, (.i .i64 x4)), (56, (.own (500001, 0))), (57, (.i .i64 x5)), (58, (.i .i64 x6))], [((500000, 0), (.box 49 [(.ro 34 Bool.false x7), (.ro 34 Bool.false x8), (.ro 34 Bool.false x9), (.i .i64 x10)])), ((500001, 0), (.row 43 x11 Bool.true 0 []))]⟩
theorem L_impl_IsValidExchange_0_eq (x0 : Int) (x1 : Int) (x2 : Int) (x3 : Int) (x4 : List (List Dat)) (x5 : List (List Dat)) (x6 : List (List Dat)) (x7 : Int) : L_impl_IsValidExchange_0 x0 x1 x2 x3 x4 x5 x6 x7 = (bif (ltI x3 x2) then (bif (inR x3 (lenI x5)) then (bif (ltI x7 (lenI (gl (at' x5 (tn x3))))) then (some [(.bool Bool.false)]) else (bif (inR x3 (lenI x5)) then (bif (inR x3 (lenI x6)) then (((callI tE f_impl_together [(.sl [[(.sl (gl (at' x5 (tn x3))))], [(.sl (gl (at' x6 (tn x3))))]])])).bind (fun r0 => (L_impl_IsValidExchange_1 x0 x1 x3 x2 x3 (lenI (gl r0)) 0 x4 x5 x6 x7 (gl r0)))) else none) else none)) else none) else (some [(.bool Bool.true)])) := (loopK_run (by kernel_rfl)).trans (by kernel_rfl)
theorem L_impl_IsValidExchange_1_eq (x0 : Int) (x1 : Int) (x2 : Int) (x3 : Int) (x4 : Int) (x5 : Int) (x6 : Int) (x7 : List (List Dat)) (x8 : List (List Dat)) (x9 : List (List Dat)) (x10 : Int) (x11 : List (List Dat)) : L_impl_IsValidExchange_1 x0 x1 x2 x3 x4 x5 x6 x7 x8 x9 x10 x11 = (bif (ltI x6 x5) then (bif (inR x6 (lenI x11)) then (((callI tE f_impl_IsValidRow [(.int (gn (at' x11 (tn x6)))), (.int (gn (tk 1 (at' x11 (tn x6))))), (.int (gn (tk 2 (at' x11 (tn x6)))))])).bind (fun r0 => (bif (!(gb r0)) then (some [(.bool Bool.false)]) else (((callI tE f_impl_ReceiverFor [(.int (gn (at' x11 (tn x6)))), (.int (gn (tk 1 (at' x11 (tn x6))))), (.int (gn (tk 2 (at' x11 (tn x6))))), (.int x1)])).bind (fun r1 => (bif (!(eqI (gn r1) x2)) then (some [(.bool Bool.false)]) else (L_impl_IsValidExchange_1 x0 x1 x2 x3 x4 x5 (w64 (x6 + 1)) x7 x8 x9 x10 x11))))))) else none) else (L_impl_IsValidExchange_0 x0 x1 x3 (w64 (x4 + 1)) x7 x8 x9 x10)) := (loopK_run (by kernel_rfl)).trans (by kernel_rfl)
theorem c_impl_IsValidExchange (a0 : List (List Dat)) (a1 : List (List Dat)) (a2 : List (List Dat)) (a3 : Int) : callI tE f_impl_IsValidExchange [.sl a0, .sl a1, .sl a2, .int a3] = (((callI tE f_impl_senders [(.sl a0)])).bind (fun r0 => (bif (!(gb r0)) then (some [(.bool Bool.false)]) else (((callI tE f_impl_within [(.int (lenI a1)), (.int 1), (.int 3)])).bind (fun r1 => (bif (!(gb r1)) then (some [(.bool Bool.false)]) else (bif (!(eqI (lenI a2) (lenI a1))) then (some [(.bool Bool.false)]) else (((callI tE f_impl_within [(.int a3), (.int 1), (.int 9)])).bind (fun r2 => (bif (!(gb r2)) then (some [(.bool Bool.false)]) else (L_impl_IsValidExchange_0 0 (lenI a1) (lenI a1) 0 a0 a1 a2 a3))))))))))) := (callI_run rfl (by kernel_rfl)).trans (by kernel_rfl)
theorem c_impl_cloneExchange (a0 : List (List Dat)) (a1 : List (List Dat)) (a2 : List (List Dat)) (a3 : Int) : callI tE f_impl_cloneExchange [.sl a0, .sl a1, .sl a2, .int a3] = (((callI tE f_impl_cloneLists [(.sl a0)])).bind (fun r0 => (((callI tE f_impl_cloneLists [(.sl a1)])).bind (fun r1 => (((callI tE f_impl_cloneLists [(.sl a2)])).bind (fun r2 => (some [(.sl (gl r0)), (.sl (gl r1)), (.sl (gl r2)), (.int a3)]))))))) := (callI_run rfl (by kernel_rfl)).trans (by kernel_rfl)
theorem c_impl_ReceiveRow (a0 : List (List Dat)) (a1 : List (List Dat)) (a2 : List (List Dat)) (a3 : Int) (a4 : Int) : callI tE f_impl_ReceiveRow [.sl a0, .sl a1, .sl a2, .int a3, .int a4] = (((callI tE f_impl_cloneExchange [(.sl a0), (.sl a1), (.sl a2), (.int a3)])).bind (fun r0 => (((callI tE f_impl_IsValidExchange [(.sl a0), (.sl a1), (.sl a2), (.int a3)])).bind (fun r1 => (bif (!(gb r1)) then (some [(.sl (gl r0)), (.sl (gl (tk 1 r0))), (.sl (gl (tk 2 r0))), (.int (gn (tk 3 r0))), (.bool Bool.false)]) else (((callI tE f_impl_within [(.int a4), (.int 0), (.int (w64 ((lenI a1) - 1)))])).bind (fun r2 => (bif (!(gb r2)) then (some [(.sl (gl r0)), (.sl (gl (tk 1 r0))), (.sl (gl (tk 2 r0))), (.int (gn (tk 3 r0))), (.bool Bool.false)]) else (bif (inR a4 (lenI a1)) then (bif (eqI (lenI (gl (at' a1 (tn a4)))) 0) then (some [(.sl (gl r0)), (.sl (gl (tk 1 r0))), (.sl (gl (tk 2 r0))), (.int (gn (tk 3 r0))), (.bool Bool.false)]) else (bif (inR a4 (lenI (gl (tk 2 r0)))) then (bif (inR a4 (lenI (gl (tk 1 r0)))) then (bif (inR 0 (lenI (gl (at' (gl (tk 1 r0)) (tn a4))))) then (bif (fitM (Nat.succ (len (gl (at' (gl (tk 2 r0)) (tn a4))))) 24) then (bif (inR a4 (lenI (gl (tk 2 r0)))) then (bif ((eqI a4 a4) && Bool.true) then (bif (inR a4 (lenI (gl (tk 1 r0)))) then (bif ((leI 0 1) && (leI 1 (lenI (gl (at' (gl (tk 1 r0)) (tn a4)))))) then (bif (inR a4 (lenI (gl (tk 1 r0)))) then (bif (eqI a4 a4) then (some [(.sl (gl r0)), (.sl (updR (gl (tk 1 r0)) (tn a4) 0 [(.sl (List.take (tn ((lenI (gl (at' (gl (tk 1 r0)) (tn a4)))) - 1)) (List.drop (tn 1) (gl (at' (gl (tk 1 r0)) (tn a4))))))])), (.sl (updR (gl (tk 2 r0)) (tn a4) 0 [(.sl (List.append (gl (at' (gl (tk 2 r0)) (tn a4))) [[(.int (gn (at' (gl (at' (gl (tk 1 r0)) (tn a4))) (tn 0)))), (.int (gn (tk 1 (at' (gl (at' (gl (tk 1 r0)) (tn a4))) (tn 0))))), (.int (gn (tk 2 (at' (gl (at' (gl (tk 1 r0)) (tn a4))) (tn 0)))))]]))])), (.int (gn (tk 3 r0))), (.bool Bool.true)]) else none) else none) else none) else none) else none) else none) else none) else none) else none) else none)) else none))))))))) := (callI_run rfl (by kernel_rfl)).trans (by kernel_rfl)
theorem c_spec_SendRow (a0 : List (List Dat)) (a1 : List (List Dat)) (a2 : List (List Dat)) (a3 : Int) (a4 : Int) : callI tE f_spec_SendRow [.sl a0, .sl a1, .sl a2, .int a3, .int a4] = (((callI tE f_spec_l26Copy [(.sl a0), (.sl a1), (.sl a2), (.int a3)])).bind (fun r0 => (((callI tE f_spec_IsValidExchange [(.sl a0), (.sl a1), (.sl a2), (.int a3)])).bind (fun r1 => (bif (!(gb r1)) then (some [(.sl (gl r0)), (.sl (gl (tk 1 r0))), (.sl (gl (tk 2 r0))), (.int (gn (tk 3 r0))), (.bool Bool.false)]) else (((callI tE f_spec_l1In [(.int a4), (.int 0), (.int (w64 ((lenI a0) - 1)))])).bind (fun r2 => (bif (!(gb r2)) then (some [(.sl (gl r0)), (.sl (gl (tk 1 r0))), (.sl (gl (tk 2 r0))), (.int (gn (tk 3 r0))), (.bool Bool.false)]) else (bif (inR a4 (lenI a0)) then (bif (eqI (lenI (gl (at' a0 (tn a4)))) 0) then (some [(.sl (gl r0)), (.sl (gl (tk 1 r0))), (.sl (gl (tk 2 r0))), (.int (gn (tk 3 r0))), (.bool Bool.false)]) else (bif (inR a4 (lenI a0)) then (bif (inR 0 (lenI (gl (at' a0 (tn a4))))) then (((callI tE f_spec_ReceiverFor [(.int (gn (at' (gl (at' a0 (tn a4))) (tn 0)))), (.int (gn (tk 1 (at' (gl (at' a0 (tn a4))) (tn 0))))), (.int (gn (tk 2 (at' (gl (at' a0 (tn a4))) (tn 0))))), (.int (lenI a1))])).bind (fun r3 => (bif (inR (gn r3) (lenI a1)) then (bif (eqI (lenI (gl (at' a1 (tn (gn r3))))) a3) then (some [(.sl (gl r0)), (.sl (gl (tk 1 r0))), (.sl (gl (tk 2 r0))), (.int (gn (tk 3 r0))), (.bool Bool.false)]) else (bif (inR a4 (lenI (gl r0))) then (bif ((leI 0 1) && (leI 1 (lenI (gl (at' (gl r0) (tn a4)))))) then (bif (inR a4 (lenI (gl r0))) then (bif (eqI a4 a4) then (bif (inR (gn r3) (lenI (gl (tk 1 r0)))) then (bif (fitM (Nat.succ (len (gl (at' (gl (tk 1 r0)) (tn (gn r3)))))) 24) then (bif (inR (gn r3) (lenI (gl (tk 1 r0)))) then (bif ((eqI (gn r3) (gn r3)) && Bool.true) then (some [(.sl (updR (gl r0) (tn a4) 0 [(.sl (List.take (tn ((lenI (gl (at' (gl r0) (tn a4)))) - 1)) (List.drop (tn 1) (gl (at' (gl r0) (tn a4))))))])), (.sl (updR (gl (tk 1 r0)) (tn (gn r3)) 0 [(.sl (List.append (gl (at' (gl (tk 1 r0)) (tn (gn r3)))) [[(.int (gn (at' (gl (at' a0 (tn a4))) (tn 0)))), (.int (gn (tk 1 (at' (gl (at' a0 (tn a4))) (tn 0))))), (.int (gn (tk 2 (at' (gl (at' a0 (tn a4))) (tn 0)))))]]))])), (.sl (gl (tk 2 r0))), (.int (gn (tk 3 r0))), (.bool Bool.true)]) else none) else none) else none) else none) else none) else none) else none) else none)) else none))) else none) else none)) else none))))))))) := (callI_run rfl (by kernel_rfl)).trans (by kernel_rfl)
theorem c_impl_SendRow (a0 : List (List Dat)) (a1 : List (List Dat)) (a2 : List (List Dat)) (a3 : Int) (a4 : Int) : callI tE f_impl_SendRow [.sl a0, .sl a1, .sl a2, .int a3, .int a4] = (((callI tE f_impl_cloneExchange [(.sl a0), (.sl a1), (.sl a2), (.int a3)])).bind (fun r0 => (((callI tE f_impl_IsValidExchange [(.sl a0), (.sl a1), (.sl a2), (.int a3)])).bind (fun r1 => (bif (!(gb r1)) then (some [(.sl (gl r0)), (.sl (gl (tk 1 r0))), (.sl (gl (tk 2 r0))), (.int (gn (tk 3 r0))), (.bool Bool.false)]) else (((callI tE f_impl_within [(.int a4), (.int 0), (.int (w64 ((lenI a0) - 1)))])).bind (fun r2 => (bif (!(gb r2)) then (some [(.sl (gl r0)), (.sl (gl (tk 1 r0))), (.sl (gl (tk 2 r0))), (.int (gn (tk 3 r0))), (.bool Bool.false)]) else (bif (inR a4 (lenI a0)) then (bif (eqI (lenI (gl (at' a0 (tn a4)))) 0) then (some [(.sl (gl r0)), (.sl (gl (tk 1 r0))), (.sl (gl (tk 2 r0))), (.int (gn (tk 3 r0))), (.bool Bool.false)]) else (bif (inR a4 (lenI (gl r0))) then (bif (inR 0 (lenI (gl (at' (gl r0) (tn a4))))) then (((callI tE f_impl_ReceiverFor [(.int (gn (at' (gl (at' (gl r0) (tn a4))) (tn 0)))), (.int (gn (tk 1 (at' (gl (at' (gl r0) (tn a4))) (tn 0))))), (.int (gn (tk 2 (at' (gl (at' (gl r0) (tn a4))) (tn 0))))), (.int (lenI (gl (tk 1 r0))))])).bind (fun r3 => (bif (inR (gn r3) (lenI (gl (tk 1 r0)))) then (bif (eqI (lenI (gl (at' (gl (tk 1 r0)) (tn (gn r3))))) (gn (tk 3 r0))) then (some [(.sl (gl r0)), (.sl (gl (tk 1 r0))), (.sl (gl (tk 2 r0))), (.int (gn (tk 3 r0))), (.bool Bool.false)]) else (bif (inR a4 (lenI (gl r0))) then (bif ((leI 0 1) && (leI 1 (lenI (gl (at' (gl r0) (tn a4)))))) then (bif (inR a4 (lenI (gl r0))) then (bif (eqI a4 a4) then (bif (inR (gn r3) (lenI (gl (tk 1 r0)))) then (bif (fitM (Nat.succ (len (gl (at' (gl (tk 1 r0)) (tn (gn r3)))))) 24) then (bif (inR (gn r3) (lenI (gl (tk 1 r0)))) then (bif ((eqI (gn r3) (gn r3)) && Bool.true) then (some [(.sl (updR (gl r0) (tn a4) 0 [(.sl (List.take (tn ((lenI (gl (at' (gl r0) (tn a4)))) - 1)) (List.drop (tn 1) (gl (at' (gl r0) (tn a4))))))])), (.sl (updR (gl (tk 1 r0)) (tn (gn r3)) 0 [(.sl (List.append (gl (at' (gl (tk 1 r0)) (tn (gn r3)))) [[(.int (gn (at' (gl (at' (gl r0) (tn a4))) (tn 0)))), (.int (gn (tk 1 (at' (gl (at' (gl r0) (tn a4))) (tn 0))))), (.int (gn (tk 2 (at' (gl (at' (gl r0) (tn a4))) (tn 0)))))]]))])), (.sl (gl (tk 2 r0))), (.int (gn (tk 3 r0))), (.bool Bool.true)]) else none) else none) else none) else none) else none) else none) else none) else none)) else none))) else none) else none)) else none))))))))) := (callI_run rfl (by kernel_rfl)).trans (by kernel_rfl)
noncomputable def L_spec_l26May_0 (x0 : Int) (x1 : Int) (x2 : List (List Dat)) (x3 : List (List Dat)) (x4 : List (List Dat)) (x5 : Int) (x6 : List (List Dat)) : Option (List Dat) := loopK tE f_spec_l26May 0 ⟨[(1, (.ptr (500000, 0) x0 0)), (3, (.own (500001, 0))), (4, (.i .i64 x1))], [((500000, 0), (.box 49 [(.ro 34 Bool.false x2), (.ro 34 Bool.false x3), (.ro 34 Bool.false x4), (.i .i64 x5)])), ((500001, 0), (.row 3 x6 Bool.true 0 []))]⟩
noncomputable def L_spec_l26May_1 (x0 : Int) (x1 : Int) (x2 : List (List Dat)) (x3 : List (List Dat)) (x4 : List (List Dat)) (x5 : Int) (x6 : List (List Dat)) : Option (List Dat) := loopK tE f_spec_l26May 1 ⟨[(1, (.ptr (500000, 0) x0 0)), (3, (.own (500001, 0))), (7, (.i .i64 x1))], [((500000, 0), (.box 49 [(.ro 34 Bool.false x2), (.ro 34 Bool.false x3), (.ro 34 Bool.false x4), (.i .i64 x5)])), ((500001, 0), (.row 3 x6 Bool.true 0 []))]⟩
theorem L_spec_l26May_0_eq (x0 : Int) (x1 : Int) (x2 : List (List Dat)) (x3 : List (List Dat)) (x4 : List (List Dat)) (x5 : Int) (x6 : List (List Dat)) : L_spec_l26May_0 x0 x1 x2 x3 x4 x5 x6 = (bif (ltI x1 (lenI x2)) then (((callI tE f_spec_SendRow [(.sl x2), (.sl x3), (.sl x4), (.int x5), (.int x1)])).bind (fun r0 => (bif (gb (tk 4 r0)) then (bif (fitM (Nat.succ (len x6)) 8) then (L_spec_l26May_0 x0 (w64 (x1 + 1)) x2 x3 x4 x5 (List.append x6 [[(.int x1)]])) else none) else (L_spec_l26May_0 x0 (w64 (x1 + 1)) x2 x3 x4 x5 x6)))) else (L_spec_l26May_1 x0 0 x2 x3 x4 x5 x6)) := (loopK_run (by kernel_rfl)).trans (by kernel_rfl)
theorem L_spec_l26May_1_eq (x0 : Int) (x1 : Int) (x2 : List (List Dat)) (x3 : List (List Dat)) (x4 : List (List Dat)) (x5 : Int) (x6 : List (List Dat)) : L_spec_l26May_1 x0 x1 x2 x3 x4 x5 x6 = (bif (ltI x1 (lenI x3)) then (bif (inR x1 (lenI x3)) then (bif (ltI 0 (lenI (gl (at' x3 (tn x1))))) then (bif (fitM (Nat.succ (len x6)) 8) then (L_spec_l26May_1 x0 (w64 (x1 + 1)) x2 x3 x4 x5 (List.append x6 [[(.int (w64 (3 + x1)))]])) else none) else (L_spec_l26May_1 x0 (w64 (x1 + 1)) x2 x3 x4 x5 x6)) else none) else (some [(.sl x6)])) := (loopK_run (by kernel_rfl)).trans (by kernel_rfl)
theorem c_spec_l26May (a0 : List (List Dat)) (a1 : List (List Dat)) (a2 : List (List Dat)) (a3 : Int) : callI tE f_spec_l26May [.sl a0, .sl a1, .sl a2, .int a3] = (L_spec_l26May_0 0 0 a0 a1 a2 a3 []) := (callI_run rfl (by kernel_rfl)).trans (by kernel_rfl)
noncomputable def L_spec_RunExchange_0 (x0 : List (List Dat)) (x1 : Int) (x2 : Int) (x3 : Int) (x4 : Int) (x5 : Int) (x6 : List (List Dat)) (x7 : List (List Dat)) (x8 : List (List Dat)) (x9 : List (List Dat)) (x10 : List (List Dat)) (x11 : List (List Dat)) : Option (List Dat) := loopK tE f_spec_RunExchange 0 ⟨[(1, (.ro 3 Bool.false x0)), (4, (.ptr (500000, 0) x1 0)), (7, (.ptr (500001, 0) x2 0)), (8, (.i .i64 x3))], [((500000, 0), (.box 49 [(.own (500002, 0)), (.own (500003, 0)), (.own (500004, 0)), (.i .i64 x4)])), ((500001, 0), (.box 49 [(.own (500005, 0)), (.own (500006, 0)), (.own (500007, 0)), (.i .i64 x5)])), ((500002, 0), (.row 34 x6 Bool.true 0 [])), ((500003, 0), (.row 34 x7 Bool.true 0 [])), ((500004, 0), (.row 34 x8 Bool.true 0 [])), ((500005, 0), (.row 34 x9 Bool.true 0 [])), ((500006, 0), (.row 34 x10 Bool.true 0 [])), ((500007, 0), (.row 34 x11 Bool.true 0 []))]⟩
theorem L_spec_RunExchange_0_eq (x0 : List (List Dat)) (x1 : Int) (x2 : Int) (x3 : Int) (x4 : Int) (x5 : Int) (x6 : List (List Dat)) (x7 : List (List Dat)) (x8 : List (List Dat)) (x9 : List (List Dat)) (x10 : List (List Dat)) (x11 : List (List Dat)) : L_spec_RunExchange_0 x0 x1 x2 x3 x4 x5 x6 x7 x8 x9 x10 x11 = (((callI tE f_spec_l26May [(.sl x9), (.sl x10), (.sl x11), (.int x5)])).bind (fun r0 => (bif (eqI (lenI (gl r0)) 0) then (some [(.sl x9), (.sl x10), (.sl x11), (.int x5), (.int x3), (.bool Bool.true)]) else (bif (ltI 0 (lenI x0)) then (bif (!(eqI (lenI x0) 0)) then (bif (inR (Int.tmod x3 (lenI x0)) (lenI x0)) then (bif (!(eqI (lenI (gl r0)) 0)) then (bif (!(eqI (lenI (gl r0)) 0)) then (bif (inR (Int.tmod (w64 ((Int.tmod (gn (at' x0 (tn (Int.tmod x3 (lenI x0))))) (lenI (gl r0))) + (lenI (gl r0)))) (lenI (gl r0))) (lenI (gl r0))) then (bif (ltI (gn (at' (gl r0) (tn (Int.tmod (w64 ((Int.tmod (gn (at' x0 (tn (Int.tmod x3 (lenI x0))))) (lenI (gl r0))) + (lenI (gl r0)))) (lenI (gl r0)))))) 3) then (bif (inR (Int.tmod (w64 ((Int.tmod (gn (at' x0 (tn (Int.tmod x3 (lenI x0))))) (lenI (gl r0))) + (lenI (gl r0)))) (lenI (gl r0))) (lenI (gl r0))) then (((callI tE f_spec_SendRow [(.sl x9), (.sl x10), (.sl x11), (.int x5), (.int (gn (at' (gl r0) (tn (Int.tmod (w64 ((Int.tmod (gn (at' x0 (tn (Int.tmod x3 (lenI x0))))) (lenI (gl r0))) + (lenI (gl r0)))) (lenI (gl r0)))))))])).bind (fun r1 => (L_spec_RunExchange_0 x0 x1 x2 (w64 (x3 + 1)) x4 (gn (tk 3 r1)) x6 x7 x8 (gl r1) (gl (tk 1 r1)) (gl (tk 2 r1))))) else none) else (bif (inR (Int.tmod (w64 ((Int.tmod (gn (at' x0 (tn (Int.tmod x3 (lenI x0))))) (lenI (gl r0))) + (lenI (gl r0)))) (lenI (gl r0))) (lenI (gl r0))) then (((callI tE f_spec_ReceiveRow [(.sl x9), (.sl x10), (.sl x11), (.int x5), (.int (w64 ((gn (at' (gl r0) (tn (Int.tmod (w64 ((Int.tmod (gn (at' x0 (tn (Int.tmod x3 (lenI x0))))) (lenI (gl r0))) + (lenI (gl r0)))) (lenI (gl r0)))))) - 3)))])).bind (fun r1 => (L_spec_RunExchange_0 x0 x1 x2 (w64 (x3 + 1)) x4 (gn (tk 3 r1)) x6 x7 x8 (gl r1) (gl (tk 1 r1)) (gl (tk 2 r1))))) else none)) else none) else none) else none) else none) else none) else (bif (inR 0 (lenI (gl r0))) then (bif (ltI (gn (at' (gl r0) (tn 0))) 3) then (bif (inR 0 (lenI (gl r0))) then (((callI tE f_spec_SendRow [(.sl x9), (.sl x10), (.sl x11), (.int x5), (.int (gn (at' (gl r0) (tn 0))))])).bind (fun r1 => (L_spec_RunExchange_0 x0 x1 x2 (w64 (x3 + 1)) x4 (gn (tk 3 r1)) x6 x7 x8 (gl r1) (gl (tk 1 r1)) (gl (tk 2 r1))))) else none) else (bif (inR 0 (lenI (gl r0))) then (((callI tE f_spec_ReceiveRow [(.sl x9), (.sl x10), (.sl x11), (.int x5), (.int (w64 ((gn (at' (gl r0) (tn 0))) - 3)))])).bind (fun r1 => (L_spec_RunExchange_0 x0 x1 x2 (w64 (x3 + 1)) x4 (gn (tk 3 r1)) x6 x7 x8 (gl r1) (gl (tk 1 r1)) (gl (tk 2 r1))))) else none)) else none))))) := (loopK_run (by kernel_rfl)).trans (by kernel_rfl)
theorem c_spec_RunExchange (a0 : List (List Dat)) (a1 : List (List Dat)) (a2 : List (List Dat)) (a3 : Int) (a4 : List (List Dat)) : callI tE f_spec_RunExchange [.sl a0, .sl a1, .sl a2, .int a3, .sl a4] = (((callI tE f_spec_l26Copy [(.sl a0), (.sl a1), (.sl a2), (.int a3)])).bind (fun r0 => (((callI tE f_spec_IsValidExchange [(.sl a0), (.sl a1), (.sl a2), (.int a3)])).bind (fun r1 => (bif (!(gb r1)) then (some [(.sl (gl r0)), (.sl (gl (tk 1 r0))), (.sl (gl (tk 2 r0))), (.int (gn (tk 3 r0))), (.int 0), (.bool Bool.false)]) else (L_spec_RunExchange_0 a4 0 0 0 0 (gn (tk 3 r0)) [] [] [] (gl r0) (gl (tk 1 r0)) (gl (tk 2 r0)))))))) := (callI_run rfl (by kernel_rfl)).trans (by kernel_rfl)
noncomputable def L_spec_l26Same_0 (x0 : List (List Dat)) (x1 : List (List Dat)) (x2 : Int) : Option (List Dat) := loopK tE f_spec_l26Same 0 ⟨[(0, (.ro 34 Bool.false x0)), (1, (.ro 34 Bool.false x1)), (5, (.i .i64 x2))], []⟩
theorem L_spec_l26Same_0_eq (x0 : List (List Dat)) (x1 : List (List Dat)) (x2 : Int) : L_spec_l26Same_0 x0 x1 x2 = (bif (ltI x2 (lenI x0)) then (bif (inR x2 (lenI x0)) then (bif (inR x2 (lenI x1)) then (((callI tE f_spec_l6Rows [(.sl (gl (at' x0 (tn x2)))), (.sl (gl (at' x1 (tn x2))))])).bind (fun r0 => (bif (!(gb r0)) then (some [(.bool Bool.false)]) else (L_spec_l26Same_0 x0 x1 (w64 (x2 + 1)))))) else none) else none) else (some [(.bool Bool.true)])) := (loopK_run (by kernel_rfl)).trans (by kernel_rfl)
theorem c_spec_l26Same (a0 : List (List Dat)) (a1 : List (List Dat)) : callI tE f_spec_l26Same [.sl a0, .sl a1] = (bif (!(eqI (lenI a0) (lenI a1))) then (some [(.bool Bool.false)]) else (L_spec_l26Same_0 a0 a1 0)) := (callI_run rfl (by kernel_rfl)).trans (by kernel_rfl)
theorem c_spec_EqualExchanges (a0 : List (List Dat)) (a1 : List (List Dat)) (a2 : List (List Dat)) (a3 : Int) (a4 : List (List Dat)) (a5 : List (List Dat)) (a6 : List (List Dat)) (a7 : Int) : callI tE f_spec_EqualExchanges [.sl a0, .sl a1, .sl a2, .int a3, .sl a4, .sl a5, .sl a6, .int a7] = (bif (eqI a3 a7) then (((callI tE f_spec_l26Same [(.sl a0), (.sl a4)])).bind (fun r0 => (bif (gb r0) then (((callI tE f_spec_l26Same [(.sl a1), (.sl a5)])).bind (fun r1 => (bif (gb r1) then (((callI tE f_spec_l26Same [(.sl a2), (.sl a6)])).bind (fun r2 => (some [(.bool (gb r2))]))) else (some [(.bool Bool.false)])))) else (some [(.bool Bool.false)])))) else (some [(.bool Bool.false)])) := (callI_run rfl (by kernel_rfl)).trans (by kernel_rfl)
theorem c_impl_IsExchangeDone (a0 : List (List Dat)) (a1 : List (List Dat)) (a2 : List (List Dat)) (a3 : Int) : callI tE f_impl_IsExchangeDone [.sl a0, .sl a1, .sl a2, .int a3] = (((callI tE f_impl_IsValidExchange [(.sl a0), (.sl a1), (.sl a2), (.int a3)])).bind (fun r0 => (bif (gb r0) then (((callI tE f_impl_together [(.sl a0)])).bind (fun r1 => (bif (eqI (lenI (gl r1)) 0) then (((callI tE f_impl_together [(.sl a1)])).bind (fun r2 => (some [(.bool (eqI (lenI (gl r2)) 0))]))) else (some [(.bool Bool.false)])))) else (some [(.bool Bool.false)])))) := (callI_run rfl (by kernel_rfl)).trans (by kernel_rfl)
noncomputable def L_spec_IsExchangeDone_0 (x0 : Int) (x1 : Int) (x2 : List (List Dat)) (x3 : List (List Dat)) (x4 : List (List Dat)) (x5 : Int) : Option (List Dat) := loopK tE f_spec_IsExchangeDone 0 ⟨[(1, (.ptr (500000, 0) x0 0)), (3, (.i .i64 x1))], [((500000, 0), (.box 49 [(.ro 34 Bool.false x2), (.ro 34 Bool.false x3), (.ro 34 Bool.false x4), (.i .i64 x5)]))]⟩
noncomputable def L_spec_IsExchangeDone_1 (x0 : Int) (x1 : Int) (x2 : List (List Dat)) (x3 : List (List Dat)) (x4 : List (List Dat)) (x5 : Int) : Option (List Dat) := loopK tE f_spec_IsExchangeDone 1 ⟨[(1, (.ptr (500000, 0) x0 0)), (4, (.i .i64 x1))], [((500000, 0), (.box 49 [(.ro 34 Bool.false x2), (.ro 34 Bool.false x3), (.ro 34 Bool.false x4), (.i .i64 x5)]))]⟩
theorem L_spec_IsExchangeDone_0_eq (x0 : Int) (x1 : Int) (x2 : List (List Dat)) (x3 : List (List Dat)) (x4 : List (List Dat)) (x5 : Int) : L_spec_IsExchangeDone_0 x0 x1 x2 x3 x4 x5 = (bif (ltI x1 (lenI x2)) then (bif (inR x1 (lenI x2)) then (bif (ltI 0 (lenI (gl (at' x2 (tn x1))))) then (some [(.bool Bool.false)]) else (L_spec_IsExchangeDone_0 x0 (w64 (x1 + 1)) x2 x3 x4 x5)) else none) else (L_spec_IsExchangeDone_1 x0 0 x2 x3 x4 x5)) := (loopK_run (by kernel_rfl)).trans (by kernel_rfl)
theorem L_spec_IsExchangeDone_1_eq (x0 : Int) (x1 : Int) (x2 : List (List Dat)) (x3 : List (List Dat)) (x4 : List (List Dat)) (x5 : Int) : L_spec_IsExchangeDone_1 x0 x1 x2 x3 x4 x5 = (bif (ltI x1 (lenI x3)) then (bif (inR x1 (lenI x3)) then (bif (ltI 0 (lenI (gl (at' x3 (tn x1))))) then (some [(.bool Bool.false)]) else (L_spec_IsExchangeDone_1 x0 (w64 (x1 + 1)) x2 x3 x4 x5)) else none) else (((callI tE f_spec_IsValidExchange [(.sl x2), (.sl x3), (.sl x4), (.int x5)])).bind (fun r0 => (some [(.bool (gb r0))])))) := (loopK_run (by kernel_rfl)).trans (by kernel_rfl)
theorem c_spec_IsExchangeDone (a0 : List (List Dat)) (a1 : List (List Dat)) (a2 : List (List Dat)) (a3 : Int) : callI tE f_spec_IsExchangeDone [.sl a0, .sl a1, .sl a2, .int a3] = (L_spec_IsExchangeDone_0 0 0 a0 a1 a2 a3) := (callI_run rfl (by kernel_rfl)).trans (by kernel_rfl)
noncomputable def L_impl_RunExchange_0 (x0 : List (List Dat)) (x1 : Int) (x2 : Int) (x3 : Int) (x4 : Int) (x5 : Int) (x6 : List (List Dat)) (x7 : List (List Dat)) (x8 : List (List Dat)) (x9 : List (List Dat)) (x10 : List (List Dat)) (x11 : List (List Dat)) : Option (List Dat) := loopK tE f_impl_RunExchange 0 ⟨[(1, (.ro 3 Bool.false x0)), (4, (.ptr (500000, 0) x1 0)), (7, (.ptr (500001, 0) x2 0)), (8, (.i .i64 x3)), (999999, .dead)], [((500000, 0), (.box 49 [(.own (500002, 0)), (.own (500003, 0)), (.own (500004, 0)), (.i .i64 x4)])), ((500001, 0), (.box 49 [(.own (500005, 0)), (.own (500006, 0)), (.own (500007, 0)), (.i .i64 x5)])), ((500002, 0), (.row 34 x6 Bool.true 0 [])), ((500003, 0), (.row 34 x7 Bool.true 0 [])), ((500004, 0), (.row 34 x8 Bool.true 0 [])), ((500005, 0), (.row 34 x9 Bool.true 0 [])), ((500006, 0), (.row 34 x10 Bool.true 0 [])), ((500007, 0), (.row 34 x11 Bool.true 0 []))]⟩
noncomputable def L_impl_RunExchange_1 (x0 : List (List Dat)) (x1 : Int) (x2 : Int) (x3 : Int) (x4 : Int) (x5 : Int) (x6 : Int) (x7 : Int) (x8 : List (List Dat)) (x9 : List (List Dat)) (x10 : List (List Dat)) (x11 : List (List Dat)) (x12 : List (List Dat)) (x13 : List (List Dat)) (x14 : List (List Dat)) : Option (List Dat) := loopK tE f_impl_RunExchange 1 ⟨[(1, (.ro 3 Bool.false x0)), (4, (.ptr (500000, 0) x1 0)), (7, (.ptr (500001, 0) x2 0)), (8, (.i .i64 x3)), (9, (.own (500002, 0))), (28, (.i .i64 x4)), (29, (.i .i64 x5)), (999999, .dead)], [((500000, 0), (.box 49 [(.own (500003, 0)), (.own (500004, 0)), (.own (500005, 0)), (.i .i64 x6)])), ((500001, 0), (.box 49 [(.own (500006, 0)), (.own (500007, 0)), (.own (500008, 0)), (.i .i64 x7)])), ((500002, 0), (.row 49 x8 Bool.true 0 [])), ((500003, 0), (.row 34 x9 Bool.true 0 [])), ((500004, 0), (.row 34 x10 Bool.true 0 [])), ((500005, 0), (.row 34 x11 Bool.true 0 [])), ((500006, 0), (.row 34 x12 Bool.true 0 [])), ((500007, 0), (.row 34 x13 Bool.true 0 [])), ((500008, 0), (.row 34 x14 Bool.true 0 []))]⟩
noncomputable def L_impl_RunExchange_2 (x0 : List (List Dat)) (x1 : Int) (x2 : Int) (x3 : Int) (x4 : Int) (x5 : Int) (x6 : Int) (x7 : Int) (x8 : List (List Dat)) (x9 : List (List Dat)) (x10 : List (List Dat)) (x11 : List (List Dat)) (x12 : List (List Dat)) (x13 : List (List Dat)) (x14 : List (List Dat)) : Option (List Dat) := loopK tE f_impl_RunExchange 2 ⟨[(1, (.ro 3 Bool.false x0)), (4, (.ptr (500000, 0) x1 0)), (7, (.ptr (500001, 0) x2 0)), (8, (.i .i64 x3)), (9, (.own (500002, 0))), (46, (.i .i64 x4)), (47, (.i .i64 x5)), (999999, .dead)], [((500000, 0), (.box 49 [(.own (500003, 0)), (.own (500004, 0)), (.own (500005, 0)), (.i .i64 x6)])), ((500001, 0), (.box 49 [(.own (500006, 0)), (.own (500007, 0)), (.own (500008, 0)), (.i .i64 x7)])), ((500002, 0), (.row 49 x8 Bool.true 0 [])), ((500003, 0), (.row 34 x9 Bool.true 0 [])), ((500004, 0), (.row 34 x10 Bool.true 0 [])), ((500005, 0), (.row 34 x11 Bool.true 0 [])), ((500006, 0), (.row 34 x12 Bool.true 0 [])), ((500007, 0), (.row 34 x13 Bool.true 0 [])), ((500008, 0), (.row 34 x14 Bool.true 0 []))]⟩
noncomputable def L_impl_RunExchange_3 (x0 : List (List Dat)) (x1 : Int) (x2 : Int) (x3 : Int) (x4 : Int) (x5 : Int) (x6 : List (List Dat)) (x7 : Int) (x8 : List (List Dat)) (x9 : Int) (x10 : List (List Dat)) (x11 : Int) (x12 : List (List Dat)) (x13 : List (List Dat)) (x14 : List (List Dat)) (x15 : List (List Dat)) : Option (List Dat) := loopK tE f_impl_RunExchange 0 ⟨[(1, (.ro 3 Bool.false x0)), (4, (.ptr (500000, 0) x1 0)), (7, (.ptr (500001, 0) x2 0)), (8, (.i .i64 x3)), (999999, .dead)], [((500000, 0), (.box 49 [(.own (500002, 0)), (.own (500003, 0)), (.own (500004, 0)), (.i .i64 x4)])), ((500001, 0), (.box 49 [(.nest (500005, 0) 0 x5 0 34 Bool.true x6), (.nest (500005, 0) 0 x7 1 34 Bool.true x8), (.nest (500005, 0) 0 x9 2 34 Bool.true x10), (.i .i64 x11)])), ((500002, 0), (.row 34 x12 Bool.true 0 [])), ((500003, 0), (.row 34 x13 Bool.true 0 [])), ((500004, 0), (.row 34 x14 Bool.true 0 [])), ((500005, 0), (.row 49 x15 Bool.true 0 []))]⟩
noncomputable def L_impl_RunExchange_4 (x0 : List (List Dat)) (x1 : Int) (x2 : Int) (x3 : Int) (x4 : Int) (x5 : Int) (x6 : Int) (x7 : Int) (x8 : List (List Dat)) (x9 : Int) (x10 : List (List Dat)) (x11 : Int) (x12 : List (List Dat)) (x13 : Int) (x14 : List (List Dat)) (x15 : List (List Dat)) (x16 : List (List Dat)) (x17 : List (List Dat)) (x18 : List (List Dat)) : Option (List Dat) := loopK tE f_impl_RunExchange 1 ⟨[(1, (.ro 3 Bool.false x0)), (4, (.ptr (500000, 0) x1 0)), (7, (.ptr (500001, 0) x2 0)), (8, (.i .i64 x3)), (9, (.own (500002, 0))), (28, (.i .i64 x4)), (29, (.i .i64 x5)), (999999, .dead)], [((500000, 0), (.box 49 [(.own (500003, 0)), (.own (500004, 0)), (.own (500005, 0)), (.i .i64 x6)])), ((500001, 0), (.box 49 [(.nest (500006, 0) 0 x7 0 34 Bool.true x8), (.nest (500006, 0) 0 x9 1 34 Bool.true x10), (.nest (500006, 0) 0 x11 2 34 Bool.true x12), (.i .i64 x13)])), ((500002, 0), (.row 49 x14 Bool.true 0 [])), ((500003, 0), (.row 34 x15 Bool.true 0 [])), ((500004, 0), (.row 34 x16 Bool.true 0 [])), ((500005, 0), (.row 34 x17 Bool.true 0 [])), ((500006, 0), (.row 49 x18 Bool.true 0 []))]⟩
noncomputable def L_impl_RunExchange_5 (x0 : List (List Dat)) (x1 : Int) (x2 : Int) (x3 : Int) (x4 : Int) (x5 : Int) (x6 : Int) (x7 : Int) (x8 : List (List Dat)) (x9 : Int) (x10 : List (List Dat)) (x11 : Int) (x12 : List (List Dat)) (x13 : Int) (x14 : List (List Dat)) (x15 : List (List Dat)) (x16 : List (List Dat)) (x17 : List (List Dat)) (x18 : List (List Dat)) : Option (List Dat) := loopK tE f_impl_RunExchange 2 ⟨[(1, (.ro 3 Bool.false x0)), (4, (.ptr (500000, 0) x1 0)), (7, (.ptr (500001, 0) x2 0)), (8, (.i .i64 x3)), (9, (.own (500002, 0))), (46, (.i .i64 x4)), (47, (.i .i64 x5)), (999999, .dead)], [((500000, 0), (.box 49 [(.own (500003, 0)), (.own (500004, 0)), (.own (500005, 0)), (.i .i64 x6)])), ((500001, 0), (.box 49 [(.nest (500006, 0) 0 x7 0 34 Bool.true x8), (.nest (500006, 0) 0 x9 1 34 Bool.true x10), (.nest (500006, 0) 0 x11 2 34 Bool.true x12), (.i .i64 x13)])), ((500002, 0), (.row 49 x14 Bool.true 0 [])), ((500003, 0), (.row 34 x15 Bool.true 0 [])), ((500004, 0), (.row 34 x16 Bool.true 0 [])), ((500005, 0), (.row 34 x17 Bool.true 0 [])), ((500006, 0), (.row 49 x18 Bool.true 0 []))]⟩
theorem L_impl_RunExchange_0_eq (x0 : List (List Dat)) (x1 : Int) (x2 : Int) (x3 : Int) (x4 : Int) (x5 : Int) (x6 : List (List Dat)) (x7 : List (List Dat)) (x8 : List (List Dat)) (x9 : List (List Dat)) (x10 : List (List Dat)) (x11 : List (List Dat)) : L_impl_RunExchange_0 x0 x1 x2 x3 x4 x5 x6 x7 x8 x9 x10 x11 = (L_impl_RunExchange_1 x0 x1 x2 x3 (lenI x9) 0 x4 x5 [] x6 x7 x8 x9 x10 x11) := (loopK_run (by kernel_rfl)).trans (by kernel_rfl)
theorem L_impl_RunExchange_1_eq (x0 : List (List Dat)) (x1 : Int) (x2 : Int) (x3 : Int) (x4 : Int) (x5 : Int) (x6 : Int) (x7 : Int) (x8 : List (List Dat)) (x9 : List (List Dat)) (x10 : List (List Dat)) (x11 : List (List Dat)) (x12 : List (List Dat)) (x13 : List (List Dat)) (x14 : List (List Dat)) : L_impl_RunExchange_1 x0 x1 x2 x3 x4 x5 x6 x7 x8 x9 x10 x11 x12 x13 x14 = (bif (ltI x5 x4) then (((callI tE f_impl_SendRow [(.sl x12), (.sl x13), (.sl x14), (.int x7), (.int x5)])).bind (fun r0 => (bif (gb (tk 4 r0)) then (bif (fitM (Nat.succ (len x8)) 80) then (L_impl_RunExchange_1 x0 x1 x2 x3 x4 (w64 (x5 + 1)) x6 x7 (List.append x8 [[(.sl (gl r0)), (.sl (gl (tk 1 r0))), (.sl (gl (tk 2 r0))), (.int (gn (tk 3 r0)))]]) x9 x10 x11 x12 x13 x14) else none) else (L_impl_RunExchange_1 x0 x1 x2 x3 x4 (w64 (x5 + 1)) x6 x7 x8 x9 x10 x11 x12 x13 x14)))) else (L_impl_RunExchange_2 x0 x1 x2 x3 (lenI x13) 0 x6 x7 x8 x9 x10 x11 x12 x13 x14)) := (loopK_run (by kernel_rfl)).trans (by kernel_rfl)
theorem L_impl_RunExchange_2_eq (x0 : List (List Dat)) (x1 : Int) (x2 : Int) (x3 : Int) (x4 : Int) (x5 : Int) (x6 : Int) (x7 : Int) (x8 : List (List Dat)) (x9 : List (List Dat)) (x10 : List (List Dat)) (x11 : List (List Dat)) (x12 : List (List Dat)) (x13 : List (List Dat)) (x14 : List (List Dat)) : L_impl_RunExchange_2 x0 x1 x2 x3 x4 x5 x6 x7 x8 x9 x10 x11 x12 x13 x14 = (bif (ltI x5 x4) then (((callI tE f_impl_ReceiveRow [(.sl x12), (.sl x13), (.sl x14), (.int x7), (.int x5)])).bind (fun r0 => (bif (gb (tk 4 r0)) then (bif (fitM (Nat.succ (len x8)) 80) then (L_impl_RunExchange_2 x0 x1 x2 x3 x4 (w64 (x5 + 1)) x6 x7 (List.append x8 [[(.sl (gl r0)), (.sl (gl (tk 1 r0))), (.sl (gl (tk 2 r0))), (.int (gn (tk 3 r0)))]]) x9 x10 x11 x12 x13 x14) else none) else (L_impl_RunExchange_2 x0 x1 x2 x3 x4 (w64 (x5 + 1)) x6 x7 x8 x9 x10 x11 x12 x13 x14)))) else (bif (eqI (lenI x8) 0) then (some [(.sl x12), (.sl x13), (.sl x14), (.int x7), (.int x3), (.bool Bool.true)]) else (bif (ltI 0 (lenI x0)) then (bif (!(eqI (lenI x0) 0)) then (bif (inR (Int.tmod x3 (lenI x0)) (lenI x0)) then (bif (!(eqI (lenI x8) 0)) then (bif (!(eqI (lenI x8) 0)) then (bif (inR (Int.tmod (w64 ((Int.tmod (gn (at' x0 (tn (Int.tmod x3 (lenI x0))))) (lenI x8)) + (lenI x8))) (lenI x8)) (lenI x8)) then (L_impl_RunExchange_3 x0 x1 x2 (w64 (x3 + 1)) x6 (Int.tmod (w64 ((Int.tmod (gn (at' x0 (tn (Int.tmod x3 (lenI x0))))) (lenI x8)) + (lenI x8))) (lenI x8)) (gl (at' x8 (tn (Int.tmod (w64 ((Int.tmod (gn (at' x0 (tn (Int.tmod x3 (lenI x0))))) (lenI x8)) + (lenI x8))) (lenI x8))))) (Int.tmod (w64 ((Int.tmod (gn (at' x0 (tn (Int.tmod x3 (lenI x0))))) (lenI x8)) + (lenI x8))) (lenI x8)) (gl (tk 1 (at' x8 (tn (Int.tmod (w64 ((Int.tmod (gn (at' x0 (tn (Int.tmod x3 (lenI x0))))) (lenI x8)) + (lenI x8))) (lenI x8)))))) (Int.tmod (w64 ((Int.tmod (gn (at' x0 (tn (Int.tmod x3 (lenI x0))))) (lenI x8)) + (lenI x8))) (lenI x8)) (gl (tk 2 (at' x8 (tn (Int.tmod (w64 ((Int.tmod (gn (at' x0 (tn (Int.tmod x3 (lenI x0))))) (lenI x8)) + (lenI x8))) (lenI x8)))))) (gn (tk 3 (at' x8 (tn (Int.tmod (w64 ((Int.tmod (gn (at' x0 (tn (Int.tmod x3 (lenI x0))))) (lenI x8)) + (lenI x8))) (lenI x8)))))) x9 x10 x11 x8) else none) else none) else none) else none) else none) else (bif (inR 0 (lenI x8)) then (L_impl_RunExchange_3 x0 x1 x2 (w64 (x3 + 1)) x6 0 (gl (at' x8 (tn 0))) 0 (gl (tk 1 (at' x8 (tn 0)))) 0 (gl (tk 2 (at' x8 (tn 0)))) (gn (tk 3 (at' x8 (tn 0)))) x9 x10 x11 x8) else none)))) := (loopK_run (by kernel_rfl)).trans (by kernel_rfl)
theorem L_impl_RunExchange_3_eq (x0 : List (List Dat)) (x1 : Int) (x2 : Int) (x3 : Int) (x4 : Int) (x5 : Int) (x6 : List (List Dat)) (x7 : Int) (x8 : List (List Dat)) (x9 : Int) (x10 : List (List Dat)) (x11 : Int) (x12 : List (List Dat)) (x13 : List (List Dat)) (x14 : List (List Dat)) (x15 : List (List Dat)) : L_impl_RunExchange_3 x0 x1 x2 x3 x4 x5 x6 x7 x8 x9 x10 x11 x12 x13 x14 x15 = (L_impl_RunExchange_4 x0 x1 x2 x3 (lenI x6) 0 x4 x5 x6 x7 x8 x9 x10 x11 [] x12 x13 x14 x15) := (loopK_run (by kernel_rfl)).trans (by kernel_rfl)
theorem L_impl_RunExchange_4_eq (x0 : List (List Dat)) (x1 : Int) (x2 : Int) (x3 : Int) (x4 : Int) (x5 : Int) (x6 : Int) (x7 : Int) (x8 : List (List Dat)) (x9 : Int) (x10 : List (List Dat)) (x11 : Int) (x12 : List (List Dat)) (x13 : Int) (x14 : List (List Dat)) (x15 : List (List Dat)) (x16 : List (List Dat)) (x17 : List (List Dat)) (x18 : List (List Dat)) : L_impl_RunExchange_4 x0 x1 x2 x3 x4 x5 x6 x7 x8 x9 x10 x11 x12 x13 x14 x15 x16 x17 x18 = (bif (ltI x5 x4) then (((callI tE f_impl_SendRow [(.sl x8), (.sl x10), (.sl x12), (.int x13), (.int x5)])).bind (fun r0 => (bif (gb (tk 4 r0)) then (bif (fitM (Nat.succ (len x14)) 80) then (L_impl_RunExchange_4 x0 x1 x2 x3 x4 (w64 (x5 + 1)) x6 x7 x8 x9 x10 x11 x12 x13 (List.append x14 [[(.sl (gl r0)), (.sl (gl (tk 1 r0))), (.sl (gl (tk 2 r0))), (.int (gn (tk 3 r0)))]]) x15 x16 x17 x18) else none) else (L_impl_RunExchange_4 x0 x1 x2 x3 x4 (w64 (x5 + 1)) x6 x7 x8 x9 x10 x11 x12 x13 x14 x15 x16 x17 x18)))) else (L_impl_RunExchange_5 x0 x1 x2 x3 (lenI x10) 0 x6 x7 x8 x9 x10 x11 x12 x13 x14 x15 x16 x17 x18)) := (loopK_run (by kernel_rfl)).trans (by kernel_rfl)
theorem L_impl_RunExchange_5_eq (x0 : List (List Dat)) (x1 : Int) (x2 : Int) (x3 : Int) (x4 : Int) (x5 : Int) (x6 : Int) (x7 : Int) (x8 : List (List Dat)) (x9 : Int) (x10 : List (List Dat)) (x11 : Int) (x12 : List (List Dat)) (x13 : Int) (x14 : List (List Dat)) (x15 : List (List Dat)) (x16 : List (List Dat)) (x17 : List (List Dat)) (x18 : List (List Dat)) : L_impl_RunExchange_5 x0 x1 x2 x3 x4 x5 x6 x7 x8 x9 x10 x11 x12 x13 x14 x15 x16 x17 x18 = (bif (ltI x5 x4) then (((callI tE f_impl_ReceiveRow [(.sl x8), (.sl x10), (.sl x12), (.int x13), (.int x5)])).bind (fun r0 => (bif (gb (tk 4 r0)) then (bif (fitM (Nat.succ (len x14)) 80) then (L_impl_RunExchange_5 x0 x1 x2 x3 x4 (w64 (x5 + 1)) x6 x7 x8 x9 x10 x11 x12 x13 (List.append x14 [[(.sl (gl r0)), (.sl (gl (tk 1 r0))), (.sl (gl (tk 2 r0))), (.int (gn (tk 3 r0)))]]) x15 x16 x17 x18) else none) else (L_impl_RunExchange_5 x0 x1 x2 x3 x4 (w64 (x5 + 1)) x6 x7 x8 x9 x10 x11 x12 x13 x14 x15 x16 x17 x18)))) else (bif (eqI (lenI x14) 0) then (some [(.sl x8), (.sl x10), (.sl x12), (.int x13), (.int x3), (.bool Bool.true)]) else (bif (ltI 0 (lenI x0)) then (bif (!(eqI (lenI x0) 0)) then (bif (inR (Int.tmod x3 (lenI x0)) (lenI x0)) then (bif (!(eqI (lenI x14) 0)) then (bif (!(eqI (lenI x14) 0)) then (bif (inR (Int.tmod (w64 ((Int.tmod (gn (at' x0 (tn (Int.tmod x3 (lenI x0))))) (lenI x14)) + (lenI x14))) (lenI x14)) (lenI x14)) then (L_impl_RunExchange_3 x0 x1 x2 (w64 (x3 + 1)) x6 (Int.tmod (w64 ((Int.tmod (gn (at' x0 (tn (Int.tmod x3 (lenI x0))))) (lenI x14)) + (lenI x14))) (lenI x14)) (gl (at' x14 (tn (Int.tmod (w64 ((Int.tmod (gn (at' x0 (tn (Int.tmod x3 (lenI x0))))) (lenI x14)) + (lenI x14))) (lenI x14))))) (Int.tmod (w64 ((Int.tmod (gn (at' x0 (tn (Int.tmod x3 (lenI x0))))) (lenI x14)) + (lenI x14))) (lenI x14)) (gl (tk 1 (at' x14 (tn (Int.tmod (w64 ((Int.tmod (gn (at' x0 (tn (Int.tmod x3 (lenI x0))))) (lenI x14)) + (lenI x14))) (lenI x14)))))) (Int.tmod (w64 ((Int.tmod (gn (at' x0 (tn (Int.tmod x3 (lenI x0))))) (lenI x14)) + (lenI x14))) (lenI x14)) (gl (tk 2 (at' x14 (tn (Int.tmod (w64 ((Int.tmod (gn (at' x0 (tn (Int.tmod x3 (lenI x0))))) (lenI x14)) + (lenI x14))) (lenI x14)))))) (gn (tk 3 (at' x14 (tn (Int.tmod (w64 ((Int.tmod (gn (at' x0 (tn (Int.tmod x3 (lenI x0))))) (lenI x14)) + (lenI x14))) (lenI x14)))))) x15 x16 x17 x14) else none) else none) else none) else none) else none) else (bif (inR 0 (lenI x14)) then (L_impl_RunExchange_3 x0 x1 x2 (w64 (x3 + 1)) x6 0 (gl (at' x14 (tn 0))) 0 (gl (tk 1 (at' x14 (tn 0)))) 0 (gl (tk 2 (at' x14 (tn 0)))) (gn (tk 3 (at' x14 (tn 0)))) x15 x16 x17 x14) else none)))) := (loopK_run (by kernel_rfl)).trans (by kernel_rfl)
theorem c_impl_RunExchange (a0 : List (List Dat)) (a1 : List (List Dat)) (a2 : List (List Dat)) (a3 : Int) (a4 : List (List Dat)) : callI tE f_impl_RunExchange [.sl a0, .sl a1, .sl a2, .int a3, .sl a4] = (((callI tE f_impl_cloneExchange [(.sl a0), (.sl a1), (.sl a2), (.int a3)])).bind (fun r0 => (((callI tE f_impl_IsValidExchange [(.sl a0), (.sl a1), (.sl a2), (.int a3)])).bind (fun r1 => (bif (!(gb r1)) then (some [(.sl (gl r0)), (.sl (gl (tk 1 r0))), (.sl (gl (tk 2 r0))), (.int (gn (tk 3 r0))), (.int 0), (.bool Bool.false)]) else (L_impl_RunExchange_0 a4 0 0 0 0 (gn (tk 3 r0)) [] [] [] (gl r0) (gl (tk 1 r0)) (gl (tk 2 r0)))))))) := (callI_run rfl (by kernel_rfl)).trans (by kernel_rfl)
end Go.Proofs.Ytbmafhpbinjgaaa.Vai
namespace Go.Proofs.Ytbmafhpbinjgaaa.Vai
open Go
set_option linter.unusedSimpArgs false
set_option linter.unusedVariables false
set_option linter.unnecessarySimpa false
set_option maxRecDepth 100000
noncomputable def L_impl_together_0 (x0 : List (List Dat)) (x1 : Int) (x2 : Int) (x3 : List (List Dat)) : Option (List Dat) := loopK tE f_impl_together 0 ⟨[(3, (.own (500000, 0))), (7, (.ro 34 Bool.false x0)), (8, (.i .i64 x1)), (9, (.i .i64 x2))], [((500000, 0), (.row 43 x3 Bool.true 0 []))]⟩
theorem L_impl_together_0_eq (x0 : List (List Dat)) (x1 : Int) (x2 : Int) (x3 : List (List Dat)) : L_impl_together_0 x0 x1 x2 x3 = (bif (ltI x2 x1) then (bif (inR x2 (lenI x0)) then (bif (fitM ((len x3) + (len (gl (at' x0 (tn x2))))) 24) then (L_impl_together_0 x0 x1 (w64 (x2 + 1)) (List.append x3 (gl (at' x0 (tn x2))))) else none) else none) else (some [(.sl x3)])) := (loopK_run (by kernel_rfl)).trans (by kernel_rfl)
theorem c_impl_together (a0 : List (List Dat)) : callI tE f_impl_together [.sl a0] = (L_impl_together_0 a0 (lenI a0) 0 []) := (callI_run rfl (by kernel_rfl)).trans (by kernel_rfl)
end Go.Proofs.Ytbmafhpbinjgaaa.Vai
namespace Go.Proofs.Ytbmafhpbinjgaaa.Vai
open Go
set_option linter.unusedSimpArgs false
set_option linter.unusedVariables false
set_option linter.unnecessarySimpa false
set_option maxRecDepth 10000
theorem split_at {α : Type} {l : List α} {n : Nat} (h : n < l.length) : ∃ u a v, l = u ++ a :: v ∧ u.length = n :=
  ⟨l.take n, l[n], l.drop (n + 1), by
    have := List.take_append_drop n l
    rw [List.drop_eq_getElem_cons h] at this
    exact this.symm, by simp; omega⟩
theorem getD_m {α : Type} (u v : List α) (a d : α) : (u ++ a :: v).getD u.length d = a := by simp [List.getD_eq_getElem?_getD]
theorem set_m {α : Type} (u v : List α) (a b : α) : (u ++ a :: v).set u.length b = u ++ b :: v := by rw [List.set_append_right _ _ (Nat.le_refl _)]; simp
theorem upd_rs (u v : List (List Rw)) (a : List Rw) (X : Rows) : updR ((u ++ a :: v).map rsE) u.length 0 [.sl X] = u.map rsE ++ [.sl X] :: v.map rsE := by
  rw [upd_m]; rfl
theorem map_rs (u v : List (List Rw)) (a : List Rw) : u.map rsE ++ [Dat.sl (a.map Rw.e)] :: v.map rsE = (u ++ a :: v).map rsE := by simp [rsE]
theorem cut_tail (r : Rw) (p : List Rw) : List.take (tn (lenI ((r :: p).map Rw.e) - 1)) (List.drop (tn 1) ((r :: p).map Rw.e)) = p.map Rw.e := by
  rw [lenI_map]
  show List.take ((((r :: p).length : Nat) : Int) - 1).toNat (List.drop 1 (Rw.e r :: p.map Rw.e)) = _
  simp [List.take_of_length_le]
theorem szL_mem' {l : List (List Rw)} {a : List Rw} (h : a ∈ l) : a.length ≤ szL List.length l := szL_mem h
theorem rs_app (l : List (List Rw)) (a : List Rw) : List.append (l.map rsE) [[Dat.sl (a.map Rw.e)]] = (l ++ [a]).map rsE := by simp [rsE]
theorem sLists (l : List (List Rw)) (h : szL List.length l ≤ 1073741824) : callI tE f_spec_l26Lists [.sl (l.map rsE)] = some [.sl (l.map rsE)] := by
  have hl := szL_len List.length l
  rw [c_spec_l26Lists]
  have := zip_loop (l := l) (L := fun (s : List (List Rw)) i => L_spec_l26Lists_0 (l.map rsE) i (s.map rsE)) (F := fun _ _ => some [.sl (l.map rsE)]) (I := fun s u _ => s = u) (by omega) (fun u a v s e hI => by
    have ha : a.length ≤ 1073741824 := Nat.le_trans (szL_mem' (by rw [e]; simp)) h
    have hul : u.length ≤ 1073741824 := by rw [e] at hl h; simp at hl; rw [e] at *; omega
    refine .inl ⟨u ++ [a], ?_, rfl, rfl⟩
    show L_spec_l26Lists_0 _ _ _ = L_spec_l26Lists_0 _ _ _
    subst e
    rw [L_spec_l26Lists_0_eq, hI]
    simp only [lt_m, in_m, tn_c, at_m, cond_true, rsE, gn_c, gb_c, gs_c, gl_c, tk_s, tk_0, List.drop_succ_cons, List.drop_zero, List.headD_cons, List.getD_cons_zero, List.getD_cons_succ, bind_s, len_map]
    rw [show fitM (0 + a.length) 24 = true from fitT (by omega), show fitM (Nat.succ u.length) 24 = true from fitT (by omega), rs_app]
    rfl) (fun s hs => by
    show L_spec_l26Lists_0 _ _ _ = _
    rw [L_spec_l26Lists_0_eq, lt_e, cond_false, hs]) [] rfl
  exact this
theorem iCloneLists (l : List (List Rw)) (h : szL List.length l ≤ 1073741824) : callI tE f_impl_cloneLists [.sl (l.map rsE)] = some [.sl (l.map rsE)] := by
  have hl := szL_len List.length l
  rw [c_impl_cloneLists]
  have := zip_loop (l := l) (L := fun (s : List (List Rw)) i => L_impl_cloneLists_0 (l.map rsE) (lenI (l.map rsE)) i (s.map rsE)) (F := fun _ _ => some [.sl (l.map rsE)]) (I := fun s u _ => s = u) (by omega) (fun u a v s e hI => by
    have ha : a.length ≤ 1073741824 := Nat.le_trans (szL_mem' (by rw [e]; simp)) h
    have hul : u.length ≤ 1073741824 := by rw [e] at hl h; simp at hl; rw [e] at *; omega
    refine .inl ⟨u ++ [a], ?_, rfl, rfl⟩
    show L_impl_cloneLists_0 _ _ _ _ = L_impl_cloneLists_0 _ _ _ _
    subst e
    rw [L_impl_cloneLists_0_eq, hI]
    simp only [lt_m, in_m, tn_c, at_m, cond_true, rsE, gn_c, gb_c, gs_c, gl_c, tk_s, tk_0, List.drop_succ_cons, List.drop_zero, List.headD_cons, List.getD_cons_zero, List.getD_cons_succ, bind_s, iClone a (by omega), len_map]
    rw [show fitM (Nat.succ u.length) 24 = true from fitT (by omega), rs_app]
    rfl) (fun s hs => by
    show L_impl_cloneLists_0 _ _ _ _ = _
    rw [L_impl_cloneLists_0_eq, lt_e, cond_false, hs]) [] rfl
  exact this
def Xc.B (x : Xc) : Prop := x.sz ≤ 1073741824
theorem Xc.B.p {x : Xc} (h : x.B) : szL List.length x.pend ≤ 1073741824 ∧ szL List.length x.que ≤ 1073741824 ∧ szL List.length x.got ≤ 1073741824 := by
  simp only [Xc.B, Xc.sz] at h; omega
theorem iCloneX (x : Xc) (h : x.B) : callI tE f_impl_cloneExchange [.sl (x.pend.map rsE), .sl (x.que.map rsE), .sl (x.got.map rsE), .int x.cap] = some [.sl (x.pend.map rsE), .sl (x.que.map rsE), .sl (x.got.map rsE), .int x.cap] := by
  obtain ⟨h1, h2, h3⟩ := h.p
  simp only [c_impl_cloneExchange, iCloneLists _ h1, iCloneLists _ h2, iCloneLists _ h3, gn_c, gb_c, gs_c, gl_c, tk_s, tk_0, List.drop_succ_cons, List.drop_zero, List.headD_cons, List.getD_cons_zero, List.getD_cons_succ, bind_s]
theorem sCopyX (x : Xc) (h : x.B) : callI tE f_spec_l26Copy [.sl (x.pend.map rsE), .sl (x.que.map rsE), .sl (x.got.map rsE), .int x.cap] = some [.sl (x.pend.map rsE), .sl (x.que.map rsE), .sl (x.got.map rsE), .int x.cap] := by
  obtain ⟨h1, h2, h3⟩ := h.p
  simp only [c_spec_l26Copy, sLists _ h1, sLists _ h2, sLists _ h3, gn_c, gb_c, gs_c, gl_c, tk_s, tk_0, List.drop_succ_cons, List.drop_zero, List.headD_cons, List.getD_cons_zero, List.getD_cons_succ, bind_s]
def sendOk (l : List (List Rw)) : Bool := l.all aok && win l.length 1 3
theorem iSenders (l : List (List Rw)) (h : szL List.length l ≤ 1073741824) : callI tE f_impl_senders [.sl (l.map rsE)] = some [.bool (sendOk l)] := by
  have hl := szL_len List.length l
  rw [c_impl_senders]
  have := all_loop (l := l) (L := L_impl_senders_0 (l.map rsE) (l.map rsE) (lenI (l.map rsE))) (p := aok) (no := some [.bool false]) (yes := some [.bool (win l.length 1 3)]) (by omega) (fun u a v e => by
    subst e
    rw [L_impl_senders_0_eq]
    simp only [lt_m, in_m, tn_c, at_m, cond_true, rsE, gn_c, gb_c, gs_c, gl_c, tk_s, tk_0, List.drop_succ_cons, List.drop_zero, List.headD_cons, List.getD_cons_zero, List.getD_cons_succ, bind_s, iAreValid, bifn]) (by
    rw [L_impl_senders_0_eq, lt_e, cond_false, lenI_map]
    simp only [within_ok, gn_c, gb_c, gs_c, gl_c, tk_s, tk_0, List.drop_succ_cons, List.drop_zero, List.headD_cons, List.getD_cons_zero, List.getD_cons_succ, bind_s])
  refine this.trans ?_
  unfold sendOk
  cases l.all aok <;> rfl
def NX (p : List (List Rw)) (r c : Int) : Xc × Bool := if sendOk p = true ∧ win r 1 3 = true ∧ win c 1 9 = true then (⟨p, List.replicate r.toNat [], List.replicate r.toNat [], c⟩, true) else (⟨[], [], [], 0⟩, false)
def XB (x : Xc × Bool) : List Dat := [.sl (x.1.pend.map rsE), .sl (x.1.que.map rsE), .sl (x.1.got.map rsE), .int x.1.cap, .bool x.2]
theorem sNew1 (p : List (List Rw)) (x1 x2 x3 c : Int) (x5 x6 x7 : Rows) : ∀ (k n : Nat), n + k ≤ 100 → L_spec_NewExchange_1 ((n + k : Nat) : Int) x1 x2 x3 c x5 x6 x7 (p.map rsE) ((List.replicate n ([] : List Rw)).map rsE) ((List.replicate n ([] : List Rw)).map rsE) = some (XB (⟨p, List.replicate (n + k) [], List.replicate (n + k) [], c⟩, true))
  | 0, n, h => by
    rw [L_spec_NewExchange_1_eq, lenI_map, ltF (by simp)]; rfl
  | k + 1, n, h => by
    rw [L_spec_NewExchange_1_eq, lenI_map, ltT (by simp; omega), len_map]
    rw [show fitM (Nat.succ (List.replicate n ([] : List Rw)).length) 24 = true from fitT (by simp; omega)]
    have e : List.append ((List.replicate n ([] : List Rw)).map rsE) [[Dat.sl []]] = (List.replicate (n + 1) ([] : List Rw)).map rsE := by rw [List.replicate_succ']; simp [rsE]
    rw [e]
    have := sNew1 p x1 x2 x3 c x5 x6 x7 k (n + 1) (by omega)
    rw [show n + 1 + k = n + (k + 1) by omega] at this
    exact this
theorem sNewX (p : List (List Rw)) (r c : Int) (h : szL List.length p ≤ 1073741824) : callI tE f_spec_NewExchange [.sl (p.map rsE), .int r, .int c] = some (XB (NX p r c)) := by
  have hl := szL_len List.length p
  rw [c_spec_NewExchange]
  have fin : L_spec_NewExchange_0 (p.map rsE) r c 0 (p.length : Nat) 0 [] [] [] = bif win p.length 1 3 && (win r 1 3 && win c 1 9) then some (XB (⟨p, List.replicate r.toNat [], List.replicate r.toNat [], c⟩, true)) else some (XB (⟨[], [], [], 0⟩, false)) := by
    rw [L_spec_NewExchange_0_eq, lt_e, cond_false, lenI_map]
    simp only [l1In_ok, gn_c, gb_c, gs_c, gl_c, tk_s, tk_0, List.drop_succ_cons, List.drop_zero, List.headD_cons, List.getD_cons_zero, List.getD_cons_succ, bind_s, sLists p h]
    cases win p.length 1 3
    · rfl
    · cases h2 : win r 1 3
      · rfl
      · cases win c 1 9
        · rfl
        · have := win_iff.mp h2
          have := sNew1 p 0 0 0 c [] [] [] r.toNat 0 (by omega)
          rw [show ((0 + r.toNat : Nat) : Int) = r by omega, show 0 + r.toNat = r.toNat by omega] at this
          exact this
  have := all_loop (l := p) (L := fun i => L_spec_NewExchange_0 (p.map rsE) r c 0 i 0 [] [] []) (p := aok) (no := some (XB (⟨[], [], [], 0⟩, false))) (by omega) (fun u a v e => by
    subst e
    have ha : a.length ≤ 1073741824 := Nat.le_trans (szL_mem' (by simp)) h
    rw [L_spec_NewExchange_0_eq]
    simp only [lt_m, in_m, tn_c, at_m, cond_true, rsE, gn_c, gb_c, gs_c, gl_c, tk_s, tk_0, List.drop_succ_cons, List.drop_zero, List.headD_cons, List.getD_cons_zero, List.getD_cons_succ, bind_s, sAreValid a (by omega), bifn]
    rfl) fin
  refine this.trans ?_
  unfold NX sendOk
  cases p.all aok
  · rfl
  · cases win p.length 1 3
    · rfl
    · cases win r 1 3
      · rfl
      · cases win c 1 9 <;> rfl
def recv (r : Rw) (n : Int) : Int := if win n 1 3 = true ∧ r.ok = true then Int.tmod (Int.tmod (7 * r.k) 16) n else 0
theorem recv_ok {r : Rw} {n : Nat} (h : win n 1 3 = true) (hr : r.ok = true) : 0 ≤ recv r n ∧ recv r n < n := by
  have h1 := win_iff.mp h
  have h2 := Rw.ok_iff.mp hr
  rw [recv, if_pos ⟨h, hr⟩, Int.tmod_eq_emod_of_nonneg (a := 7 * r.k) (by omega), Int.tmod_eq_emod_of_nonneg (by omega)]
  exact ⟨Int.emod_nonneg _ (by omega), Int.emod_lt_of_pos _ (by omega)⟩
theorem iRecvFor (r : Rw) (n : Int) : callI tE f_impl_ReceiverFor [.int r.k, .int r.v, .int r.w, .int n] = some [.int (recv r n)] := by
  simp only [c_impl_ReceiverFor, within_ok, iValidRow, gn_c, gb_c, gs_c, gl_c, tk_s, tk_0, List.drop_succ_cons, List.drop_zero, List.headD_cons, List.getD_cons_zero, List.getD_cons_succ, bind_s]
  unfold recv
  by_cases h1 : win n 1 3 = true
  · by_cases h2 : r.ok = true
    · have := win_iff.mp h1
      have := Rw.ok_iff.mp h2
      rw [h1, h2, eqF (by omega), w64_id ⟨by omega, by omega⟩]; simp
    · rw [h1, (Bool.not_eq_true _).mp h2]; simp
  · rw [(Bool.not_eq_true _).mp h1]; simp
theorem sRecvFor (r : Rw) (n : Int) : callI tE f_spec_ReceiverFor [.int r.k, .int r.v, .int r.w, .int n] = some [.int (recv r n)] := by
  simp only [c_spec_ReceiverFor, l1In_ok, sValidRow, gn_c, gb_c, gs_c, gl_c, tk_s, tk_0, List.drop_succ_cons, List.drop_zero, List.headD_cons, List.getD_cons_zero, List.getD_cons_succ, bind_s]
  unfold recv
  by_cases h1 : win n 1 3 = true
  · by_cases h2 : r.ok = true
    · have := win_iff.mp h1
      have := Rw.ok_iff.mp h2
      rw [h1, h2, eqF (by omega), w64_id ⟨by omega, by omega⟩]; simp [Int.mul_comm]
    · rw [h1, (Bool.not_eq_true _).mp h2]; simp
  · rw [(Bool.not_eq_true _).mp h1]; simp
theorem iTogether (l : List (List Rw)) (h : szL List.length l ≤ 1073741824) : callI tE f_impl_together [.sl (l.map rsE)] = some [.sl (l.flatten.map Rw.e)] := by
  have hl := szL_len List.length l
  have hfl : ∀ m : List (List Rw), m.flatten.length ≤ szL List.length m := fun m => by
    induction m with
    | nil => simp
    | cons a m ih => simp only [List.flatten_cons, List.length_append, szL]; omega
  rw [c_impl_together]
  have := zip_loop (l := l) (L := fun (s : List Rw) i => L_impl_together_0 (l.map rsE) (lenI (l.map rsE)) i (s.map Rw.e)) (F := fun _ _ => some [.sl (l.flatten.map Rw.e)]) (I := fun s u _ => s = u.flatten) (by omega) (fun u a v s e hI => by
    have h1 := hfl (u ++ [a])
    have h2 : szL List.length (u ++ [a]) ≤ szL List.length l := by have := szL_split List.length (u ++ [a]) v; rw [e, show u ++ a :: v = (u ++ [a]) ++ v by simp, this]; omega
    refine .inl ⟨(u ++ [a]).flatten, ?_, rfl, rfl⟩
    show L_impl_together_0 _ _ _ _ = L_impl_together_0 _ _ _ _
    subst e
    rw [L_impl_together_0_eq, hI]
    simp only [lt_m, in_m, tn_c, at_m, cond_true, rsE, gn_c, gb_c, gs_c, gl_c, tk_s, tk_0, List.drop_succ_cons, List.drop_zero, List.headD_cons, List.getD_cons_zero, List.getD_cons_succ, bind_s, len_map, app_map2]
    have h3 : (u ++ [a]).flatten.length = u.flatten.length + a.length := by rw [List.flatten_append, List.length_append]; simp
    rw [show fitM (u.flatten.length + a.length) 24 = true from fitT (by omega)]
    simp) (fun s hs => by
    show L_impl_together_0 _ _ _ _ = _
    rw [L_impl_together_0_eq, lt_e, cond_false, hs]) [] rfl
  exact this
def ownOk (n : Nat) (k : Nat) (l : List Rw) : Bool := l.all fun r => r.ok && eqI (recv r n) k
def recvOk (n : Nat) (cap : Int) : Nat → List (List Rw) → List (List Rw) → Bool
  | k, q :: qs, g :: gs => leI q.length cap && (ownOk n k (q ++ g) && recvOk n cap (k + 1) qs gs)
  | _, _, _ => true
def exOk (x : Xc) : Bool := sendOk x.pend && (win x.que.length 1 3 && (eqI x.got.length x.que.length && (win x.cap 1 9 && recvOk x.que.length x.cap 0 x.que x.got)))
theorem recvOk_cons (n : Nat) (cap : Int) (k : Nat) (q g : List Rw) (qs gs : List (List Rw)) : recvOk n cap k (q :: qs) (g :: gs) = (leI q.length cap && (ownOk n k (q ++ g) && recvOk n cap (k + 1) qs gs)) := rfl
theorem iVal1 {x0 n cap : Int} {m k : Nat} {P Q R : Rows} {l : List Rw} (hn : n = (m : Int)) (hl : l.length < 4611686018427387904) :
    L_impl_IsValidExchange_1 x0 n (k : Int) n (k : Int) (lenI (l.map Rw.e)) 0 P Q R cap (l.map Rw.e) = bif ownOk m k l then L_impl_IsValidExchange_0 x0 n n (w64 (k + 1)) P Q R cap else some [.bool false] := by
  subst hn
  exact all_loop (l := l) (L := fun i => L_impl_IsValidExchange_1 x0 (m : Int) (k : Int) (m : Int) (k : Int) (lenI (l.map Rw.e)) i P Q R cap (l.map Rw.e)) (p := fun r => r.ok && eqI (recv r m) k) (no := some [.bool false]) (by omega) (fun u a v e => by
    subst e
    rw [L_impl_IsValidExchange_1_eq]
    simp only [lt_m, in_m, tn_c, at_m, cond_true, Rw.e, gn_c, gb_c, gs_c, gl_c, tk_s, tk_0, List.drop_succ_cons, List.drop_zero, List.headD_cons, List.getD_cons_zero, List.getD_cons_succ, bind_s, iValidRow, iRecvFor, bifn]
    cases a.ok <;> rfl) (by rw [L_impl_IsValidExchange_1_eq, lt_e, cond_false])
theorem sVal2 {x0 cap : Int} {k : Nat} {P R : Rows} {Q : List (List Rw)} {l : List Rw} (hl : l.length < 4611686018427387904) :
    L_spec_IsValidExchange_2 x0 (k : Int) 0 P (Q.map rsE) R cap (l.map Rw.e) = bif ownOk Q.length k l then L_spec_IsValidExchange_1 x0 (w64 (k + 1)) P (Q.map rsE) R cap else some [.bool false] :=
  all_loop (l := l) (L := fun i => L_spec_IsValidExchange_2 x0 (k : Int) i P (Q.map rsE) R cap (l.map Rw.e)) (p := fun r : Rw => r.ok && eqI (recv r Q.length) k) (no := some [.bool false]) (by omega) (fun u a v e => by
    subst e
    have hQ : lenI (Q.map rsE) = (Q.length : Int) := lenI_map _ _
    rw [L_spec_IsValidExchange_2_eq]
    simp only [lt_m, in_m, tn_c, at_m, cond_true, Rw.e, gn_c, gb_c, gs_c, gl_c, tk_s, tk_0, List.drop_succ_cons, List.drop_zero, List.headD_cons, List.getD_cons_zero, List.getD_cons_succ, bind_s, sValidRow, hQ, sRecvFor, bifn]
    cases a.ok <;> rfl) (by rw [L_spec_IsValidExchange_2_eq, lt_e, cond_false])
theorem szL_2 (a b : List Rw) : szL List.length [a, b] = 2 + a.length + b.length := by simp only [szL]; omega
theorem iVal0 {x0 cap : Int} {P : Rows} {Q R : List (List Rw)} (hq : szL List.length Q ≤ 1073741824 - 10) (hr : szL List.length R ≤ 1073741824 - 10) (hqr : szL List.length Q + szL List.length R ≤ 1073741824 - 10) : ∀ (q r u v : List (List Rw)), Q = u ++ q → R = v ++ r → u.length = v.length → q.length = r.length →
    L_impl_IsValidExchange_0 x0 (Q.length : Int) (Q.length : Int) (u.length : Int) P (Q.map rsE) (R.map rsE) cap = some [.bool (recvOk Q.length cap u.length q r)]
  | [], [], u, v, e1, e2, h1, h2 => by
    rw [List.append_nil] at e1
    rw [L_impl_IsValidExchange_0_eq, ltF (by rw [e1]; omega)]; rfl
  | [], _ :: _, _, _, _, _, _, h => by simp at h
  | _ :: _, [], _, _, _, _, _, h => by simp at h
  | a :: q, b :: r, u, v, e1, e2, h1, h2 => by
    have hQl := szL_len List.length Q
    have hul : u.length < Q.length := by rw [e1]; simp
    have ha : a.length ≤ szL List.length Q := szL_mem' (by rw [e1]; simp)
    have hb : b.length ≤ szL List.length R := szL_mem' (by rw [e2]; simp)
    have ih := iVal0 (x0 := x0) (cap := cap) (P := P) hq hr hqr q r (u ++ [a]) (v ++ [b]) (by rw [e1]; simp) (by rw [e2]; simp) (by simp; omega) (by simpa using h2)
    rw [L_impl_IsValidExchange_0_eq]
    have c1 : ltI (u.length : Int) (Q.length : Int) = true := ltT (by omega)
    have c2 : inR (u.length : Int) (lenI (Q.map rsE)) = true := by rw [e1]; exact in_m u q a
    have c3 : at' (Q.map rsE) u.length = rsE a := by rw [e1]; exact at_m u q a
    have c4 : inR (u.length : Int) (lenI (R.map rsE)) = true := by rw [e2, h1]; exact in_m v r b
    have c5 : at' (R.map rsE) u.length = rsE b := by rw [e2, h1]; exact at_m v r b
    have ht := iTogether [a, b] (by rw [szL_2]; omega)
    have ht' : callI tE f_impl_together [.sl [[.sl (a.map Rw.e)], [.sl (b.map Rw.e)]]] = some [.sl ((a ++ b).map Rw.e)] := by simpa [rsE] using ht
    rw [c1, c2, tn_c, c3, c4, c5]
    simp only [rsE, gn_c, gb_c, gs_c, gl_c, tk_s, tk_0, List.drop_succ_cons, List.drop_zero, List.headD_cons, List.getD_cons_zero, List.getD_cons_succ, bind_s, cond_true, ht']
    have hv := iVal1 (x0 := x0) (n := (Q.length : Int)) (cap := cap) (k := u.length) (P := P) (Q := Q.map rsE) (R := R.map rsE) (l := a ++ b) rfl (by simp; omega)
    rw [hv, w64_s (by omega), lenI_map, recvOk_cons]
    simp only [List.length_append, List.length_cons, List.length_nil, Nat.zero_add] at ih
    rw [ih]
    by_cases hc : (a.length : Int) ≤ cap
    · rw [ltF (by omega), leT hc]; cases ownOk Q.length u.length (a ++ b) <;> rfl
    · rw [ltT (by omega), leF (by omega)]; rfl
theorem sVal1 {x0 cap : Int} {P : Rows} {Q R : List (List Rw)} (hq : szL List.length Q ≤ 1073741824 - 10) (hr : szL List.length R ≤ 1073741824 - 10) (hqr : szL List.length Q + szL List.length R ≤ 1073741824 - 10) : ∀ (q r u v : List (List Rw)), Q = u ++ q → R = v ++ r → u.length = v.length → q.length = r.length →
    L_spec_IsValidExchange_1 x0 (u.length : Int) P (Q.map rsE) (R.map rsE) cap = some [.bool (recvOk Q.length cap u.length q r)]
  | [], [], u, v, e1, e2, h1, h2 => by
    rw [List.append_nil] at e1
    rw [L_spec_IsValidExchange_1_eq, lenI_map, ltF (by rw [e1]; omega)]; rfl
  | [], _ :: _, _, _, _, _, _, h => by simp at h
  | _ :: _, [], _, _, _, _, _, h => by simp at h
  | a :: q, b :: r, u, v, e1, e2, h1, h2 => by
    have hQl := szL_len List.length Q
    have hul : u.length < Q.length := by rw [e1]; simp
    have ha : a.length ≤ szL List.length Q := szL_mem' (by rw [e1]; simp)
    have hb : b.length ≤ szL List.length R := szL_mem' (by rw [e2]; simp)
    have ih := sVal1 (x0 := x0) (cap := cap) (P := P) hq hr hqr q r (u ++ [a]) (v ++ [b]) (by rw [e1]; simp) (by rw [e2]; simp) (by simp; omega) (by simpa using h2)
    rw [L_spec_IsValidExchange_1_eq]
    have c1 : ltI (u.length : Int) (lenI (Q.map rsE)) = true := by rw [lenI_map]; exact ltT (by omega)
    have c2 : inR (u.length : Int) (lenI (Q.map rsE)) = true := by rw [e1]; exact in_m u q a
    have c3 : at' (Q.map rsE) u.length = rsE a := by rw [e1]; exact at_m u q a
    have c4 : inR (u.length : Int) (lenI (R.map rsE)) = true := by rw [e2, h1]; exact in_m v r b
    have c5 : at' (R.map rsE) u.length = rsE b := by rw [e2, h1]; exact at_m v r b
    have f1 : fitM (0 + a.length) 24 = true := fitT (by omega)
    have f2 : fitM (a.length + b.length) 24 = true := fitT (by omega)
    rw [c1, c2, tn_c, c3, c4, c5]
    simp only [rsE, gn_c, gb_c, gs_c, gl_c, tk_s, tk_0, List.drop_succ_cons, List.drop_zero, List.headD_cons, List.getD_cons_zero, List.getD_cons_succ, bind_s, cond_true, len_map, f1, f2, app_map2]
    have hv := sVal2 (x0 := x0) (cap := cap) (k := u.length) (P := P) (Q := Q) (R := R.map rsE) (l := a ++ b) (by simp; omega)
    rw [hv, w64_s (by omega), lenI_map, recvOk_cons]
    simp only [List.length_append, List.length_cons, List.length_nil, Nat.zero_add] at ih
    rw [ih]
    by_cases hc : (a.length : Int) ≤ cap
    · rw [ltF (by omega), leT hc]; cases ownOk Q.length u.length (a ++ b) <;> rfl
    · rw [ltT (by omega), leF (by omega)]; rfl
def Xc.B2 (x : Xc) : Prop := x.sz ≤ 1073741800
theorem Xc.B2.b {x : Xc} (h : x.B2) : x.B := by simp only [Xc.B2, Xc.B] at *; omega
theorem iValidX (x : Xc) (h : x.B2) : callI tE f_impl_IsValidExchange [.sl (x.pend.map rsE), .sl (x.que.map rsE), .sl (x.got.map rsE), .int x.cap] = some [.bool (exOk x)] := by
  have hb := h.b.p
  simp only [Xc.B2, Xc.sz] at h
  simp only [c_impl_IsValidExchange, iSenders x.pend hb.1, within_ok, gn_c, gb_c, gs_c, gl_c, tk_s, tk_0, List.drop_succ_cons, List.drop_zero, List.headD_cons, List.getD_cons_zero, List.getD_cons_succ, bind_s, lenI_map]
  unfold exOk
  cases sendOk x.pend
  · rfl
  · cases win x.que.length 1 3
    · rfl
    · by_cases he : x.got.length = x.que.length
      · rw [eqT (by omega)]
        cases win x.cap 1 9
        · rfl
        · have := iVal0 (x0 := 0) (cap := x.cap) (P := x.pend.map rsE) (Q := x.que) (R := x.got) (by omega) (by omega) (by omega) x.que x.got [] [] rfl rfl rfl he.symm
          exact this
      · rw [eqF (by omega)]; rfl
theorem sValidX (x : Xc) (h : x.B2) : callI tE f_spec_IsValidExchange [.sl (x.pend.map rsE), .sl (x.que.map rsE), .sl (x.got.map rsE), .int x.cap] = some [.bool (exOk x)] := by
  have hb := h.b.p
  have hl := szL_len List.length x.pend
  simp only [Xc.B2, Xc.sz] at h
  simp only [c_spec_IsValidExchange, l1In_ok, gn_c, gb_c, gs_c, gl_c, tk_s, tk_0, List.drop_succ_cons, List.drop_zero, List.headD_cons, List.getD_cons_zero, List.getD_cons_succ, bind_s, lenI_map]
  have h0 : L_spec_IsValidExchange_0 0 0 (x.pend.map rsE) (x.que.map rsE) (x.got.map rsE) x.cap = bif x.pend.all aok then L_spec_IsValidExchange_1 0 0 (x.pend.map rsE) (x.que.map rsE) (x.got.map rsE) x.cap else some [.bool false] :=
    all_loop (l := x.pend) (L := fun i => L_spec_IsValidExchange_0 0 i (x.pend.map rsE) (x.que.map rsE) (x.got.map rsE) x.cap) (p := aok) (no := some [.bool false]) (by omega) (fun u a v e => by
      have ha : a.length ≤ 1073741824 := Nat.le_trans (szL_mem' (by rw [e]; simp)) hb.1
      rw [L_spec_IsValidExchange_0_eq, e]
      simp only [lt_m, in_m, tn_c, at_m, cond_true, rsE, gn_c, gb_c, gs_c, gl_c, tk_s, tk_0, List.drop_succ_cons, List.drop_zero, List.headD_cons, List.getD_cons_zero, List.getD_cons_succ, bind_s, sAreValid a (by omega), bifn]) (by rw [L_spec_IsValidExchange_0_eq, lt_e, cond_false])
  unfold exOk sendOk
  cases win x.pend.length 1 3
  · simp
  · cases win x.que.length 1 3
    · simp
    · by_cases he : x.got.length = x.que.length
      · rw [eqT (by omega)]
        cases win x.cap 1 9
        · simp
        · have := sVal1 (x0 := 0) (cap := x.cap) (P := x.pend.map rsE) (Q := x.que) (R := x.got) (by omega) (by omega) (by omega) x.que x.got [] [] rfl rfl rfl he.symm
          simp only [List.length_nil, Int.natCast_zero] at this
          rw [h0, this]
          cases x.pend.all aok <;> simp
      · rw [eqF (by omega)]; simp
end Go.Proofs.Ytbmafhpbinjgaaa.Vai
namespace Go.Proofs.Ytbmafhpbinjgaaa.Vai
open Go
set_option linter.unusedSimpArgs false
set_option linter.unusedVariables false
set_option linter.unnecessarySimpa false
theorem S_size (l : List UInt8) : (S l).size = l.length := by simp [S, ByteArray.size]
theorem szI_S (l : List UInt8) : szI (S l) = (l.length : Int) := by show ((S l).size : Int) = _; rw [S_size]
end Go.Proofs.Ytbmafhpbinjgaaa.Vai
namespace Go.Proofs.Ytbmafhpbinjgaaa.Vai
open Go
set_option linter.unusedSimpArgs false
set_option linter.unusedVariables false
set_option linter.unnecessarySimpa false
set_option maxRecDepth 10000
def sendX (x : Xc) (i : Int) : Xc × Bool :=
  if exOk x = true ∧ 0 ≤ i ∧ i < x.pend.length then
    match x.pend.getD i.toNat [] with
    | [] => (x, false)
    | r :: p =>
      if ((x.que.getD (recv r x.que.length).toNat []).length : Int) = x.cap then (x, false)
      else (⟨x.pend.set i.toNat p, x.que.set (recv r x.que.length).toNat (x.que.getD (recv r x.que.length).toNat [] ++ [r]), x.got, x.cap⟩, true)
  else (x, false)
def recvX (x : Xc) (i : Int) : Xc × Bool :=
  if exOk x = true ∧ 0 ≤ i ∧ i < x.que.length then
    match x.que.getD i.toNat [] with
    | [] => (x, false)
    | r :: q => (⟨x.pend, x.que.set i.toNat q, x.got.set i.toNat (x.got.getD i.toNat [] ++ [r]), x.cap⟩, true)
  else (x, false)
theorem exOk_p {x : Xc} (h : exOk x = true) : (∀ l ∈ x.pend, aok l = true) ∧ win x.pend.length 1 3 = true ∧ win x.que.length 1 3 = true ∧ x.got.length = x.que.length ∧ win x.cap 1 9 = true ∧ recvOk x.que.length x.cap 0 x.que x.got = true := by
  simp only [exOk, sendOk, Bool.and_eq_true, eqI, decide_eq_true_eq] at h
  obtain ⟨⟨h1, h2⟩, h3, h4, h5, h6⟩ := h
  exact ⟨List.all_eq_true.mp h1, h2, h3, by omega, h5, h6⟩
theorem win_len {i : Int} {n : Nat} (hn : n ≤ 1073741824) : win i 0 (w64 ((n : Int) - 1)) = decide (0 ≤ i ∧ i < n) := by
  rw [w64_id ⟨by omega, by omega⟩, Bool.eq_iff_iff, win_iff, decide_eq_true_eq]
  constructor <;> (intro h; omega)
theorem head_at (r : Rw) (p : List Rw) : at' ((r :: p).map Rw.e) (tn 0) = r.e := rfl
theorem in_0 (r : Rw) (p : List Rw) : inR 0 (lenI ((r :: p).map Rw.e)) = true := by rw [lenI_map]; exact inRT (by omega) (by (first | omega | (simp only [List.length_append, List.length_cons, List.length_nil, List.length_map, List.length_take, List.length_drop, List.length_replicate, szI_S] at * <;> omega)))
theorem le_1 (r : Rw) (p : List Rw) : leI 1 (lenI ((r :: p).map Rw.e)) = true := by rw [lenI_map]; exact leT (by (first | omega | (simp only [List.length_append, List.length_cons, List.length_nil, List.length_map, List.length_take, List.length_drop, List.length_replicate, szI_S] at * <;> omega)))
theorem ne_0 (r : Rw) (p : List Rw) : eqI (lenI ((r :: p).map Rw.e)) 0 = false := by rw [lenI_map]; exact eqF (by (first | omega | (simp only [List.length_append, List.length_cons, List.length_nil, List.length_map, List.length_take, List.length_drop, List.length_replicate, szI_S] at * <;> omega)))
theorem row_app (q : List Rw) (r : Rw) : List.append (q.map Rw.e) [[Dat.int r.k, .int r.v, .int r.w]] = (q ++ [r]).map Rw.e := by simp [Rw.e]
theorem iSend (x : Xc) (i : Int) (h : x.B2) : callI tE f_impl_SendRow [.sl (x.pend.map rsE), .sl (x.que.map rsE), .sl (x.got.map rsE), .int x.cap, .int i] = some (XB (sendX x i)) := by
  have hb := h.b.p
  have hl := szL_len List.length x.pend
  have hw : callI tE f_impl_within [.int i, .int 0, .int (w64 (lenI (x.pend.map rsE) - 1))] = some [.bool (decide (0 ≤ i ∧ i < x.pend.length))] := by rw [lenI_map, within_ok, win_len (by omega)]
  rw [c_impl_SendRow, iCloneX x h.b]
  simp only [gn_c, gb_c, gs_c, gl_c, tk_s, tk_0, List.drop_succ_cons, List.drop_zero, List.headD_cons, List.getD_cons_zero, List.getD_cons_succ, bind_s]
  rw [iValidX x h]
  simp only [gn_c, gb_c, gs_c, gl_c, tk_s, tk_0, List.drop_succ_cons, List.drop_zero, List.headD_cons, List.getD_cons_zero, List.getD_cons_succ, bind_s]
  by_cases hv : exOk x = true
  · have hp := exOk_p hv
    by_cases hi : 0 ≤ i ∧ i < x.pend.length
    · rw [show sendX x i = _ from if_pos ⟨hv, hi.1, hi.2⟩, hv, Bool.not_true, cond_false, hw]
      simp only [gn_c, gb_c, gs_c, gl_c, tk_s, tk_0, List.drop_succ_cons, List.drop_zero, List.headD_cons, List.getD_cons_zero, List.getD_cons_succ, bind_s]
      rw [decide_eq_true hi, Bool.not_true, cond_false]
      obtain ⟨n, rfl⟩ : ∃ n : Nat, i = n := ⟨i.toNat, by omega⟩
      clear hw
      obtain ⟨pend, que, got, cap⟩ := x
      simp only at *
      obtain ⟨u, a, v, rfl, rfl⟩ := split_at (show n < pend.length by omega)
      rw [in_m, tn_c, at_m, Int.toNat_natCast, getD_m]
      simp only [cond_true, rsE, gl_c]
      cases a with
      | nil => rfl
      | cons r p =>
        have hr : r.ok = true := aok_all (hp.1 (r :: p) (by simp)) r (by simp)
        have hf : callI tE f_impl_ReceiverFor [.int r.k, .int r.v, .int r.w, .int (lenI (que.map rsE))] = some [.int (recv r que.length)] := by rw [lenI_map, iRecvFor]
        obtain ⟨r0, r1⟩ := recv_ok (n := que.length) hp.2.2.1 hr
        obtain ⟨m, hm⟩ : ∃ m : Nat, recv r que.length = m := ⟨(recv r que.length).toNat, by omega⟩
        rw [hm] at r1
        have hr0 : (Rw.e r) = [.int r.k, .int r.v, .int r.w] := rfl
        simp only [ne_0, in_0, cond_true, cond_false, head_at, hr0, gn_c, gb_c, gs_c, gl_c, tk_s, tk_0, List.drop_succ_cons, List.drop_zero, List.headD_cons, List.getD_cons_zero, List.getD_cons_succ, bind_s, hf, hm, Int.toNat_natCast]
        obtain ⟨u2, q, v2, rfl, rfl⟩ := split_at (show m < que.length by omega)
        have hq : q.length ≤ 1073741824 := Nat.le_trans (szL_mem' (by simp)) hb.2.1
        rw [in_m, at_m, getD_m]
        simp only [cond_true, rsE, gl_c]
        rw [lenI_map]
        by_cases hc : (q.length : Int) = cap
        · rw [eqT hc, cond_true, if_pos hc]; rfl
        · rw [eqF hc, cond_false, if_neg hc, leT (by omega), le_1, eqI_self, eqI_self, len_map, show fitM (Nat.succ q.length) 24 = true from fitT (by omega)]
          simp only [cond_true, Bool.and_self]
          rw [cut_tail, row_app, upd_rs, map_rs, upd_rs, map_rs, set_m, set_m]
          rfl
    · rw [show sendX x i = _ from if_neg (fun q => hi ⟨q.2.1, q.2.2⟩), hv, Bool.not_true, cond_false, hw]
      simp only [gn_c, gb_c, gs_c, gl_c, tk_s, tk_0, List.drop_succ_cons, List.drop_zero, List.headD_cons, List.getD_cons_zero, List.getD_cons_succ, bind_s]
      rw [decide_eq_false hi]; rfl
  · rw [show sendX x i = _ from if_neg (fun q => hv q.1), (Bool.not_eq_true _).mp hv]; rfl
theorem sSend (x : Xc) (i : Int) (h : x.B2) : callI tE f_spec_SendRow [.sl (x.pend.map rsE), .sl (x.que.map rsE), .sl (x.got.map rsE), .int x.cap, .int i] = some (XB (sendX x i)) := by
  have hb := h.b.p
  have hl := szL_len List.length x.pend
  have hw : callI tE f_spec_l1In [.int i, .int 0, .int (w64 (lenI (x.pend.map rsE) - 1))] = some [.bool (decide (0 ≤ i ∧ i < x.pend.length))] := by rw [lenI_map, l1In_ok, win_len (by omega)]
  rw [c_spec_SendRow, sCopyX x h.b]
  simp only [gn_c, gb_c, gs_c, gl_c, tk_s, tk_0, List.drop_succ_cons, List.drop_zero, List.headD_cons, List.getD_cons_zero, List.getD_cons_succ, bind_s]
  rw [sValidX x h]
  simp only [gn_c, gb_c, gs_c, gl_c, tk_s, tk_0, List.drop_succ_cons, List.drop_zero, List.headD_cons, List.getD_cons_zero, List.getD_cons_succ, bind_s]
  by_cases hv : exOk x = true
  · have hp := exOk_p hv
    by_cases hi : 0 ≤ i ∧ i < x.pend.length
    · rw [show sendX x i = _ from if_pos ⟨hv, hi.1, hi.2⟩, hv, Bool.not_true, cond_false, hw]
      simp only [gn_c, gb_c, gs_c, gl_c, tk_s, tk_0, List.drop_succ_cons, List.drop_zero, List.headD_cons, List.getD_cons_zero, List.getD_cons_succ, bind_s]
      rw [decide_eq_true hi, Bool.not_true, cond_false]
      obtain ⟨n, rfl⟩ : ∃ n : Nat, i = n := ⟨i.toNat, by omega⟩
      clear hw
      obtain ⟨pend, que, got, cap⟩ := x
      simp only at *
      obtain ⟨u, a, v, rfl, rfl⟩ := split_at (show n < pend.length by omega)
      rw [in_m, tn_c, at_m, Int.toNat_natCast, getD_m]
      simp only [cond_true, rsE, gl_c]
      cases a with
      | nil => rfl
      | cons r p =>
        have hr : r.ok = true := aok_all (hp.1 (r :: p) (by simp)) r (by simp)
        have hf : callI tE f_spec_ReceiverFor [.int r.k, .int r.v, .int r.w, .int (lenI (que.map rsE))] = some [.int (recv r que.length)] := by rw [lenI_map, sRecvFor]
        obtain ⟨r0, r1⟩ := recv_ok (n := que.length) hp.2.2.1 hr
        obtain ⟨m, hm⟩ : ∃ m : Nat, recv r que.length = m := ⟨(recv r que.length).toNat, by omega⟩
        rw [hm] at r1
        have hr0 : (Rw.e r) = [.int r.k, .int r.v, .int r.w] := rfl
        simp only [ne_0, in_0, cond_true, cond_false, head_at, hr0, gn_c, gb_c, gs_c, gl_c, tk_s, tk_0, List.drop_succ_cons, List.drop_zero, List.headD_cons, List.getD_cons_zero, List.getD_cons_succ, bind_s, hf, hm, Int.toNat_natCast]
        obtain ⟨u2, q, v2, rfl, rfl⟩ := split_at (show m < que.length by omega)
        have hq : q.length ≤ 1073741824 := Nat.le_trans (szL_mem' (by simp)) hb.2.1
        rw [in_m, at_m, getD_m]
        simp only [cond_true, rsE, gl_c]
        rw [lenI_map]
        by_cases hc : (q.length : Int) = cap
        · rw [eqT hc, cond_true, if_pos hc]; rfl
        · rw [eqF hc, cond_false, if_neg hc, leT (by omega), le_1, eqI_self, eqI_self, len_map, show fitM (Nat.succ q.length) 24 = true from fitT (by omega)]
          simp only [cond_true, Bool.and_self]
          rw [cut_tail, row_app, upd_rs, map_rs, upd_rs, map_rs, set_m, set_m]
          rfl
    · rw [show sendX x i = _ from if_neg (fun q => hi ⟨q.2.1, q.2.2⟩), hv, Bool.not_true, cond_false, hw]
      simp only [gn_c, gb_c, gs_c, gl_c, tk_s, tk_0, List.drop_succ_cons, List.drop_zero, List.headD_cons, List.getD_cons_zero, List.getD_cons_succ, bind_s]
      rw [decide_eq_false hi]; rfl
  · rw [show sendX x i = _ from if_neg (fun q => hv q.1), (Bool.not_eq_true _).mp hv]; rfl
theorem iRecv (x : Xc) (i : Int) (h : x.B2) : callI tE f_impl_ReceiveRow [.sl (x.pend.map rsE), .sl (x.que.map rsE), .sl (x.got.map rsE), .int x.cap, .int i] = some (XB (recvX x i)) := by
  have hb := h.b.p
  have hl := szL_len List.length x.que
  have hw : callI tE f_impl_within [.int i, .int 0, .int (w64 (lenI (x.que.map rsE) - 1))] = some [.bool (decide (0 ≤ i ∧ i < x.que.length))] := by rw [lenI_map, within_ok, win_len (by omega)]
  rw [c_impl_ReceiveRow, iCloneX x h.b]
  simp only [gn_c, gb_c, gs_c, gl_c, tk_s, tk_0, List.drop_succ_cons, List.drop_zero, List.headD_cons, List.getD_cons_zero, List.getD_cons_succ, bind_s]
  rw [iValidX x h]
  simp only [gn_c, gb_c, gs_c, gl_c, tk_s, tk_0, List.drop_succ_cons, List.drop_zero, List.headD_cons, List.getD_cons_zero, List.getD_cons_succ, bind_s]
  by_cases hv : exOk x = true
  · have hp := exOk_p hv
    by_cases hi : 0 ≤ i ∧ i < x.que.length
    · rw [show recvX x i = _ from if_pos ⟨hv, hi.1, hi.2⟩, hv, Bool.not_true, cond_false, hw]
      simp only [gn_c, gb_c, gs_c, gl_c, tk_s, tk_0, List.drop_succ_cons, List.drop_zero, List.headD_cons, List.getD_cons_zero, List.getD_cons_succ, bind_s]
      rw [decide_eq_true hi, Bool.not_true, cond_false]
      obtain ⟨n, rfl⟩ : ∃ n : Nat, i = n := ⟨i.toNat, by omega⟩
      clear hw
      obtain ⟨pend, que, got, cap⟩ := x
      simp only at *
      obtain ⟨u2, g, v2, rfl, hu2⟩ := split_at (show n < got.length by omega)
      obtain ⟨u, a, v, rfl, rfl⟩ := split_at (show n < que.length by omega)
      have hg : g.length ≤ 1073741824 := Nat.le_trans (szL_mem' (by simp)) hb.2.2
      have g1 : inR (u.length : Int) (lenI ((u2 ++ g :: v2).map rsE)) = true := by rw [← hu2]; exact in_m u2 v2 g
      have g2 : at' ((u2 ++ g :: v2).map rsE) u.length = rsE g := by rw [← hu2]; exact at_m u2 v2 g
      have g3 : (u2 ++ g :: v2).getD u.length [] = g := by rw [← hu2]; exact getD_m u2 v2 g []
      rw [in_m, tn_c, at_m, Int.toNat_natCast, getD_m, g1, g2, g3]
      simp only [cond_true, rsE, gl_c]
      cases a with
      | nil => rfl
      | cons r p =>
        have hr0 : (Rw.e r) = [.int r.k, .int r.v, .int r.w] := rfl
        simp only [ne_0, in_0, cond_true, cond_false, head_at, hr0, gn_c, gb_c, gs_c, gl_c, tk_s, tk_0, List.drop_succ_cons, List.drop_zero, List.headD_cons, List.getD_cons_zero, List.getD_cons_succ, bind_s]
        rw [leT (by omega), le_1, eqI_self, len_map, show fitM (Nat.succ g.length) 24 = true from fitT (by omega)]
        simp only [cond_true, Bool.and_self]
        have g4 : ∀ X : Rows, updR ((u2 ++ g :: v2).map rsE) u.length 0 [.sl X] = u2.map rsE ++ [.sl X] :: v2.map rsE := fun X => by rw [← hu2]; exact upd_rs u2 v2 g X
        have g5 : ∀ b : List Rw, (u2 ++ g :: v2).set u.length b = u2 ++ b :: v2 := fun b => by rw [← hu2]; exact set_m u2 v2 g b
        rw [cut_tail, row_app, upd_rs, map_rs, set_m, g4, map_rs, g5]
        rfl
    · rw [show recvX x i = _ from if_neg (fun q => hi ⟨q.2.1, q.2.2⟩), hv, Bool.not_true, cond_false, hw]
      simp only [gn_c, gb_c, gs_c, gl_c, tk_s, tk_0, List.drop_succ_cons, List.drop_zero, List.headD_cons, List.getD_cons_zero, List.getD_cons_succ, bind_s]
      rw [decide_eq_false hi]; rfl
  · rw [show recvX x i = _ from if_neg (fun q => hv q.1), (Bool.not_eq_true _).mp hv]; rfl
theorem sRecv (x : Xc) (i : Int) (h : x.B2) : callI tE f_spec_ReceiveRow [.sl (x.pend.map rsE), .sl (x.que.map rsE), .sl (x.got.map rsE), .int x.cap, .int i] = some (XB (recvX x i)) := by
  have hb := h.b.p
  have hl := szL_len List.length x.que
  have hw : callI tE f_spec_l1In [.int i, .int 0, .int (w64 (lenI (x.que.map rsE) - 1))] = some [.bool (decide (0 ≤ i ∧ i < x.que.length))] := by rw [lenI_map, l1In_ok, win_len (by omega)]
  rw [c_spec_ReceiveRow, sCopyX x h.b]
  simp only [gn_c, gb_c, gs_c, gl_c, tk_s, tk_0, List.drop_succ_cons, List.drop_zero, List.headD_cons, List.getD_cons_zero, List.getD_cons_succ, bind_s]
  rw [sValidX x h]
  simp only [gn_c, gb_c, gs_c, gl_c, tk_s, tk_0, List.drop_succ_cons, List.drop_zero, List.headD_cons, List.getD_cons_zero, List.getD_cons_succ, bind_s]
  by_cases hv : exOk x = true
  · have hp := exOk_p hv
    by_cases hi : 0 ≤ i ∧ i < x.que.length
    · rw [show recvX x i = _ from if_pos ⟨hv, hi.1, hi.2⟩, hv, Bool.not_true, cond_false, hw]
      simp only [gn_c, gb_c, gs_c, gl_c, tk_s, tk_0, List.drop_succ_cons, List.drop_zero, List.headD_cons, List.getD_cons_zero, List.getD_cons_succ, bind_s]
      rw [decide_eq_true hi, Bool.not_true, cond_false]
      obtain ⟨n, rfl⟩ : ∃ n : Nat, i = n := ⟨i.toNat, by omega⟩
      clear hw
      obtain ⟨pend, que, got, cap⟩ := x
      simp only at *
      obtain ⟨u2, g, v2, rfl, hu2⟩ := split_at (show n < got.length by omega)
      obtain ⟨u, a, v, rfl, rfl⟩ := split_at (show n < que.length by omega)
      have hg : g.length ≤ 1073741824 := Nat.le_trans (szL_mem' (by simp)) hb.2.2
      have g1 : inR (u.length : Int) (lenI ((u2 ++ g :: v2).map rsE)) = true := by rw [← hu2]; exact in_m u2 v2 g
      have g2 : at' ((u2 ++ g :: v2).map rsE) u.length = rsE g := by rw [← hu2]; exact at_m u2 v2 g
      have g3 : (u2 ++ g :: v2).getD u.length [] = g := by rw [← hu2]; exact getD_m u2 v2 g []
      rw [in_m, tn_c, at_m, Int.toNat_natCast, getD_m, g1, g2, g3]
      simp only [cond_true, rsE, gl_c]
      cases a with
      | nil => rfl
      | cons r p =>
        have hr0 : (Rw.e r) = [.int r.k, .int r.v, .int r.w] := rfl
        simp only [ne_0, in_0, cond_true, cond_false, head_at, hr0, gn_c, gb_c, gs_c, gl_c, tk_s, tk_0, List.drop_succ_cons, List.drop_zero, List.headD_cons, List.getD_cons_zero, List.getD_cons_succ, bind_s]
        rw [leT (by omega), le_1, eqI_self, len_map, show fitM (Nat.succ g.length) 24 = true from fitT (by omega)]
        simp only [cond_true, Bool.and_self]
        have g4 : ∀ X : Rows, updR ((u2 ++ g :: v2).map rsE) u.length 0 [.sl X] = u2.map rsE ++ [.sl X] :: v2.map rsE := fun X => by rw [← hu2]; exact upd_rs u2 v2 g X
        have g5 : ∀ b : List Rw, (u2 ++ g :: v2).set u.length b = u2 ++ b :: v2 := fun b => by rw [← hu2]; exact set_m u2 v2 g b
        rw [cut_tail, row_app, upd_rs, map_rs, set_m, g4, map_rs, g5]
        rfl
    · rw [show recvX x i = _ from if_neg (fun q => hi ⟨q.2.1, q.2.2⟩), hv, Bool.not_true, cond_false, hw]
      simp only [gn_c, gb_c, gs_c, gl_c, tk_s, tk_0, List.drop_succ_cons, List.drop_zero, List.headD_cons, List.getD_cons_zero, List.getD_cons_succ, bind_s]
      rw [decide_eq_false hi]; rfl
  · rw [show recvX x i = _ from if_neg (fun q => hv q.1), (Bool.not_eq_true _).mp hv]; rfl
theorem szL_zip (u v : List (List Rw)) (a : List Rw) : szL List.length (u ++ a :: v) = szL List.length u + (1 + a.length + szL List.length v) := by
  rw [szL_split]; simp only [szL]
theorem sendX_sz (x : Xc) (i : Int) : (sendX x i).1.sz = x.sz := by
  unfold sendX
  split
  · rename_i h
    obtain ⟨hv, h0, h1⟩ := h
    have hp := exOk_p hv
    obtain ⟨pend, que, got, cap⟩ := x
    simp only at *
    obtain ⟨n, rfl⟩ : ∃ n : Nat, i = n := ⟨i.toNat, by omega⟩
    obtain ⟨u, a, v, rfl, rfl⟩ := split_at (show n < pend.length by omega)
    rw [Int.toNat_natCast, getD_m]
    cases a with
    | nil => rfl
    | cons r p =>
      have hr : r.ok = true := aok_all (hp.1 (r :: p) (by simp)) r (by simp)
      obtain ⟨r0, r1⟩ := recv_ok (n := que.length) hp.2.2.1 hr
      obtain ⟨m, hm⟩ : ∃ m : Nat, recv r que.length = m := ⟨(recv r que.length).toNat, by omega⟩
      rw [hm] at r1
      simp only [hm, Int.toNat_natCast]
      obtain ⟨u2, q, v2, rfl, rfl⟩ := split_at (show m < que.length by omega)
      rw [getD_m]
      split
      · rfl
      · simp only [Xc.sz, set_m, szL_zip, List.length_append, List.length_cons, List.length_nil]; omega
  · rfl
theorem recvX_sz (x : Xc) (i : Int) : (recvX x i).1.sz = x.sz := by
  unfold recvX
  split
  · rename_i h
    obtain ⟨hv, h0, h1⟩ := h
    have hp := exOk_p hv
    obtain ⟨pend, que, got, cap⟩ := x
    simp only at *
    obtain ⟨n, rfl⟩ : ∃ n : Nat, i = n := ⟨i.toNat, by omega⟩
    obtain ⟨u2, g, v2, rfl, hu2⟩ := split_at (show n < got.length by omega)
    obtain ⟨u, a, v, rfl, rfl⟩ := split_at (show n < que.length by omega)
    have g3 : (u2 ++ g :: v2).getD u.length [] = g := by rw [← hu2]; exact getD_m u2 v2 g []
    have g5 : ∀ b : List Rw, (u2 ++ g :: v2).set u.length b = u2 ++ b :: v2 := fun b => by rw [← hu2]; exact set_m u2 v2 g b
    rw [Int.toNat_natCast, getD_m]
    cases a with
    | nil => rfl
    | cons r p => simp only [Xc.sz, set_m, g3, g5, szL_zip, List.length_append, List.length_cons, List.length_nil]; omega
  · rfl
end Go.Proofs.Ytbmafhpbinjgaaa.Vai
namespace Go.Proofs.Ytbmafhpbinjgaaa.Vai
open Go
set_option linter.unusedSimpArgs false
set_option linter.unusedVariables false
set_option linter.unnecessarySimpa false
set_option maxRecDepth 10000
theorem recvOk_iff {n : Nat} {cap : Int} : ∀ {qs gs : List (List Rw)} {k : Nat}, gs.length = qs.length → (recvOk n cap k qs gs = true ↔ ∀ (j : Nat) (q g : List Rw), qs[j]? = some q → gs[j]? = some g → (q.length : Int) ≤ cap ∧ ∀ r ∈ q ++ g, r.ok = true ∧ recv r n = (k + j : Nat))
  | [], [], k, _ => by simp [recvOk]
  | [], _ :: _, k, h => by simp at h
  | _ :: _, [], k, h => by simp at h
  | q :: qs, g :: gs, k, h => by
    have ih := recvOk_iff (n := n) (cap := cap) (qs := qs) (gs := gs) (k := k + 1) (by simpa using h)
    rw [recvOk_cons, Bool.and_eq_true, Bool.and_eq_true, ih]
    constructor
    · rintro ⟨h1, h2, h3⟩ j q' g' hq hg
      cases j with
      | zero =>
        simp only [List.getElem?_cons_zero, Option.some.injEq] at hq hg
        subst hq; subst hg
        refine ⟨by simpa [leI] using h1, fun r hr => ?_⟩
        have := List.all_eq_true.mp h2 r hr
        simpa [eqI] using this
      | succ j =>
        have := h3 j q' g' (by simpa using hq) (by simpa using hg)
        rw [show k + (j + 1) = k + 1 + j by omega]
        exact this
    · intro hh
      refine ⟨?_, ?_, fun j q' g' hq hg => ?_⟩
      · simpa [leI] using (hh 0 q g rfl rfl).1
      · refine List.all_eq_true.mpr fun r hr => ?_
        have := (hh 0 q g rfl rfl).2 r hr
        simpa [eqI] using this
      · have := hh (j + 1) q' g' (by simpa using hq) (by simpa using hg)
        rw [show k + (j + 1) = k + 1 + j by omega] at this
        exact this
def tot : List (List Rw) → Nat
  | [] => 0
  | a :: l => a.length + tot l
theorem tot_m (u v : List (List Rw)) (a : List Rw) : tot (u ++ a :: v) = tot u + (a.length + tot v) := by
  induction u with
  | nil => simp [tot]
  | cons b u ih => simp only [List.cons_append, tot, ih]; omega
theorem tot_sz (l : List (List Rw)) : tot l ≤ szL List.length l := by
  induction l with
  | nil => exact Nat.le_refl _
  | cons a l ih => simp only [tot, szL]; omega
def mu (x : Xc) : Nat := 2 * tot x.pend + tot x.que
theorem aok_tail {r : Rw} {p : List Rw} (h : aok (r :: p) = true) : aok p = true := by
  simp only [aok, Bool.and_eq_true, leI, decide_eq_true_eq, List.all_cons, List.length_cons] at h ⊢
  exact ⟨by omega, h.2.2⟩
theorem exOk_of {x : Xc} (h1 : ∀ l ∈ x.pend, aok l = true) (h2 : win x.pend.length 1 3 = true) (h3 : win x.que.length 1 3 = true) (h4 : x.got.length = x.que.length) (h5 : win x.cap 1 9 = true) (h6 : recvOk x.que.length x.cap 0 x.que x.got = true) : exOk x = true := by
  simp only [exOk, sendOk, Bool.and_eq_true, eqI, decide_eq_true_eq]
  exact ⟨⟨List.all_eq_true.mpr h1, h2⟩, h3, by omega, h5, h6⟩
theorem send_next {x : Xc} {n : Nat} (hv : exOk x = true) (h : (sendX x n).2 = true) : exOk (sendX x n).1 = true ∧ mu (sendX x n).1 < mu x ∧ n < x.pend.length := by
  by_cases hc : exOk x = true ∧ 0 ≤ (n : Int) ∧ (n : Int) < x.pend.length
  · have e : sendX x n = _ := if_pos hc
    rw [e] at h ⊢
    have hp := exOk_p hv
    obtain ⟨pend, que, got, cap⟩ := x
    simp only at *
    obtain ⟨u, a, v, rfl, rfl⟩ := split_at (show n < pend.length by omega)
    rw [Int.toNat_natCast, getD_m] at h ⊢
    cases a with
    | nil => cases h
    | cons r p =>
      have hr : r.ok = true := aok_all (hp.1 (r :: p) (by simp)) r (by simp)
      obtain ⟨r0, r1⟩ := recv_ok (n := que.length) hp.2.2.1 hr
      obtain ⟨m, hm⟩ : ∃ m : Nat, recv r que.length = m := ⟨(recv r que.length).toNat, by omega⟩
      rw [hm] at r1
      simp only [hm, Int.toNat_natCast] at h ⊢
      obtain ⟨u2, q, v2, rfl, rfl⟩ := split_at (show m < que.length by omega)
      rw [getD_m] at h ⊢
      by_cases hc2 : (q.length : Int) = cap
      · rw [if_pos hc2] at h; cases h
      · rw [if_neg hc2, set_m, set_m]
        have h6 := (recvOk_iff hp.2.2.2.1).mp hp.2.2.2.2.2
        refine ⟨exOk_of (fun l hl => ?_) (by simpa using hp.2.1) (by simpa using hp.2.2.1) (by simpa using hp.2.2.2.1) hp.2.2.2.2.1 ?_, ?_, by simp⟩
        · simp only [List.mem_append, List.mem_cons] at hl
          rcases hl with hl | rfl | hl
          · exact hp.1 l (by simp [hl])
          · exact aok_tail (hp.1 (r :: l) (by simp))
          · exact hp.1 l (by simp [hl])
        · have hlen : (u2 ++ (q ++ [r]) :: v2).length = (u2 ++ q :: v2).length := by simp
          show recvOk (u2 ++ (q ++ [r]) :: v2).length cap 0 (u2 ++ (q ++ [r]) :: v2) got = true
          rw [hlen]
          refine (recvOk_iff (by simpa using hp.2.2.2.1)).mpr fun j q' g' hq hg => ?_
          by_cases hj : j = u2.length
          · subst hj
            simp only [List.getElem?_append_right (Nat.le_refl _), Nat.sub_self, List.getElem?_cons_zero, Option.some.injEq] at hq
            subst hq
            obtain ⟨a1, a2⟩ := h6 u2.length q g' (by simp) hg
            refine ⟨by simp; omega, fun r' hr' => ?_⟩
            simp only [List.mem_append, List.mem_cons, List.not_mem_nil, or_false] at hr'
            rcases hr' with (hr' | rfl) | hr'
            · exact a2 r' (by simp [hr'])
            · exact ⟨hr, by rw [hm]; simp⟩
            · exact a2 r' (by simp [hr'])
          · refine h6 j q' g' ?_ hg
            rw [← hq]
            by_cases hlt : j < u2.length
            · rw [List.getElem?_append_left hlt, List.getElem?_append_left hlt]
            · obtain ⟨d, hd⟩ : ∃ d, j - u2.length = d + 1 := ⟨j - u2.length - 1, by omega⟩
              rw [List.getElem?_append_right (by omega), List.getElem?_append_right (by omega), hd]
              rfl
        · simp only [mu, tot_m, List.length_cons, List.length_append, List.length_nil]
          omega
  · have e : sendX x n = _ := if_neg hc
    rw [e] at h
    cases h
theorem recv_next {x : Xc} {n : Nat} (hv : exOk x = true) (h : (recvX x n).2 = true) : exOk (recvX x n).1 = true ∧ mu (recvX x n).1 < mu x ∧ n < x.que.length := by
  by_cases hc : exOk x = true ∧ 0 ≤ (n : Int) ∧ (n : Int) < x.que.length
  · have e : recvX x n = _ := if_pos hc
    rw [e] at h ⊢
    have hp := exOk_p hv
    obtain ⟨pend, que, got, cap⟩ := x
    simp only at *
    obtain ⟨u2, g, v2, rfl, hu2⟩ := split_at (show n < got.length by omega)
    obtain ⟨u, a, v, rfl, hu⟩ := split_at (show n < que.length by omega)
    have g1 : (u ++ a :: v).getD n [] = a := by rw [← hu]; exact getD_m u v a []
    have g3 : (u2 ++ g :: v2).getD n [] = g := by rw [← hu2]; exact getD_m u2 v2 g []
    have g4 : ∀ b : List Rw, (u ++ a :: v).set n b = u ++ b :: v := fun b => by rw [← hu]; exact set_m u v a b
    have g5 : ∀ b : List Rw, (u2 ++ g :: v2).set n b = u2 ++ b :: v2 := fun b => by rw [← hu2]; exact set_m u2 v2 g b
    rw [Int.toNat_natCast, g1] at h ⊢
    cases a with
    | nil => cases h
    | cons r p =>
      simp only [g3, g4, g5] at h ⊢
      have h6 := (recvOk_iff hp.2.2.2.1).mp hp.2.2.2.2.2
      refine ⟨exOk_of hp.1 hp.2.1 (by simpa using hp.2.2.1) (by simpa using hp.2.2.2.1) hp.2.2.2.2.1 ?_, ?_, by simp; omega⟩
      · have hlen : (u ++ p :: v).length = (u ++ (r :: p) :: v).length := by simp
        show recvOk (u ++ p :: v).length cap 0 (u ++ p :: v) (u2 ++ (g ++ [r]) :: v2) = true
        rw [hlen]
        refine (recvOk_iff (by simpa using hp.2.2.2.1)).mpr fun j q' g' hq hg => ?_
        by_cases hj : j = n
        · rw [hj] at hq hg ⊢
          have hq' : q' = p := by
            rw [← hu, List.getElem?_append_right (Nat.le_refl _)] at hq
            simpa using hq.symm
          have hg' : g' = g ++ [r] := by
            rw [← hu2, List.getElem?_append_right (Nat.le_refl _)] at hg
            simpa using hg.symm
          subst hq'; subst hg'
          obtain ⟨a1, a2⟩ := h6 n (r :: q') g (by rw [← hu]; simp) (by rw [← hu2]; simp)
          refine ⟨by simp at a1; omega, fun r' hr' => a2 r' ?_⟩
          simp only [List.mem_append, List.mem_cons, List.not_mem_nil, or_false] at hr' ⊢
          rcases hr' with hr' | hr' | hr'
          · exact .inl (.inr hr')
          · exact .inr hr'
          · exact .inl (.inl hr')
        · refine h6 j q' g' ?_ ?_
          · rw [← hq]
            by_cases hlt : j < u.length
            · rw [List.getElem?_append_left hlt, List.getElem?_append_left hlt]
            · obtain ⟨d, hd⟩ : ∃ d, j - u.length = d + 1 := ⟨j - u.length - 1, by omega⟩
              rw [List.getElem?_append_right (by omega), List.getElem?_append_right (by omega), hd]
              rfl
          · rw [← hg]
            by_cases hlt : j < u2.length
            · rw [List.getElem?_append_left hlt, List.getElem?_append_left hlt]
            · obtain ⟨d, hd⟩ : ∃ d, j - u2.length = d + 1 := ⟨j - u2.length - 1, by omega⟩
              rw [List.getElem?_append_right (by omega), List.getElem?_append_right (by omega), hd]
              rfl
      · simp only [mu, tot_m, List.length_cons]
        omega
  · have e : recvX x n = _ := if_neg hc
    rw [e] at h
    cases h
def mays (x : Xc) : List Nat := ((List.range x.pend.length).filter fun i : Nat => (sendX x i).2) ++ ((List.range x.que.length).filter fun i : Nat => (recvX x i).2).map (3 + ·)
def doMv (x : Xc) (m : Nat) : Xc := if m < 3 then (sendX x m).1 else (recvX x ((m - 3 : Nat) : Int)).1
def sends (x : Xc) : List Xc := ((List.range x.pend.length).filter fun i : Nat => (sendX x i).2).map fun i : Nat => (sendX x i).1
def recvs (x : Xc) : List Xc := ((List.range x.que.length).filter fun i : Nat => (recvX x i).2).map fun i : Nat => (recvX x i).1
def nx (x : Xc) : List Xc := sends x ++ recvs x
theorem nx_eq {x : Xc} (hv : exOk x = true) : nx x = (mays x).map (doMv x) := by
  have hp := (win_iff.mp (exOk_p hv).2.1).2
  simp only [nx, sends, recvs, mays, List.map_append, List.map_map]
  congr 1
  · refine List.map_congr_left fun i hi => ?_
    have := List.mem_range.mp (List.mem_filter.mp hi).1
    rw [doMv, if_pos (by omega)]
  · refine List.map_congr_left fun i hi => ?_
    show _ = doMv x (3 + i)
    rw [doMv, if_neg (by omega)]
    congr 3
    omega
theorem nx_ok {x y : Xc} (hv : exOk x = true) (hy : y ∈ nx x) : exOk y = true ∧ mu y < mu x ∧ y.sz = x.sz := by
  simp only [nx, sends, recvs, List.mem_append, List.mem_map, List.mem_filter] at hy
  rcases hy with ⟨i, ⟨_, hi⟩, rfl⟩ | ⟨i, ⟨_, hi⟩, rfl⟩
  · obtain ⟨h1, h2, _⟩ := send_next hv hi
    exact ⟨h1, h2, sendX_sz x i⟩
  · obtain ⟨h1, h2, _⟩ := recv_next hv hi
    exact ⟨h1, h2, recvX_sz x i⟩
theorem nx_len (x : Xc) (hv : exOk x = true) : (nx x).length ≤ 6 := by
  have h1 := (win_iff.mp (exOk_p hv).2.1).2
  have h2 := (win_iff.mp (exOk_p hv).2.2.1).2
  have e1 := List.length_filter_le (fun i : Nat => (sendX x i).2) (List.range x.pend.length)
  have e2 := List.length_filter_le (fun i : Nat => (recvX x i).2) (List.range x.que.length)
  simp only [List.length_range] at e1 e2
  simp only [nx, sends, recvs, List.length_append, List.length_map]
  omega
def pk (p : Int) (l : Nat) : Nat := (Int.tmod (Int.tmod p l + l) l).toNat
theorem pk_ok (p : Int) {l : Nat} (h : 0 < l) (h2 : l ≤ 1073741824) : Int.tmod (w64 (Int.tmod p l + l)) l = (pk p l : Int) ∧ pk p l < l := by
  have h3 := Int.tmod_lt_of_pos p (show (0 : Int) < l by omega)
  have h4 : -(l : Int) < Int.tmod p l := by
    have := Int.lt_tmod_of_pos p (show (0 : Int) < l by omega)
    omega
  rw [w64_id ⟨by omega, by omega⟩]
  have h5 := Int.tmod_nonneg (l : Int) (show 0 ≤ Int.tmod p l + l by omega)
  have h6 := Int.tmod_lt_of_pos (Int.tmod p l + l) (show (0 : Int) < l by omega)
  unfold pk
  omega
def pickAt (picks : List Int) (n l : Nat) : Nat := if picks = [] then 0 else pk (picks.getD (n % picks.length) 0) l
theorem pickAt_lt (picks : List Int) (n : Nat) {l : Nat} (h : 0 < l) (h2 : l ≤ 1073741824) : pickAt picks n l < l := by
  unfold pickAt
  split
  · exact h
  · exact (pk_ok _ h h2).2
def runX (picks : List Int) : Nat → Xc → Nat → Xc × Nat
  | 0, x, n => (x, n)
  | f + 1, x, n => match (nx x)[pickAt picks n (nx x).length]? with
    | none => (x, n)
    | some y => runX picks f y (n + 1)
theorem coll {β γ : Type} {N c : Nat} (hN : N < 4611686018427387904) {b : Nat → Bool} {g : Nat → γ} {L : List γ → Int → Option β} {K : List γ → Option β}
    (hs : ∀ (i : Nat) (acc : List γ), i < N → acc.length ≤ c + i → L acc i = L (if b i then acc ++ [g i] else acc) (w64 (i + 1))) (he : ∀ acc, acc.length ≤ c + N → L acc N = K acc) (acc : List γ) (h0 : acc.length ≤ c) :
    L acc 0 = K (acc ++ ((List.range N).filter b).map g) := by
  have := zip_loop (l := List.range N) (L := L) (F := fun s v => K (s ++ (v.filter b).map g)) (I := fun s u _ => s.length ≤ c + u.length) (by simp; omega) (fun u a v s e hI => by
    have ha : a = u.length := by
      have h1 : (List.range N)[u.length]? = some a := by rw [e]; simp
      have h2 := (List.getElem?_eq_some_iff.mp h1).1
      rw [List.getElem?_range (by simpa using h2)] at h1
      exact (Option.some.inj h1).symm
    subst ha
    have hl : u.length < N := by
      have := congrArg List.length e
      simp at this
      omega
    refine .inl ⟨_, hs u.length s hl hI, ?_, ?_⟩
    · cases b u.length <;> simp <;> omega
    · cases hb : b u.length
      · simp [hb]
      · simp [hb]) (fun s hI => by
    simp only [List.length_range] at hI ⊢
    rw [he s hI]
    simp) acc (by simpa using h0)
  exact this
end Go.Proofs.Ytbmafhpbinjgaaa.Vai
namespace Go.Proofs.Ytbmafhpbinjgaaa.Vai
open Go
set_option linter.unusedSimpArgs false
set_option linter.unusedVariables false
set_option linter.unnecessarySimpa false
set_option maxRecDepth 10000
def XR (y : Xc × Nat) : List Dat := [.sl (y.1.pend.map rsE), .sl (y.1.que.map rsE), .sl (y.1.got.map rsE), .int y.1.cap, .int (y.2 : Int), .bool true]
theorem x_app (acc : List Xc) (y : Xc) : List.append (acc.map Xc.e) [[Dat.sl (y.pend.map rsE), .sl (y.que.map rsE), .sl (y.got.map rsE), .int y.cap]] = (acc ++ [y]).map Xc.e := by simp [Xc.e]
theorem lt_nat {i n : Nat} (h : i < n) : ltI (i : Int) (n : Int) = true := ltT (by omega)
theorem tmod_nat (n m : Nat) : Int.tmod (n : Int) (m : Int) = ((n % m : Nat) : Int) := by
  rw [Int.tmod_eq_emod_of_nonneg (by omega)]
  rfl
def KX (picks : List Int) (n : Nat) (x : Xc) (next : Xc → Option (List Dat)) (acc : List Xc) : Option (List Dat) :=
  match acc[pickAt picks n acc.length]? with
  | none => some (XR (x, n))
  | some y => next y
theorem KX_eq {picks : List Int} {n : Nat} {x : Xc} {next : Xc → Option (List Dat)} {acc : List Xc} (hn : n < 4611686018427387904) (hl : acc.length ≤ 1073741824) {nf : Int → Rows → Rows → Rows → Int → Option (List Dat)}
    (hf : ∀ (k : Int) (y : Xc), y ∈ acc → nf k (y.pend.map rsE) (y.que.map rsE) (y.got.map rsE) y.cap = next y) :
    (bif eqI (lenI (acc.map Xc.e)) 0 then some [.sl (x.pend.map rsE), .sl (x.que.map rsE), .sl (x.got.map rsE), .int x.cap, .int (n : Int), .bool true] else
      bif ltI 0 (lenI (picks.map intE)) then (bif !(eqI (lenI (picks.map intE)) 0) then (bif inR (Int.tmod n (lenI (picks.map intE))) (lenI (picks.map intE)) then (bif !(eqI (lenI (acc.map Xc.e)) 0) then (bif !(eqI (lenI (acc.map Xc.e)) 0) then
        (bif inR (Int.tmod (w64 ((Int.tmod (gn (at' (picks.map intE) (tn (Int.tmod n (lenI (picks.map intE)))))) (lenI (acc.map Xc.e))) + (lenI (acc.map Xc.e)))) (lenI (acc.map Xc.e))) (lenI (acc.map Xc.e)) then
          nf (Int.tmod (w64 ((Int.tmod (gn (at' (picks.map intE) (tn (Int.tmod n (lenI (picks.map intE)))))) (lenI (acc.map Xc.e))) + (lenI (acc.map Xc.e)))) (lenI (acc.map Xc.e)))
            (gl (at' (acc.map Xc.e) (tn (Int.tmod (w64 ((Int.tmod (gn (at' (picks.map intE) (tn (Int.tmod n (lenI (picks.map intE)))))) (lenI (acc.map Xc.e))) + (lenI (acc.map Xc.e)))) (lenI (acc.map Xc.e))))))
            (gl (tk 1 (at' (acc.map Xc.e) (tn (Int.tmod (w64 ((Int.tmod (gn (at' (picks.map intE) (tn (Int.tmod n (lenI (picks.map intE)))))) (lenI (acc.map Xc.e))) + (lenI (acc.map Xc.e)))) (lenI (acc.map Xc.e)))))))
            (gl (tk 2 (at' (acc.map Xc.e) (tn (Int.tmod (w64 ((Int.tmod (gn (at' (picks.map intE) (tn (Int.tmod n (lenI (picks.map intE)))))) (lenI (acc.map Xc.e))) + (lenI (acc.map Xc.e)))) (lenI (acc.map Xc.e)))))))
            (gn (tk 3 (at' (acc.map Xc.e) (tn (Int.tmod (w64 ((Int.tmod (gn (at' (picks.map intE) (tn (Int.tmod n (lenI (picks.map intE)))))) (lenI (acc.map Xc.e))) + (lenI (acc.map Xc.e)))) (lenI (acc.map Xc.e))))))) else none) else none) else none) else none) else none)
      else (bif inR 0 (lenI (acc.map Xc.e)) then nf 0 (gl (at' (acc.map Xc.e) (tn 0))) (gl (tk 1 (at' (acc.map Xc.e) (tn 0)))) (gl (tk 2 (at' (acc.map Xc.e) (tn 0)))) (gn (tk 3 (at' (acc.map Xc.e) (tn 0)))) else none)) =
    KX picks n x next acc := by
  simp only [lenI_map]
  cases acc with
  | nil => rfl
  | cons a0 rest =>
    generalize ha : a0 :: rest = acc at *
    have h0 : 0 < acc.length := by rw [← ha]; simp
    rw [eqF (by omega), cond_false]
    have hy : ∀ k : Nat, k < acc.length → ∃ y, acc[k]? = some y ∧ at' (acc.map Xc.e) k = y.e := fun k hk => by
      obtain ⟨u, a, v, rfl, rfl⟩ := split_at hk
      exact ⟨a, by simp, at_m u v a⟩
    unfold KX pickAt
    cases picks with
    | nil =>
      simp only [List.length_nil, if_true]
      rw [ltF (by omega), cond_false, inRT (by omega) (by omega), cond_true]
      obtain ⟨y, h1, h2⟩ := hy 0 h0
      show nf 0 (gl (at' (acc.map Xc.e) 0)) (gl (tk 1 (at' (acc.map Xc.e) 0))) (gl (tk 2 (at' (acc.map Xc.e) 0))) (gn (tk 3 (at' (acc.map Xc.e) 0))) = _
      rw [h1, h2]
      exact hf 0 y (List.mem_of_getElem? h1)
    | cons p0 prest =>
      generalize hp : p0 :: prest = picks at *
      have hp0 : 0 < picks.length := by rw [← hp]; simp
      rw [ltT (by omega), cond_true, eqF (by omega), Bool.not_false, cond_true, tmod_nat, inRT (by omega) (by have := Nat.mod_lt n hp0; omega), cond_true, if_neg (by rw [← hp]; simp)]
      obtain ⟨u, a, v, rfl, hu⟩ := split_at (Nat.mod_lt n hp0)
      rw [tn_c]
      have e1 : at' ((u ++ a :: v).map intE) (n % (u ++ a :: v).length) = [.int a] := by rw [← hu]; exact at_m u v a
      have e2 : (u ++ a :: v).getD (n % (u ++ a :: v).length) 0 = a := by rw [← hu]; exact getD_m u v a 0
      rw [e1, e2, gn_c]
      obtain ⟨k1, k2⟩ := pk_ok a h0 hl
      rw [k1, inRT (by omega) (by omega)]
      simp only [eqF (show ((acc.length : Nat) : Int) ≠ 0 by omega), Bool.not_false, cond_true, tn_c]
      obtain ⟨y, h1, h2⟩ := hy _ k2
      rw [h1, h2]
      exact hf _ y (List.mem_of_getElem? h1)
theorem len_sends (x : Xc) : (sends x).length ≤ x.pend.length := by
  have e1 := List.length_filter_le (fun i : Nat => (sendX x i).2) (List.range x.pend.length)
  simp only [List.length_range] at e1
  simpa [sends] using e1
theorem iStep (picks : List Int) {x : Xc} {n : Nat} (hv : exOk x = true) (hb : x.B2) (hn : n + 1 < 4611686018427387904) {a1 a2 a4 a5 a7 a9 : Int} {A B C D : Rows} {next : Xc → Option (List Dat)}
    (hf : ∀ (k : Int) (y : Xc) (D' : Rows), y ∈ nx x → L_impl_RunExchange_3 (picks.map intE) a1 a2 ((n + 1 : Nat) : Int) a4 k (y.pend.map rsE) k (y.que.map rsE) k (y.got.map rsE) y.cap A B C D' = next y) :
    L_impl_RunExchange_3 (picks.map intE) a1 a2 n a4 a5 (x.pend.map rsE) a7 (x.que.map rsE) a9 (x.got.map rsE) x.cap A B C D = KX picks n x next (nx x) := by
  have hp := (win_iff.mp (exOk_p hv).2.1).2
  have hq := (win_iff.mp (exOk_p hv).2.2.1).2
  have hl := len_sends x
  rw [L_impl_RunExchange_3_eq, lenI_map]
  refine (coll (N := x.pend.length) (c := 0) (b := fun i : Nat => (sendX x i).2) (g := fun i : Nat => (sendX x i).1) (L := fun (acc : List Xc) i => L_impl_RunExchange_4 (picks.map intE) a1 a2 n x.pend.length i a4 a5 (x.pend.map rsE) a7 (x.que.map rsE) a9 (x.got.map rsE) x.cap (acc.map Xc.e) A B C D)
    (K := fun acc => L_impl_RunExchange_5 (picks.map intE) a1 a2 n x.que.length 0 a4 a5 (x.pend.map rsE) a7 (x.que.map rsE) a9 (x.got.map rsE) x.cap (acc.map Xc.e) A B C D) (by omega) (fun i acc hi hacc => ?_) (fun acc hacc => ?_) [] (by simp)).trans ?_
  · show L_impl_RunExchange_4 _ _ _ _ _ _ _ _ _ _ _ _ _ _ _ _ _ _ _ = L_impl_RunExchange_4 _ _ _ _ _ _ _ _ _ _ _ _ _ _ _ _ _ _ _
    rw [L_impl_RunExchange_4_eq, lt_nat hi, cond_true, iSend x i hb]
    simp only [XB, gn_c, gb_c, gs_c, gl_c, tk_s, tk_0, List.drop_succ_cons, List.drop_zero, List.headD_cons, List.getD_cons_zero, List.getD_cons_succ, bind_s]
    cases hs : (sendX x i).2
    · simp
    · rw [len_map, show fitM (Nat.succ acc.length) 80 = true from fitT (by omega), x_app]
      simp
  · show L_impl_RunExchange_4 _ _ _ _ _ _ _ _ _ _ _ _ _ _ _ _ _ _ _ = L_impl_RunExchange_5 _ _ _ _ _ _ _ _ _ _ _ _ _ _ _ _ _ _ _
    rw [L_impl_RunExchange_4_eq, ltF (Int.le_refl _), cond_false, lenI_map]
  · show L_impl_RunExchange_5 _ _ _ _ _ _ _ _ _ _ _ _ _ _ _ _ _ _ _ = _
    rw [List.nil_append]
    refine (coll (N := x.que.length) (c := x.pend.length) (b := fun i : Nat => (recvX x i).2) (g := fun i : Nat => (recvX x i).1) (L := fun (acc : List Xc) i => L_impl_RunExchange_5 (picks.map intE) a1 a2 n x.que.length i a4 a5 (x.pend.map rsE) a7 (x.que.map rsE) a9 (x.got.map rsE) x.cap (acc.map Xc.e) A B C D)
      (K := fun acc => L_impl_RunExchange_5 (picks.map intE) a1 a2 n x.que.length x.que.length a4 a5 (x.pend.map rsE) a7 (x.que.map rsE) a9 (x.got.map rsE) x.cap (acc.map Xc.e) A B C D) (by omega) (fun i acc hi hacc => ?_) (fun acc hacc => rfl) (sends x) hl).trans ?_
    · show L_impl_RunExchange_5 _ _ _ _ _ _ _ _ _ _ _ _ _ _ _ _ _ _ _ = L_impl_RunExchange_5 _ _ _ _ _ _ _ _ _ _ _ _ _ _ _ _ _ _ _
      rw [L_impl_RunExchange_5_eq, lt_nat hi, cond_true, iRecv x i hb]
      simp only [XB, gn_c, gb_c, gs_c, gl_c, tk_s, tk_0, List.drop_succ_cons, List.drop_zero, List.headD_cons, List.getD_cons_zero, List.getD_cons_succ, bind_s]
      cases hs : (recvX x i).2
      · simp
      · rw [len_map, show fitM (Nat.succ acc.length) 80 = true from fitT (by omega), x_app]
        simp
    · show L_impl_RunExchange_5 _ _ _ _ _ _ _ _ _ _ _ _ _ _ (List.map Xc.e (nx x)) _ _ _ _ = _
      rw [L_impl_RunExchange_5_eq, ltF (Int.le_refl _), cond_false, w64_s (by omega)]
      exact KX_eq (nf := fun k P Q G c => L_impl_RunExchange_3 (picks.map intE) a1 a2 ((n + 1 : Nat) : Int) a4 k P k Q k G c A B C ((nx x).map Xc.e)) (by omega) (by have := nx_len x hv; omega) (fun k y hy => hf k y _ hy)
theorem iStep0 (picks : List Int) {x : Xc} {n : Nat} (hv : exOk x = true) (hb : x.B2) (hn : n + 1 < 4611686018427387904) {a1 a2 a4 : Int} {A B C : Rows} {next : Xc → Option (List Dat)}
    (hf : ∀ (k : Int) (y : Xc) (D' : Rows), y ∈ nx x → L_impl_RunExchange_3 (picks.map intE) a1 a2 ((n + 1 : Nat) : Int) a4 k (y.pend.map rsE) k (y.que.map rsE) k (y.got.map rsE) y.cap A B C D' = next y) :
    L_impl_RunExchange_0 (picks.map intE) a1 a2 n a4 x.cap A B C (x.pend.map rsE) (x.que.map rsE) (x.got.map rsE) = KX picks n x next (nx x) := by
  have hp := (win_iff.mp (exOk_p hv).2.1).2
  have hq := (win_iff.mp (exOk_p hv).2.2.1).2
  have hl := len_sends x
  rw [L_impl_RunExchange_0_eq, lenI_map]
  refine (coll (N := x.pend.length) (c := 0) (b := fun i : Nat => (sendX x i).2) (g := fun i : Nat => (sendX x i).1) (L := fun (acc : List Xc) i => L_impl_RunExchange_1 (picks.map intE) a1 a2 n x.pend.length i a4 x.cap (acc.map Xc.e) A B C (x.pend.map rsE) (x.que.map rsE) (x.got.map rsE))
    (K := fun acc => L_impl_RunExchange_2 (picks.map intE) a1 a2 n x.que.length 0 a4 x.cap (acc.map Xc.e) A B C (x.pend.map rsE) (x.que.map rsE) (x.got.map rsE)) (by omega) (fun i acc hi hacc => ?_) (fun acc hacc => ?_) [] (by simp)).trans ?_
  · show L_impl_RunExchange_1 _ _ _ _ _ _ _ _ _ _ _ _ _ _ _ = L_impl_RunExchange_1 _ _ _ _ _ _ _ _ _ _ _ _ _ _ _
    rw [L_impl_RunExchange_1_eq, lt_nat hi, cond_true, iSend x i hb]
    simp only [XB, gn_c, gb_c, gs_c, gl_c, tk_s, tk_0, List.drop_succ_cons, List.drop_zero, List.headD_cons, List.getD_cons_zero, List.getD_cons_succ, bind_s]
    cases hs : (sendX x i).2
    · simp
    · rw [len_map, show fitM (Nat.succ acc.length) 80 = true from fitT (by omega), x_app]
      simp
  · show L_impl_RunExchange_1 _ _ _ _ _ _ _ _ _ _ _ _ _ _ _ = L_impl_RunExchange_2 _ _ _ _ _ _ _ _ _ _ _ _ _ _ _
    rw [L_impl_RunExchange_1_eq, ltF (Int.le_refl _), cond_false, lenI_map]
  · show L_impl_RunExchange_2 _ _ _ _ _ _ _ _ _ _ _ _ _ _ _ = _
    rw [List.nil_append]
    refine (coll (N := x.que.length) (c := x.pend.length) (b := fun i : Nat => (recvX x i).2) (g := fun i : Nat => (recvX x i).1) (L := fun (acc : List Xc) i => L_impl_RunExchange_2 (picks.map intE) a1 a2 n x.que.length i a4 x.cap (acc.map Xc.e) A B C (x.pend.map rsE) (x.que.map rsE) (x.got.map rsE))
      (K := fun acc => L_impl_RunExchange_2 (picks.map intE) a1 a2 n x.que.length x.que.length a4 x.cap (acc.map Xc.e) A B C (x.pend.map rsE) (x.que.map rsE) (x.got.map rsE)) (by omega) (fun i acc hi hacc => ?_) (fun acc hacc => rfl) (sends x) hl).trans ?_
    · show L_impl_RunExchange_2 _ _ _ _ _ _ _ _ _ _ _ _ _ _ _ = L_impl_RunExchange_2 _ _ _ _ _ _ _ _ _ _ _ _ _ _ _
      rw [L_impl_RunExchange_2_eq, lt_nat hi, cond_true, iRecv x i hb]
      simp only [XB, gn_c, gb_c, gs_c, gl_c, tk_s, tk_0, List.drop_succ_cons, List.drop_zero, List.headD_cons, List.getD_cons_zero, List.getD_cons_succ, bind_s]
      cases hs : (recvX x i).2
      · simp
      · rw [len_map, show fitM (Nat.succ acc.length) 80 = true from fitT (by omega), x_app]
        simp
    · show L_impl_RunExchange_2 _ _ _ _ _ _ _ _ (List.map Xc.e (nx x)) _ _ _ _ _ _ = _
      rw [L_impl_RunExchange_2_eq, ltF (Int.le_refl _), cond_false, w64_s (by omega)]
      exact KX_eq (nf := fun k P Q G c => L_impl_RunExchange_3 (picks.map intE) a1 a2 ((n + 1 : Nat) : Int) a4 k P k Q k G c A B C ((nx x).map Xc.e)) (by omega) (by have := nx_len x hv; omega) (fun k y hy => hf k y _ hy)
theorem nx_nil {x : Xc} (hv : exOk x = true) (h : mu x = 0) : nx x = [] := by
  cases hn : nx x with
  | nil => rfl
  | cons y r =>
    have := (nx_ok hv (y := y) (by rw [hn]; simp)).2.1
    omega
theorem KX_run (picks : List Int) (f : Nat) (x : Xc) (n : Nat) : KX picks n x (fun y => some (XR (runX picks f y (n + 1)))) (nx x) = some (XR (runX picks (f + 1) x n)) := by
  unfold KX
  rw [runX]
  cases (nx x)[pickAt picks n (nx x).length]? <;> rfl
theorem B2_sz {x y : Xc} (h : x.B2) (e : y.sz = x.sz) : y.B2 := by
  unfold Xc.B2 at *
  omega
theorem iRunL (picks : List Int) : ∀ (f : Nat) (x : Xc) (n : Nat), exOk x = true → x.B2 → mu x ≤ f → n + f + 1 < 4611686018427387904 → ∀ (a1 a2 a4 a5 a7 a9 : Int) (A B C D : Rows),
    L_impl_RunExchange_3 (picks.map intE) a1 a2 n a4 a5 (x.pend.map rsE) a7 (x.que.map rsE) a9 (x.got.map rsE) x.cap A B C D = some (XR (runX picks f x n)) := by
  intro f
  induction f with
  | zero =>
    intro x n hv hb hm hn a1 a2 a4 a5 a7 a9 A B C D
    have h0 := nx_nil hv (by omega)
    rw [iStep picks hv hb (by omega) (next := fun _ => none) (fun k y D' hy => by rw [h0] at hy; cases hy), h0]
    rfl
  | succ f ih =>
    intro x n hv hb hm hn a1 a2 a4 a5 a7 a9 A B C D
    rw [iStep picks hv hb (by omega) (next := fun y => some (XR (runX picks f y (n + 1)))) (fun k y D' hy => by
      obtain ⟨h1, h2, h3⟩ := nx_ok hv hy
      exact ih y (n + 1) h1 (B2_sz hb h3) (by omega) (by omega) _ _ _ _ _ _ _ _ _ _)]
    exact KX_run picks f x n
theorem iRun (x : Xc) (picks : List Int) (hb : x.B2) : callI tE f_impl_RunExchange [.sl (x.pend.map rsE), .sl (x.que.map rsE), .sl (x.got.map rsE), .int x.cap, .sl (picks.map intE)] =
    some (if exOk x = true then XR (runX picks (mu x) x 0) else [.sl (x.pend.map rsE), .sl (x.que.map rsE), .sl (x.got.map rsE), .int x.cap, .int 0, .bool false]) := by
  rw [c_impl_RunExchange, iCloneX x hb.b]
  simp only [gn_c, gb_c, gs_c, gl_c, tk_s, tk_0, List.drop_succ_cons, List.drop_zero, List.headD_cons, List.getD_cons_zero, List.getD_cons_succ, bind_s, iValidX x hb]
  by_cases hv : exOk x = true
  · rw [hv, if_pos rfl]
    show L_impl_RunExchange_0 _ _ _ ((0 : Nat) : Int) _ _ _ _ _ _ _ _ = _
    have hmu : mu x ≤ 3 * 1073741824 := by
      have h1 := tot_sz x.pend
      have h2 := tot_sz x.que
      have h3 := hb.b.p
      unfold mu
      omega
    cases hm : mu x with
    | zero =>
      have h0 := nx_nil hv hm
      rw [iStep0 picks hv hb (by omega) (next := fun _ => none) (fun k y D' hy => by rw [h0] at hy; cases hy), h0]
      rfl
    | succ f =>
      rw [iStep0 picks hv hb (by omega) (next := fun y => some (XR (runX picks f y (0 + 1)))) (fun k y D' hy => by
        obtain ⟨h1, h2, h3⟩ := nx_ok hv hy
        exact iRunL picks f y (0 + 1) h1 (B2_sz hb h3) (by omega) (by omega) _ _ _ _ _ _ _ _ _ _)]
      exact KX_run picks f x 0
  · rw [if_neg hv, (Bool.not_eq_true _).mp hv]
    rfl
end Go.Proofs.Ytbmafhpbinjgaaa.Vai
namespace Go.Proofs.Ytbmafhpbinjgaaa.Vai
open Go
set_option linter.unusedSimpArgs false
set_option linter.unusedVariables false
set_option linter.unnecessarySimpa false
set_option maxRecDepth 10000
theorem recv_b {x : Xc} {k : Nat} (hv : exOk x = true) (hk : k < x.que.length) : (recvX x k).2 = decide (0 < (x.que.getD k []).length) := by
  rw [show recvX x k = _ from if_pos ⟨hv, by omega, by omega⟩, Int.toNat_natCast]
  cases h : x.que.getD k [] with
  | nil => rfl
  | cons r p => simp
def mayE (m : Nat) : List Dat := [.int (m : Int)]
theorem m_app (acc : List Nat) (m : Nat) : List.append (acc.map mayE) [[Dat.int (m : Int)]] = (acc ++ [m]).map mayE := by simp [mayE]
theorem sMay {x : Xc} (hv : exOk x = true) (hb : x.B2) : callI tE f_spec_l26May [.sl (x.pend.map rsE), .sl (x.que.map rsE), .sl (x.got.map rsE), .int x.cap] = some [.sl ((mays x).map mayE)] := by
  have hp := (win_iff.mp (exOk_p hv).2.1).2
  have hq := (win_iff.mp (exOk_p hv).2.2.1).2
  rw [c_spec_l26May]
  refine (coll (N := x.pend.length) (c := 0) (b := fun i : Nat => (sendX x i).2) (g := fun i : Nat => i) (L := fun (acc : List Nat) i => L_spec_l26May_0 0 i (x.pend.map rsE) (x.que.map rsE) (x.got.map rsE) x.cap (acc.map mayE))
    (K := fun acc => L_spec_l26May_1 0 0 (x.pend.map rsE) (x.que.map rsE) (x.got.map rsE) x.cap (acc.map mayE)) (by omega) (fun i acc hi hacc => ?_) (fun acc hacc => ?_) [] (by simp)).trans ?_
  · show L_spec_l26May_0 _ _ _ _ _ _ _ = L_spec_l26May_0 _ _ _ _ _ _ _
    rw [L_spec_l26May_0_eq, lenI_map, lt_nat hi, cond_true, sSend x i hb]
    simp only [XB, gn_c, gb_c, gs_c, gl_c, tk_s, tk_0, List.drop_succ_cons, List.drop_zero, List.headD_cons, List.getD_cons_zero, List.getD_cons_succ, bind_s]
    cases hs : (sendX x i).2
    · simp
    · rw [len_map, show fitM (Nat.succ acc.length) 8 = true from fitT (by omega), m_app]
      simp
  · show L_spec_l26May_0 _ _ _ _ _ _ _ = L_spec_l26May_1 _ _ _ _ _ _ _
    rw [L_spec_l26May_0_eq, lenI_map, ltF (Int.le_refl _), cond_false]
  · rw [List.nil_append, List.map_id']
    have e1 := List.length_filter_le (fun i : Nat => (sendX x i).2) (List.range x.pend.length)
    simp only [List.length_range] at e1
    refine (coll (N := x.que.length) (c := x.pend.length) (b := fun i : Nat => (recvX x i).2) (g := fun i : Nat => 3 + i) (L := fun (acc : List Nat) i => L_spec_l26May_1 0 i (x.pend.map rsE) (x.que.map rsE) (x.got.map rsE) x.cap (acc.map mayE))
      (K := fun acc => some [.sl (acc.map mayE)]) (by omega) (fun i acc hi hacc => ?_) (fun acc hacc => ?_) _ e1).trans rfl
    · show L_spec_l26May_1 _ _ _ _ _ _ _ = L_spec_l26May_1 _ _ _ _ _ _ _
      rw [L_spec_l26May_1_eq, lenI_map, lt_nat hi, cond_true, inRT (by omega) (by omega), cond_true, recv_b hv hi, tn_c]
      obtain ⟨u, a, v, e, hu⟩ := split_at hi
      have e2 : at' (x.que.map rsE) i = rsE a := by rw [e, ← hu]; exact at_m u v a
      have e3 : x.que.getD i [] = a := by rw [e, ← hu]; exact getD_m u v a []
      rw [e2, e3]
      simp only [rsE, gl_c, lenI_map]
      rw [show ltI 0 (a.length : Int) = decide (0 < a.length) by unfold ltI; rw [Bool.eq_iff_iff]; simp]
      rw [show w64 (3 + (i : Int)) = ((3 + i : Nat) : Int) by rw [w64_id ⟨by omega, by omega⟩]; omega]
      cases hd : decide (0 < a.length)
      · simp
      · rw [len_map, show fitM (Nat.succ acc.length) 8 = true from fitT (by omega), m_app]
        simp
    · show L_spec_l26May_1 _ _ _ _ _ _ _ = _
      rw [L_spec_l26May_1_eq, lenI_map, ltF (Int.le_refl _), cond_false]
theorem mays_in {x : Xc} {m : Nat} (h : m ∈ mays x) : (m < x.pend.length ∧ (sendX x m).2 = true) ∨ ∃ k, m = 3 + k ∧ k < x.que.length ∧ (recvX x k).2 = true := by
  simp only [mays, List.mem_append, List.mem_filter, List.mem_range, List.mem_map] at h
  rcases h with h | ⟨k, h, rfl⟩
  · exact .inl h
  · exact .inr ⟨k, rfl, h⟩
theorem sStep (picks : List Int) {x : Xc} {n : Nat} (hv : exOk x = true) (hb : x.B2) (hn : n + 1 < 4611686018427387904) {a1 a2 a4 : Int} {A B C : Rows} {next : Xc → Option (List Dat)}
    (hf : ∀ (y : Xc), y ∈ nx x → L_spec_RunExchange_0 (picks.map intE) a1 a2 ((n + 1 : Nat) : Int) a4 y.cap A B C (y.pend.map rsE) (y.que.map rsE) (y.got.map rsE) = next y) :
    L_spec_RunExchange_0 (picks.map intE) a1 a2 n a4 x.cap A B C (x.pend.map rsE) (x.que.map rsE) (x.got.map rsE) = KX picks n x next (nx x) := by
  have hp := (win_iff.mp (exOk_p hv).2.1).2
  have hq := (win_iff.mp (exOk_p hv).2.2.1).2
  have hln := nx_len x hv
  have hml : (mays x).length = (nx x).length := by rw [nx_eq hv, List.length_map]
  rw [L_spec_RunExchange_0_eq, sMay hv hb]
  simp only [gn_c, gb_c, gs_c, gl_c, tk_s, tk_0, List.drop_succ_cons, List.drop_zero, List.headD_cons, List.getD_cons_zero, List.getD_cons_succ, bind_s, lenI_map, w64_s (show n < 9223372036854775807 by omega)]
  -- a move, taken
  have take : ∀ k : Nat, k < (mays x).length → ∃ y, (nx x)[k]? = some y ∧
      (bif ltI (gn (at' ((mays x).map mayE) k)) 3 then (bif inR (k : Int) ((mays x).length : Int) then ((callI tE f_spec_SendRow [.sl (x.pend.map rsE), .sl (x.que.map rsE), .sl (x.got.map rsE), .int x.cap, .int (gn (at' ((mays x).map mayE) k))]).bind fun r1 => L_spec_RunExchange_0 (picks.map intE) a1 a2 ((n + 1 : Nat) : Int) a4 (gn (tk 3 r1)) A B C (gl r1) (gl (tk 1 r1)) (gl (tk 2 r1))) else none)
      else (bif inR (k : Int) ((mays x).length : Int) then ((callI tE f_spec_ReceiveRow [.sl (x.pend.map rsE), .sl (x.que.map rsE), .sl (x.got.map rsE), .int x.cap, .int (w64 (gn (at' ((mays x).map mayE) k) - 3))]).bind fun r1 => L_spec_RunExchange_0 (picks.map intE) a1 a2 ((n + 1 : Nat) : Int) a4 (gn (tk 3 r1)) A B C (gl r1) (gl (tk 1 r1)) (gl (tk 2 r1))) else none)) = next y := fun k hk => by
    obtain ⟨u, m, v, e, hu⟩ := split_at hk
    have e2 : at' ((mays x).map mayE) k = mayE m := by rw [e, ← hu]; exact at_m u v m
    have hg : (nx x)[k]? = some (doMv x m) := by rw [nx_eq hv, e, ← hu]; simp
    have hmem : doMv x m ∈ nx x := List.mem_of_getElem? hg
    refine ⟨doMv x m, hg, ?_⟩
    rw [e2, inRT (by omega) (by omega)]
    simp only [mayE, gn_c, cond_true]
    have hm : m ∈ mays x := by rw [e]; simp
    rcases mays_in hm with ⟨h1, h2⟩ | ⟨k', rfl, h1, h2⟩
    · have hd : doMv x m = (sendX x m).1 := by rw [doMv, if_pos (by omega)]
      rw [ltT (by omega), cond_true, sSend x m hb]
      simp only [XB, gn_c, gb_c, gs_c, gl_c, tk_s, tk_0, List.drop_succ_cons, List.drop_zero, List.headD_cons, List.getD_cons_zero, List.getD_cons_succ, bind_s]
      rw [← hd]
      exact hf _ hmem
    · have hd : doMv x (3 + k') = (recvX x k').1 := by
        rw [doMv, if_neg (by omega)]
        congr 3
        omega
      rw [ltF (by omega), cond_false, show w64 (((3 + k' : Nat) : Int) - 3) = (k' : Int) by rw [w64_id ⟨by omega, by omega⟩]; omega, sRecv x k' hb]
      simp only [XB, gn_c, gb_c, gs_c, gl_c, tk_s, tk_0, List.drop_succ_cons, List.drop_zero, List.headD_cons, List.getD_cons_zero, List.getD_cons_succ, bind_s]
      rw [← hd]
      exact hf _ hmem
  by_cases hl0 : (mays x).length = 0
  · have h0 : nx x = [] := List.length_eq_zero_iff.mp (by omega)
    rw [eqT (by omega), cond_true, h0]
    rfl
  · rw [eqF (by omega), cond_false]
    unfold KX pickAt
    rw [← hml]
    cases picks with
    | nil =>
      simp only [List.length_nil, if_true]
      rw [ltF (by omega), cond_false, inRT (by omega) (by omega), cond_true]
      obtain ⟨y, h1, h2⟩ := take 0 (by omega)
      rw [h1]
      rw [inRT (by omega) (by omega)] at h2
      exact h2
    | cons p0 prest =>
      generalize hpk : p0 :: prest = picks at *
      have hp0 : 0 < picks.length := by rw [← hpk]; simp
      rw [ltT (by omega), cond_true, eqF (by omega), Bool.not_false, cond_true, tmod_nat, inRT (by omega) (by have := Nat.mod_lt n hp0; omega), cond_true, if_neg (by rw [← hpk]; simp)]
      obtain ⟨u, a, v, e, hu⟩ := split_at (Nat.mod_lt n hp0)
      have e1 : at' (picks.map intE) (n % picks.length) = [.int a] := by
        have := at_m (e := intE) u v a
        rw [hu, ← e] at this
        exact this
      have e2 : picks.getD (n % picks.length) 0 = a := by
        have := getD_m u v a 0
        rw [hu, ← e] at this
        exact this
      rw [tn_c, e1, e2, gn_c]
      obtain ⟨k1, k2⟩ := pk_ok a (l := (mays x).length) (by omega) (by omega)
      rw [k1]
      simp only [eqF (show (((mays x).length : Nat) : Int) ≠ 0 by omega), Bool.not_false, cond_true, tn_c]
      obtain ⟨y, h1, h2⟩ := take _ k2
      rw [h1]
      rw [inRT (by omega) (by omega)] at h2 ⊢
      exact h2
theorem sRunL (picks : List Int) : ∀ (f : Nat) (x : Xc) (n : Nat), exOk x = true → x.B2 → mu x ≤ f → n + f + 1 < 4611686018427387904 → ∀ (a1 a2 a4 : Int) (A B C : Rows),
    L_spec_RunExchange_0 (picks.map intE) a1 a2 n a4 x.cap A B C (x.pend.map rsE) (x.que.map rsE) (x.got.map rsE) = some (XR (runX picks f x n)) := by
  intro f
  induction f with
  | zero =>
    intro x n hv hb hm hn a1 a2 a4 A B C
    have h0 := nx_nil hv (by omega)
    rw [sStep picks hv hb (by omega) (next := fun _ => none) (fun y hy => by rw [h0] at hy; cases hy), h0]
    rfl
  | succ f ih =>
    intro x n hv hb hm hn a1 a2 a4 A B C
    rw [sStep picks hv hb (by omega) (next := fun y => some (XR (runX picks f y (n + 1)))) (fun y hy => by
      obtain ⟨h1, h2, h3⟩ := nx_ok hv hy
      exact ih y (n + 1) h1 (B2_sz hb h3) (by omega) (by omega) _ _ _ _ _ _)]
    exact KX_run picks f x n
theorem sRun (x : Xc) (picks : List Int) (hb : x.B2) : callI tE f_spec_RunExchange [.sl (x.pend.map rsE), .sl (x.que.map rsE), .sl (x.got.map rsE), .int x.cap, .sl (picks.map intE)] =
    some (if exOk x = true then XR (runX picks (mu x) x 0) else [.sl (x.pend.map rsE), .sl (x.que.map rsE), .sl (x.got.map rsE), .int x.cap, .int 0, .bool false]) := by
  rw [c_spec_RunExchange, sCopyX x hb.b]
  simp only [gn_c, gb_c, gs_c, gl_c, tk_s, tk_0, List.drop_succ_cons, List.drop_zero, List.headD_cons, List.getD_cons_zero, List.getD_cons_succ, bind_s, sValidX x hb]
  by_cases hv : exOk x = true
  · rw [hv, if_pos rfl]
    have hmu : mu x ≤ 3 * 1073741824 := by
      have h1 := tot_sz x.pend
      have h2 := tot_sz x.que
      have h3 := hb.b.p
      unfold mu
      omega
    exact sRunL picks (mu x) x 0 hv hb (Nat.le_refl _) (by omega) _ _ _ _ _ _
  · rw [if_neg hv, (Bool.not_eq_true _).mp hv]
    rfl
theorem runX_ok (picks : List Int) : ∀ (f : Nat) (x : Xc) (n : Nat), exOk x = true → exOk (runX picks f x n).1 = true ∧ (runX picks f x n).1.sz = x.sz ∧ (runX picks f x n).2 ≤ n + f
  | 0, x, n, h => ⟨h, rfl, Nat.le_refl _⟩
  | f + 1, x, n, h => by
    rw [runX]
    split
    · exact ⟨h, rfl, by simp⟩
    · rename_i y hy
      obtain ⟨h1, h2, h3⟩ := nx_ok h (List.mem_of_getElem? hy)
      obtain ⟨i1, i2, i3⟩ := runX_ok picks f y (n + 1) h1
      exact ⟨i1, i2.trans h3, by omega⟩
end Go.Proofs.Ytbmafhpbinjgaaa.Vai
namespace Go.Proofs.Ytbmafhpbinjgaaa.Vai
open Go
set_option linter.unusedSimpArgs false
set_option linter.unusedVariables false
set_option linter.unnecessarySimpa false
set_option maxRecDepth 10000
def Fr (p : List (List Rw)) : Prop := 1 ≤ p.length ∧ p.length ≤ 3 ∧ ∀ l ∈ p, l.length ≤ 6
theorem Fr.sz {p : List (List Rw)} (h : Fr p) : szL List.length p ≤ 21 := by
  obtain ⟨h1, h2, h3⟩ := h
  match p, h1, h2, h3 with
  | [a], _, _, h3 =>
    have := h3 a (by simp)
    simp only [szL]; omega
  | [a, b], _, _, h3 =>
    have := h3 a (by simp)
    have := h3 b (by simp)
    simp only [szL]; omega
  | [a, b, c], _, _, h3 =>
    have := h3 a (by simp)
    have := h3 b (by simp)
    have := h3 c (by simp)
    simp only [szL]; omega
theorem dFromL {b : Rows} (z : Int) : ∀ (n : Nat) (i h : Int) (acc : List (List Rw)), Cu b i → acc.length + n ≤ 3 → (∀ l ∈ acc, aok l = true ∧ l.length ≤ 5) →
    ∃ (p : List (List Rw)) (i' h' : Int), L_spec_l26From_0 z n b i h (acc.map rsE) = some [.sl (p.map rsE), .sl b, .int i', .int h'] ∧ Cu b i' ∧ (∀ l ∈ p, aok l = true ∧ l.length ≤ 5) ∧ p.length = acc.length + n
  | 0, i, h, acc, c, _, ha => by
    rw [L_spec_l26From_0_eq, ltF (by omega), cond_false]
    exact ⟨acc, i, h, rfl, c, ha, rfl⟩
  | n + 1, i, h, acc, c, hl, ha => by
    obtain ⟨l, i1, h1, e1, c1, hr, hl5⟩ := dRows (h := h) 5 c (by omega) (by omega)
    rw [L_spec_l26From_0_eq, ltT (by omega), cond_true, e1]
    simp only [gn_c, gb_c, gs_c, gl_c, tk_s, tk_0, List.drop_succ_cons, List.drop_zero, List.headD_cons, List.getD_cons_zero, List.getD_cons_succ, bind_s, len_map]
    rw [show fitM (Nat.succ acc.length) 24 = true from fitT (by omega), cond_true, rs_app, show w64 (((n + 1 : Nat) : Int) - 1) = (n : Int) by rw [w64_id ⟨by omega, by omega⟩]; omega]
    obtain ⟨p, i', h', e2, c2, hp, hpl⟩ := dFromL z n i1 h1 (acc ++ [l]) c1 (by simp; omega) (fun x hx => by
      simp only [List.mem_append, List.mem_cons, List.not_mem_nil, or_false] at hx
      rcases hx with hx | rfl
      · exact ha x hx
      · exact ⟨aok_iff.mpr ⟨by omega, hr⟩, by omega⟩)
    exact ⟨p, i', h', e2, c2, hp, by rw [hpl]; simp; omega⟩
theorem dFrom {b : Rows} {i h : Int} (c : Cu b i) : ∃ (p : List (List Rw)) (i' h' : Int), callI tE f_spec_l26From [.sl b, .int i, .int h] = some [.sl (p.map rsE), .sl b, .int i', .int h'] ∧ Cu b i' ∧ (∀ l ∈ p, aok l = true ∧ l.length ≤ 5) ∧ 1 ≤ p.length ∧ p.length ≤ 3 := by
  obtain ⟨r, i1, h1, e1, c1, p1, q1, _⟩ := dBelow (h := h) 3 c
  have := q1 (by omega)
  rw [c_spec_l26From, e1]
  simp only [gn_c, gb_c, gs_c, gl_c, tk_s, tk_0, List.drop_succ_cons, List.drop_zero, List.headD_cons, List.getD_cons_zero, List.getD_cons_succ, bind_s]
  obtain ⟨m, rfl⟩ : ∃ m : Nat, r = m := ⟨r.toNat, by omega⟩
  rw [show w64 (1 + (m : Int)) = ((m + 1 : Nat) : Int) by rw [w64_id ⟨by omega, by omega⟩]; omega]
  obtain ⟨p, i', h', e2, c2, hp, hpl⟩ := dFromL 0 (m + 1) i1 h1 [] c1 (by simp; omega) (by simp)
  exact ⟨p, i', h', e2, c2, hp, by rw [hpl]; simp, by rw [hpl]; simp; omega⟩
def Xs (n : Nat) (x : Xc) : Prop := x.sz ≤ n ∧ 1 ≤ x.que.length ∧ 1 ≤ x.got.length
theorem sendX_l (x : Xc) (i : Int) : (sendX x i).1.que.length = x.que.length ∧ (sendX x i).1.got.length = x.got.length := by
  unfold sendX
  split
  · split
    · exact ⟨rfl, rfl⟩
    · split
      · exact ⟨rfl, rfl⟩
      · exact ⟨List.length_set, rfl⟩
  · exact ⟨rfl, rfl⟩
theorem recvX_l (x : Xc) (i : Int) : (recvX x i).1.que.length = x.que.length ∧ (recvX x i).1.got.length = x.got.length := by
  unfold recvX
  split
  · split
    · exact ⟨rfl, rfl⟩
    · exact ⟨List.length_set, List.length_set⟩
  · exact ⟨rfl, rfl⟩
theorem dExchL {b : Rows} {x0 x1 x2 x7 : Int} {A B C : Rows} : ∀ (n : Nat) (i h : Int) (x : Xc), Cu b i → n ≤ 100 → Xs 100 x →
    ∃ (y : Xc) (i' h' : Int), L_spec_l26Exch_0 x0 x1 x2 n b i h x7 x.cap A B C (x.pend.map rsE) (x.que.map rsE) (x.got.map rsE) = some [.sl (y.pend.map rsE), .sl (y.que.map rsE), .sl (y.got.map rsE), .int y.cap, .sl b, .int i', .int h'] ∧ Cu b i' ∧ y.sz ≤ 101
  | 0, i, h, x, c, _, hx => by
    obtain ⟨t, i1, h1, e1, c1, _⟩ := dBelow (h := h) 14 c
    obtain ⟨k, i2, h2, e2, c2, _⟩ := dPickInt (h := h1) [[.int 0], [.int 10]] (fun _ => true) (by decide) rfl c1
    obtain ⟨r, i3, h3, e3, c3, _⟩ := dRow (h := h1) 10 c1 (by omega) (by omega)
    obtain ⟨z1, z2, z3⟩ := hx
    obtain ⟨pend, que, got, cap⟩ := x
    simp only [Xc.sz] at z1 z2 z3
    rw [L_spec_l26Exch_0_eq, ltF (by omega), cond_false, e1]
    simp only [gn_c, gb_c, gs_c, gl_c, tk_s, tk_0, List.drop_succ_cons, List.drop_zero, List.headD_cons, List.getD_cons_zero, List.getD_cons_succ, bind_s, e2, e3]
    cases eqI t 0
    · cases eqI t 1
      · cases eqI t 2
        · exact ⟨⟨pend, que, got, cap⟩, i1, h1, rfl, c1, by simp only [Xc.sz]; omega⟩
        · cases got with
          | nil => simp at z3
          | cons g gs =>
            have hg : lenI ((g :: gs).map rsE) = ((gs.length + 1 : Nat) : Int) := by rw [lenI_map]; simp
            have ht : List.take (tn (((gs.length + 1 : Nat) : Int) - 1)) (List.drop (tn 1) ((g :: gs).map rsE)) = gs.map rsE := by
              show List.take (((gs.length + 1 : Nat) : Int) - 1).toNat (List.drop 1 (rsE g :: gs.map rsE)) = _
              rw [show (((gs.length + 1 : Nat) : Int) - 1).toNat = gs.length by omega]
              simp [List.take_of_length_le]
            rw [cond_false, cond_false, cond_true, hg, leT (show (0 : Int) ≤ 1 by omega), leT (show (1 : Int) ≤ ((gs.length + 1 : Nat) : Int) by omega), Bool.and_self, cond_true, ht]
            refine ⟨⟨pend, que, gs, cap⟩, i1, h1, rfl, c1, ?_⟩
            simp only [szL] at z1
            simp only [Xc.sz]; omega
      · cases que with
        | nil => simp at z2
        | cons q qs =>
          have hq : q.length ≤ 100 := by simp only [szL] at z1; omega
          have hin : inR 0 (lenI ((q :: qs).map rsE)) = true := inRT (by omega) (by rw [lenI_map]; (first | omega | (simp only [List.length_append, List.length_cons, List.length_nil, List.length_map, List.length_take, List.length_drop, List.length_replicate, szI_S] at * <;> omega)))
          have hat : at' ((q :: qs).map rsE) (tn 0) = rsE q := rfl
          have hup : ∀ X : Rows, updR ((q :: qs).map rsE) (tn 0) 0 [.sl X] = [.sl X] :: qs.map rsE := fun X => upd_rs [] qs q X
          rw [cond_false, cond_true, hin, cond_true]
          simp only [hat, rsE, gn_c, gb_c, gs_c, gl_c, tk_s, tk_0, List.drop_succ_cons, List.drop_zero, List.headD_cons, List.getD_cons_zero, List.getD_cons_succ, bind_s, len_map]
          rw [show fitM (Nat.succ q.length) 24 = true from fitT (by omega), cond_true]
          refine ⟨⟨pend, (q ++ [r]) :: qs, got, cap⟩, i3, h3, ?_, c3, ?_⟩
          · rw [cond_true, hup, row_app]; rfl
          · simp only [szL] at z1
            simp only [Xc.sz, szL, List.length_append, List.length_cons, List.length_nil]; omega
    · exact ⟨⟨pend, que, got, k⟩, i2, h2, rfl, c2, by simp only [Xc.sz]; omega⟩
  | n + 1, i, h, x, c, hn, hx => by
    obtain ⟨t, i1, h1, e1, c1⟩ := dOnce (h := h) 2 c
    obtain ⟨k, i2, h2, e2, c2, _⟩ := dBelow (h := h1) 3 c1
    have hb2 : x.B2 := by have := hx.1; unfold Xc.B2; omega
    have e3 := sSend x k hb2
    have e4 := sRecv x k hb2
    have l1 := sendX_l x k
    have l2 := recvX_l x k
    have s1 := sendX_sz x k
    have s2 := recvX_sz x k
    have hw : w64 (((n + 1 : Nat) : Int) - 1) = (n : Int) := by rw [w64_id ⟨by omega, by omega⟩]; omega
    rw [L_spec_l26Exch_0_eq, ltT (by omega), cond_true, e1]
    simp only [gn_c, gb_c, gs_c, gl_c, tk_s, tk_0, List.drop_succ_cons, List.drop_zero, List.headD_cons, List.getD_cons_zero, List.getD_cons_succ, bind_s, e2, e3, e4, XB, hw]
    cases t
    · rw [cond_false]
      exact dExchL n i2 h2 (recvX x k).1 c2 (by omega) ⟨by rw [s2]; exact hx.1, by rw [l2.1]; exact hx.2.1, by rw [l2.2]; exact hx.2.2⟩
    · rw [cond_true]
      exact dExchL n i2 h2 (sendX x k).1 c2 (by omega) ⟨by rw [s1]; exact hx.1, by rw [l1.1]; exact hx.2.1, by rw [l1.2]; exact hx.2.2⟩
theorem szL_rep' (n : Nat) : szL List.length (List.replicate n ([] : List Rw)) = n := by
  induction n with
  | zero => rfl
  | succ n ih => simp only [List.replicate_succ, szL, ih, List.length_nil]; omega
theorem dExch {b : Rows} {i h : Int} (c : Cu b i) : ∃ (y : Xc) (i' h' : Int), callI tE f_spec_l26Exch [.sl b, .int i, .int h] = some [.sl (y.pend.map rsE), .sl (y.que.map rsE), .sl (y.got.map rsE), .int y.cap, .sl b, .int i', .int h'] ∧ Cu b i' ∧ y.sz ≤ 101 := by
  obtain ⟨p, i1, h1, e1, c1, hp, hp1, hp3⟩ := dFrom (h := h) c
  obtain ⟨r, i2, h2, e2, c2, r1, r2, _⟩ := dBelow (h := h1) 3 c1
  obtain ⟨k, i3, h3, e3, c3, k1, k2, _⟩ := dBelow (h := h2) 3 c2
  obtain ⟨n, i4, h4, e4, c4, n1, n2, _⟩ := dBelow (h := h3) 9 c3
  have := r2 (by omega)
  have := k2 (by omega)
  have := n2 (by omega)
  have hsz : szL List.length p ≤ 21 := Fr.sz ⟨hp1, hp3, fun l hl => by have := (hp l hl).2; omega⟩
  have w1 : w64 (1 + r) = 1 + r := w64_id ⟨by omega, by omega⟩
  have w2 : w64 (1 + k) = 1 + k := w64_id ⟨by omega, by omega⟩
  have e5 := sNewX p (1 + r) (1 + k) (by omega)
  have hNX : NX p (1 + r) (1 + k) = (⟨p, List.replicate (1 + r).toNat [], List.replicate (1 + r).toNat [], 1 + k⟩, true) := by
    unfold NX
    rw [if_pos ⟨by unfold sendOk; rw [Bool.and_eq_true]; exact ⟨List.all_eq_true.mpr fun l hl => (hp l hl).1, win_iff.mpr ⟨by omega, by omega⟩⟩, win_iff.mpr ⟨by omega, by omega⟩, win_iff.mpr ⟨by omega, by omega⟩⟩]
  rw [hNX] at e5
  rw [c_spec_l26Exch, e1]
  simp only [gn_c, gb_c, gs_c, gl_c, tk_s, tk_0, List.drop_succ_cons, List.drop_zero, List.headD_cons, List.getD_cons_zero, List.getD_cons_succ, bind_s, e2, e3, e4, w1, w2, e5, XB]
  obtain ⟨m, rfl⟩ : ∃ m : Nat, n = m := ⟨n.toNat, by omega⟩
  exact dExchL m i4 h4 ⟨p, List.replicate (1 + r).toNat [], List.replicate (1 + r).toNat [], 1 + k⟩ c4 (by omega) ⟨by
    simp only [Xc.sz, szL_rep']; omega, by simp; omega, by simp; omega⟩
theorem dDrawRunX (x : Rows) (hx : x.length ≤ 1048576) : ∃ (y : Xc) (l : List Int), callI tE f_spec_DrawRunExchange [.sl x] = some [.sl (y.pend.map rsE), .sl (y.que.map rsE), .sl (y.got.map rsE), .int y.cap, .sl (l.map intE)] ∧ y.sz ≤ 101 := by
  obtain ⟨h0, e0, c0⟩ := dNew x hx
  obtain ⟨y, i1, h1, e1, c1, hy⟩ := dExch (h := h0) c0
  obtain ⟨n, i2, h2, e2, c2, n1, n2, _⟩ := dBelow (h := h1) 5 c1
  have := n2 (by omega)
  obtain ⟨m, rfl⟩ : ∃ m : Nat, n = m := ⟨n.toNat, by omega⟩
  have key : ∀ (n : Nat) (i h : Int) (acc : List Int), Cu x i → acc.length + n ≤ 100 → ∀ (x0 x1 x2 x4 : Int) (A B C : Rows), ∃ l : List Int, L_spec_DrawRunExchange_0 x0 x1 x2 n x4 x i h y.cap (acc.map intE) A B C (y.pend.map rsE) (y.que.map rsE) (y.got.map rsE) = some [.sl (y.pend.map rsE), .sl (y.que.map rsE), .sl (y.got.map rsE), .int y.cap, .sl (l.map intE)] := by
    intro n
    induction n with
    | zero =>
      intro i h acc c hl x0 x1 x2 x4 A B C
      rw [L_spec_DrawRunExchange_0_eq, ltF (by omega), cond_false]
      exact ⟨acc, rfl⟩
    | succ n ih =>
      intro i h acc c hl x0 x1 x2 x4 A B C
      obtain ⟨r, i1, h1, e1, c1, _⟩ := dBelow (h := h) 9 c
      rw [L_spec_DrawRunExchange_0_eq, ltT (by omega), cond_true, e1]
      simp only [gn_c, gb_c, gs_c, gl_c, tk_s, tk_0, List.drop_succ_cons, List.drop_zero, List.headD_cons, List.getD_cons_zero, List.getD_cons_succ, bind_s, len_map]
      rw [show fitM (Nat.succ acc.length) 8 = true from fitT (by omega), cond_true, show w64 (((n + 1 : Nat) : Int) - 1) = (n : Int) by rw [w64_id ⟨by omega, by omega⟩]; omega, show List.append (acc.map intE) [[Dat.int (w64 (r - 2))]] = (acc ++ [w64 (r - 2)]).map intE by simp [intE]]
      exact ih i1 h1 (acc ++ [w64 (r - 2)]) c1 (by simp; omega) _ _ _ _ _ _ _
  rw [c_spec_DrawRunExchange]
  simp only [e0, e1, e2, gn_c, gb_c, gs_c, gl_c, tk_s, tk_0, List.drop_succ_cons, List.drop_zero, List.headD_cons, List.getD_cons_zero, List.getD_cons_succ, bind_s]
  obtain ⟨l, hl⟩ := key m i2 h2 [] c2 (by simp; omega) 0 0 0 0 [] [] []
  exact ⟨y, l, hl, hy⟩
end Go.Proofs.Ytbmafhpbinjgaaa.Vai
namespace Go.Proofs.Ytbmafhpbinjgaaa.Vai
open Go
set_option linter.unusedSimpArgs false
set_option linter.unusedVariables false
set_option linter.unnecessarySimpa false
set_option maxRecDepth 100000
noncomputable def L_slices_insertionSortCmpFunc_Row_0 (x0 : Int) (x1 : Int) (x2 : Int) (x3 : List (List Dat)) : Option (List Dat) := loopK tE f_slices_insertionSortCmpFunc_Row 0 ⟨[(0, (.own (1000000, 0))), (1, (.i .i64 x0)), (2, (.i .i64 x1)), (3, (.fn 149 [])), (8, (.i .i64 x2))], [((1000000, 0), (.row 43 x3 Bool.true 0 []))]⟩
noncomputable def L_slices_insertionSortCmpFunc_Row_1 (x0 : Int) (x1 : Int) (x2 : Int) (x3 : Int) (x4 : List (List Dat)) : Option (List Dat) := loopK tE f_slices_insertionSortCmpFunc_Row 1 ⟨[(0, (.own (1000000, 0))), (1, (.i .i64 x0)), (2, (.i .i64 x1)), (3, (.fn 149 [])), (8, (.i .i64 x2)), (9, (.i .i64 x3))], [((1000000, 0), (.row 43 x4 Bool.true 0 []))]⟩
theorem L_slices_insertionSortCmpFunc_Row_0_eq (x0 : Int) (x1 : Int) (x2 : Int) (x3 : List (List Dat)) : L_slices_insertionSortCmpFunc_Row_0 x0 x1 x2 x3 = (bif (ltI x2 x1) then (L_slices_insertionSortCmpFunc_Row_1 x0 x1 x2 x2 x3) else (some [(.sl x3)])) := (loopK_run (by kernel_rfl)).trans (by kernel_rfl)
theorem L_slices_insertionSortCmpFunc_Row_1_eq (x0 : Int) (x1 : Int) (x2 : Int) (x3 : Int) (x4 : List (List Dat)) : L_slices_insertionSortCmpFunc_Row_1 x0 x1 x2 x3 x4 = (bif (ltI x0 x3) then (bif (inR x3 (lenI x4)) then (bif (inR (w64 (x3 - 1)) (lenI x4)) then (((callI tE f_impl_CompareRows [(.int (gn (at' x4 (tn x3)))), (.int (gn (tk 1 (at' x4 (tn x3))))), (.int (gn (tk 2 (at' x4 (tn x3))))), (.int (gn (at' x4 (tn (w64 (x3 - 1)))))), (.int (gn (tk 1 (at' x4 (tn (w64 (x3 - 1))))))), (.int (gn (tk 2 (at' x4 (tn (w64 (x3 - 1)))))))])).bind (fun r0 => (bif (ltI (gn r0) 0) then (bif (inR (w64 (x3 - 1)) (lenI x4)) then (bif (inR x3 (lenI x4)) then (bif (inR x3 (lenI x4)) then (bif (inR (w64 (x3 - 1)) (lenI (updR x4 (tn x3) 0 [(.int (gn (at' x4 (tn (w64 (x3 - 1)))))), (.int (gn (tk 1 (at' x4 (tn (w64 (x3 - 1))))))), (.int (gn (tk 2 (at' x4 (tn (w64 (x3 - 1)))))))]))) then (L_slices_insertionSortCmpFunc_Row_1 x0 x1 x2 (w64 (x3 - 1)) (updR (updR x4 (tn x3) 0 [(.int (gn (at' x4 (tn (w64 (x3 - 1)))))), (.int (gn (tk 1 (at' x4 (tn (w64 (x3 - 1))))))), (.int (gn (tk 2 (at' x4 (tn (w64 (x3 - 1)))))))]) (tn (w64 (x3 - 1))) 0 [(.int (gn (at' x4 (tn x3)))), (.int (gn (tk 1 (at' x4 (tn x3))))), (.int (gn (tk 2 (at' x4 (tn x3)))))])) else none) else none) else none) else none) else (L_slices_insertionSortCmpFunc_Row_0 x0 x1 (w64 (x2 + 1)) x4)))) else none) else none) else (L_slices_insertionSortCmpFunc_Row_0 x0 x1 (w64 (x2 + 1)) x4)) := (loopK_run (by kernel_rfl)).trans (by kernel_rfl)
theorem c_slices_insertionSortCmpFunc_Row (a0 : List (List Dat)) (a1 : Int) (a2 : Int) : callI tE f_slices_insertionSortCmpFunc_Row [.sl a0, .int a1, .int a2] = (L_slices_insertionSortCmpFunc_Row_0 a1 a2 (w64 (a1 + 1)) a0) := (callI_run rfl (by kernel_rfl)).trans (by kernel_rfl)
noncomputable def L_slices_swapRangeCmpFunc_Row_0 (x0 : Int) (x1 : Int) (x2 : Int) (x3 : Int) (x4 : List (List Dat)) : Option (List Dat) := loopK tE f_slices_swapRangeCmpFunc_Row 0 ⟨[(0, (.own (1000000, 0))), (1, (.i .i64 x0)), (2, (.i .i64 x1)), (3, (.i .i64 x2)), (10, (.i .i64 x3))], [((1000000, 0), (.row 43 x4 Bool.true 0 []))]⟩
theorem L_slices_swapRangeCmpFunc_Row_0_eq (x0 : Int) (x1 : Int) (x2 : Int) (x3 : Int) (x4 : List (List Dat)) : L_slices_swapRangeCmpFunc_Row_0 x0 x1 x2 x3 x4 = (bif (ltI x3 x2) then (bif (inR (w64 (x1 + x3)) (lenI x4)) then (bif (inR (w64 (x0 + x3)) (lenI x4)) then (bif (inR (w64 (x0 + x3)) (lenI x4)) then (bif (inR (w64 (x1 + x3)) (lenI (updR x4 (tn (w64 (x0 + x3))) 0 [(.int (gn (at' x4 (tn (w64 (x1 + x3)))))), (.int (gn (tk 1 (at' x4 (tn (w64 (x1 + x3))))))), (.int (gn (tk 2 (at' x4 (tn (w64 (x1 + x3)))))))]))) then (L_slices_swapRangeCmpFunc_Row_0 x0 x1 x2 (w64 (x3 + 1)) (updR (updR x4 (tn (w64 (x0 + x3))) 0 [(.int (gn (at' x4 (tn (w64 (x1 + x3)))))), (.int (gn (tk 1 (at' x4 (tn (w64 (x1 + x3))))))), (.int (gn (tk 2 (at' x4 (tn (w64 (x1 + x3)))))))]) (tn (w64 (x1 + x3))) 0 [(.int (gn (at' x4 (tn (w64 (x0 + x3)))))), (.int (gn (tk 1 (at' x4 (tn (w64 (x0 + x3))))))), (.int (gn (tk 2 (at' x4 (tn (w64 (x0 + x3)))))))])) else none) else none) else none) else none) else (some [(.sl x4)])) := (loopK_run (by kernel_rfl)).trans (by kernel_rfl)
theorem c_slices_swapRangeCmpFunc_Row (a0 : List (List Dat)) (a1 : Int) (a2 : Int) (a3 : Int) : callI tE f_slices_swapRangeCmpFunc_Row [.sl a0, .int a1, .int a2, .int a3] = (L_slices_swapRangeCmpFunc_Row_0 a1 a2 a3 0 a0) := (callI_run rfl (by kernel_rfl)).trans (by kernel_rfl)
noncomputable def L_slices_rotateCmpFunc_Row_0 (x0 : Int) (x1 : Int) (x2 : Int) (x3 : Int) (x4 : Int) (x5 : List (List Dat)) : Option (List Dat) := loopK tE f_slices_rotateCmpFunc_Row 0 ⟨[(0, (.own (1000000, 0))), (1, (.i .i64 x0)), (2, (.i .i64 x1)), (3, (.i .i64 x2)), (4, (.fn 149 [])), (10, (.i .i64 x3)), (11, (.i .i64 x4))], [((1000000, 0), (.row 43 x5 Bool.true 0 []))]⟩
theorem L_slices_rotateCmpFunc_Row_0_eq (x0 : Int) (x1 : Int) (x2 : Int) (x3 : Int) (x4 : Int) (x5 : List (List Dat)) : L_slices_rotateCmpFunc_Row_0 x0 x1 x2 x3 x4 x5 = (bif (!(eqI x3 x4)) then (bif (ltI x4 x3) then (((callI tE f_slices_swapRangeCmpFunc_Row [(.sl x5), (.int (w64 (x1 - x3))), (.int x1), (.int x4)])).bind (fun r0 => (L_slices_rotateCmpFunc_Row_0 x0 x1 x2 (w64 (x3 - x4)) x4 (gl r0)))) else (((callI tE f_slices_swapRangeCmpFunc_Row [(.sl x5), (.int (w64 (x1 - x3))), (.int (w64 ((w64 (x1 + x4)) - x3))), (.int x3)])).bind (fun r0 => (L_slices_rotateCmpFunc_Row_0 x0 x1 x2 x3 (w64 (x4 - x3)) (gl r0))))) else (((callI tE f_slices_swapRangeCmpFunc_Row [(.sl x5), (.int (w64 (x1 - x3))), (.int x1), (.int x3)])).bind (fun r0 => (some [(.sl (gl r0))])))) := (loopK_run (by kernel_rfl)).trans (by kernel_rfl)
theorem c_slices_rotateCmpFunc_Row (a0 : List (List Dat)) (a1 : Int) (a2 : Int) (a3 : Int) : callI tE f_slices_rotateCmpFunc_Row [.sl a0, .int a1, .int a2, .int a3] = (L_slices_rotateCmpFunc_Row_0 a1 a2 a3 (w64 (a2 - a1)) (w64 (a3 - a2)) a0) := (callI_run rfl (by kernel_rfl)).trans (by kernel_rfl)
noncomputable def L_slices_symMergeCmpFunc_Row_0 (x0 : Int) (x1 : Int) (x2 : Int) (x3 : Int) (x4 : Int) (x5 : List (List Dat)) : Option (List Dat) := loopK tE f_slices_symMergeCmpFunc_Row 0 ⟨[(0, (.own (1000000, 0))), (1, (.i .i64 x0)), (2, (.i .i64 x1)), (3, (.i .i64 x2)), (4, (.fn 149 [])), (10, (.i .i64 x3)), (11, (.i .i64 x4))], [((1000000, 0), (.row 43 x5 Bool.true 0 []))]⟩
noncomputable def L_slices_symMergeCmpFunc_Row_1 (x0 : Int) (x1 : Int) (x2 : Int) (x3 : Int) (x4 : Int) (x5 : List (List Dat)) : Option (List Dat) := loopK tE f_slices_symMergeCmpFunc_Row 2 ⟨[(0, (.own (1000000, 0))), (1, (.i .i64 x0)), (2, (.i .i64 x1)), (3, (.i .i64 x2)), (4, (.fn 149 [])), (14, (.i .i64 x3)), (15, (.i .i64 x4))], [((1000000, 0), (.row 43 x5 Bool.true 0 []))]⟩
noncomputable def L_slices_symMergeCmpFunc_Row_2 (x0 : Int) (x1 : Int) (x2 : Int) (x3 : Int) (x4 : Int) (x5 : Int) (x6 : Int) (x7 : Int) (x8 : List (List Dat)) : Option (List Dat) := loopK tE f_slices_symMergeCmpFunc_Row 4 ⟨[(0, (.own (1000000, 0))), (1, (.i .i64 x0)), (2, (.i .i64 x1)), (3, (.i .i64 x2)), (4, (.fn 149 [])), (18, (.i .i64 x3)), (19, (.i .i64 x4)), (20, (.i .i64 x5)), (21, (.i .i64 x6)), (22, (.i .i64 x7))], [((1000000, 0), (.row 43 x8 Bool.true 0 []))]⟩
noncomputable def L_slices_symMergeCmpFunc_Row_3 (x0 : Int) (x1 : Int) (x2 : Int) (x3 : Int) (x4 : Int) (x5 : List (List Dat)) : Option (List Dat) := loopK tE f_slices_symMergeCmpFunc_Row 1 ⟨[(0, (.own (1000000, 0))), (1, (.i .i64 x0)), (2, (.i .i64 x1)), (3, (.i .i64 x2)), (10, (.i .i64 x3)), (13, (.i .i64 x4))], [((1000000, 0), (.row 43 x5 Bool.true 0 []))]⟩
noncomputable def L_slices_symMergeCmpFunc_Row_4 (x0 : Int) (x1 : Int) (x2 : Int) (x3 : Int) (x4 : Int) (x5 : List (List Dat)) : Option (List Dat) := loopK tE f_slices_symMergeCmpFunc_Row 3 ⟨[(0, (.own (1000000, 0))), (1, (.i .i64 x0)), (2, (.i .i64 x1)), (3, (.i .i64 x2)), (14, (.i .i64 x3)), (17, (.i .i64 x4))], [((1000000, 0), (.row 43 x5 Bool.true 0 []))]⟩
theorem L_slices_symMergeCmpFunc_Row_0_eq (x0 : Int) (x1 : Int) (x2 : Int) (x3 : Int) (x4 : Int) (x5 : List (List Dat)) : L_slices_symMergeCmpFunc_Row_0 x0 x1 x2 x3 x4 x5 = (bif (ltI x3 x4) then (bif (inR (w64 ((Go.IntKind.wrap .u64 (w64 (x3 + x4))) / (Int.pow 2 (ite ((tn 1) ≤ (Go.IntKind.bits .u64)) (tn 1) 64)))) (lenI x5)) then (bif (inR x0 (lenI x5)) then (((callI tE f_impl_CompareRows [(.int (gn (at' x5 (tn (w64 ((Go.IntKind.wrap .u64 (w64 (x3 + x4))) / (Int.pow 2 (ite ((tn 1) ≤ (Go.IntKind.bits .u64)) (tn 1) 64)))))))), (.int (gn (tk 1 (at' x5 (tn (w64 ((Go.IntKind.wrap .u64 (w64 (x3 + x4))) / (Int.pow 2 (ite ((tn 1) ≤ (Go.IntKind.bits .u64)) (tn 1) 64))))))))), (.int (gn (tk 2 (at' x5 (tn (w64 ((Go.IntKind.wrap .u64 (w64 (x3 + x4))) / (Int.pow 2 (ite ((tn 1) ≤ (Go.IntKind.bits .u64)) (tn 1) 64))))))))), (.int (gn (at' x5 (tn x0)))), (.int (gn (tk 1 (at' x5 (tn x0))))), (.int (gn (tk 2 (at' x5 (tn x0)))))])).bind (fun r0 => (bif (ltI (gn r0) 0) then (L_slices_symMergeCmpFunc_Row_0 x0 x1 x2 (w64 ((w64 ((Go.IntKind.wrap .u64 (w64 (x3 + x4))) / (Int.pow 2 (ite ((tn 1) ≤ (Go.IntKind.bits .u64)) (tn 1) 64)))) + 1)) x4 x5) else (L_slices_symMergeCmpFunc_Row_0 x0 x1 x2 x3 (w64 ((Go.IntKind.wrap .u64 (w64 (x3 + x4))) / (Int.pow 2 (ite ((tn 1) ≤ (Go.IntKind.bits .u64)) (tn 1) 64)))) x5)))) else none) else none) else (L_slices_symMergeCmpFunc_Row_3 x0 x1 x2 x3 x0 x5)) := (loopK_run (by kernel_rfl)).trans (by kernel_rfl)
theorem L_slices_symMergeCmpFunc_Row_1_eq (x0 : Int) (x1 : Int) (x2 : Int) (x3 : Int) (x4 : Int) (x5 : List (List Dat)) : L_slices_symMergeCmpFunc_Row_1 x0 x1 x2 x3 x4 x5 = (bif (ltI x3 x4) then (bif (inR x1 (lenI x5)) then (bif (inR (w64 ((Go.IntKind.wrap .u64 (w64 (x3 + x4))) / (Int.pow 2 (ite ((tn 1) ≤ (Go.IntKind.bits .u64)) (tn 1) 64)))) (lenI x5)) then (((callI tE f_impl_CompareRows [(.int (gn (at' x5 (tn x1)))), (.int (gn (tk 1 (at' x5 (tn x1))))), (.int (gn (tk 2 (at' x5 (tn x1))))), (.int (gn (at' x5 (tn (w64 ((Go.IntKind.wrap .u64 (w64 (x3 + x4))) / (Int.pow 2 (ite ((tn 1) ≤ (Go.IntKind.bits .u64)) (tn 1) 64)))))))), (.int (gn (tk 1 (at' x5 (tn (w64 ((Go.IntKind.wrap .u64 (w64 (x3 + x4))) / (Int.pow 2 (ite ((tn 1) ≤ (Go.IntKind.bits .u64)) (tn 1) 64))))))))), (.int (gn (tk 2 (at' x5 (tn (w64 ((Go.IntKind.wrap .u64 (w64 (x3 + x4))) / (Int.pow 2 (ite ((tn 1) ≤ (Go.IntKind.bits .u64)) (tn 1) 64)))))))))])).bind (fun r0 => (bif (!(ltI (gn r0) 0)) then (L_slices_symMergeCmpFunc_Row_1 x0 x1 x2 (w64 ((w64 ((Go.IntKind.wrap .u64 (w64 (x3 + x4))) / (Int.pow 2 (ite ((tn 1) ≤ (Go.IntKind.bits .u64)) (tn 1) 64)))) + 1)) x4 x5) else (L_slices_symMergeCmpFunc_Row_1 x0 x1 x2 x3 (w64 ((Go.IntKind.wrap .u64 (w64 (x3 + x4))) / (Int.pow 2 (ite ((tn 1) ≤ (Go.IntKind.bits .u64)) (tn 1) 64)))) x5)))) else none) else none) else (L_slices_symMergeCmpFunc_Row_4 x0 x1 x2 x3 x1 x5)) := (loopK_run (by kernel_rfl)).trans (by kernel_rfl)
theorem L_slices_symMergeCmpFunc_Row_2_eq (x0 : Int) (x1 : Int) (x2 : Int) (x3 : Int) (x4 : Int) (x5 : Int) (x6 : Int) (x7 : Int) (x8 : List (List Dat)) : L_slices_symMergeCmpFunc_Row_2 x0 x1 x2 x3 x4 x5 x6 x7 x8 = (bif (ltI x5 x6) then (bif (inR (w64 (x7 - (w64 ((Go.IntKind.wrap .u64 (w64 (x5 + x6))) / (Int.pow 2 (ite ((tn 1) ≤ (Go.IntKind.bits .u64)) (tn 1) 64)))))) (lenI x8)) then (bif (inR (w64 ((Go.IntKind.wrap .u64 (w64 (x5 + x6))) / (Int.pow 2 (ite ((tn 1) ≤ (Go.IntKind.bits .u64)) (tn 1) 64)))) (lenI x8)) then (((callI tE f_impl_CompareRows [(.int (gn (at' x8 (tn (w64 (x7 - (w64 ((Go.IntKind.wrap .u64 (w64 (x5 + x6))) / (Int.pow 2 (ite ((tn 1) ≤ (Go.IntKind.bits .u64)) (tn 1) 64)))))))))), (.int (gn (tk 1 (at' x8 (tn (w64 (x7 - (w64 ((Go.IntKind.wrap .u64 (w64 (x5 + x6))) / (Int.pow 2 (ite ((tn 1) ≤ (Go.IntKind.bits .u64)) (tn 1) 64))))))))))), (.int (gn (tk 2 (at' x8 (tn (w64 (x7 - (w64 ((Go.IntKind.wrap .u64 (w64 (x5 + x6))) / (Int.pow 2 (ite ((tn 1) ≤ (Go.IntKind.bits .u64)) (tn 1) 64))))))))))), (.int (gn (at' x8 (tn (w64 ((Go.IntKind.wrap .u64 (w64 (x5 + x6))) / (Int.pow 2 (ite ((tn 1) ≤ (Go.IntKind.bits .u64)) (tn 1) 64)))))))), (.int (gn (tk 1 (at' x8 (tn (w64 ((Go.IntKind.wrap .u64 (w64 (x5 + x6))) / (Int.pow 2 (ite ((tn 1) ≤ (Go.IntKind.bits .u64)) (tn 1) 64))))))))), (.int (gn (tk 2 (at' x8 (tn (w64 ((Go.IntKind.wrap .u64 (w64 (x5 + x6))) / (Int.pow 2 (ite ((tn 1) ≤ (Go.IntKind.bits .u64)) (tn 1) 64)))))))))])).bind (fun r0 => (bif (!(ltI (gn r0) 0)) then (L_slices_symMergeCmpFunc_Row_2 x0 x1 x2 x3 x4 (w64 ((w64 ((Go.IntKind.wrap .u64 (w64 (x5 + x6))) / (Int.pow 2 (ite ((tn 1) ≤ (Go.IntKind.bits .u64)) (tn 1) 64)))) + 1)) x6 x7 x8) else (L_slices_symMergeCmpFunc_Row_2 x0 x1 x2 x3 x4 x5 (w64 ((Go.IntKind.wrap .u64 (w64 (x5 + x6))) / (Int.pow 2 (ite ((tn 1) ≤ (Go.IntKind.bits .u64)) (tn 1) 64)))) x7 x8)))) else none) else none) else (bif (ltI x5 x1) then (bif (ltI x1 (w64 (x4 - x5))) then (((callI tE f_slices_rotateCmpFunc_Row [(.sl x8), (.int x5), (.int x1), (.int (w64 (x4 - x5)))])).bind (fun r0 => (bif (ltI x0 x5) then (bif (ltI x5 x3) then (((callI tE f_slices_symMergeCmpFunc_Row [(.sl (gl r0)), (.int x0), (.int x5), (.int x3)])).bind (fun r1 => (bif (ltI x3 (w64 (x4 - x5))) then (bif (ltI (w64 (x4 - x5)) x2) then (((callI tE f_slices_symMergeCmpFunc_Row [(.sl (gl r1)), (.int x3), (.int (w64 (x4 - x5))), (.int x2)])).bind (fun r2 => (some [(.sl (gl r2))]))) else (some [(.sl (gl r1))])) else (some [(.sl (gl r1))])))) else (bif (ltI x3 (w64 (x4 - x5))) then (bif (ltI (w64 (x4 - x5)) x2) then (((callI tE f_slices_symMergeCmpFunc_Row [(.sl (gl r0)), (.int x3), (.int (w64 (x4 - x5))), (.int x2)])).bind (fun r1 => (some [(.sl (gl r1))]))) else (some [(.sl (gl r0))])) else (some [(.sl (gl r0))]))) else (bif (ltI x3 (w64 (x4 - x5))) then (bif (ltI (w64 (x4 - x5)) x2) then (((callI tE f_slices_symMergeCmpFunc_Row [(.sl (gl r0)), (.int x3), (.int (w64 (x4 - x5))), (.int x2)])).bind (fun r1 => (some [(.sl (gl r1))]))) else (some [(.sl (gl r0))])) else (some [(.sl (gl r0))]))))) else (bif (ltI x0 x5) then (bif (ltI x5 x3) then (((callI tE f_slices_symMergeCmpFunc_Row [(.sl x8), (.int x0), (.int x5), (.int x3)])).bind (fun r0 => (bif (ltI x3 (w64 (x4 - x5))) then (bif (ltI (w64 (x4 - x5)) x2) then (((callI tE f_slices_symMergeCmpFunc_Row [(.sl (gl r0)), (.int x3), (.int (w64 (x4 - x5))), (.int x2)])).bind (fun r1 => (some [(.sl (gl r1))]))) else (some [(.sl (gl r0))])) else (some [(.sl (gl r0))])))) else (bif (ltI x3 (w64 (x4 - x5))) then (bif (ltI (w64 (x4 - x5)) x2) then (((callI tE f_slices_symMergeCmpFunc_Row [(.sl x8), (.int x3), (.int (w64 (x4 - x5))), (.int x2)])).bind (fun r0 => (some [(.sl (gl r0))]))) else (some [(.sl x8)])) else (some [(.sl x8)]))) else (bif (ltI x3 (w64 (x4 - x5))) then (bif (ltI (w64 (x4 - x5)) x2) then (((callI tE f_slices_symMergeCmpFunc_Row [(.sl x8), (.int x3), (.int (w64 (x4 - x5))), (.int x2)])).bind (fun r0 => (some [(.sl (gl r0))]))) else (some [(.sl x8)])) else (some [(.sl x8)])))) else (bif (ltI x0 x5) then (bif (ltI x5 x3) then (((callI tE f_slices_symMergeCmpFunc_Row [(.sl x8), (.int x0), (.int x5), (.int x3)])).bind (fun r0 => (bif (ltI x3 (w64 (x4 - x5))) then (bif (ltI (w64 (x4 - x5)) x2) then (((callI tE f_slices_symMergeCmpFunc_Row [(.sl (gl r0)), (.int x3), (.int (w64 (x4 - x5))), (.int x2)])).bind (fun r1 => (some [(.sl (gl r1))]))) else (some [(.sl (gl r0))])) else (some [(.sl (gl r0))])))) else (bif (ltI x3 (w64 (x4 - x5))) then (bif (ltI (w64 (x4 - x5)) x2) then (((callI tE f_slices_symMergeCmpFunc_Row [(.sl x8), (.int x3), (.int (w64 (x4 - x5))), (.int x2)])).bind (fun r0 => (some [(.sl (gl r0))]))) else (some [(.sl x8)])) else (some [(.sl x8)]))) else (bif (ltI x3 (w64 (x4 - x5))) then (bif (ltI (w64 (x4 - x5)) x2) then (((callI tE f_slices_symMergeCmpFunc_Row [(.sl x8), (.int x3), (.int (w64 (x4 - x5))), (.int x2)])).bind (fun r0 => (some [(.sl (gl r0))]))) else (some [(.sl x8)])) else (some [(.sl x8)]))))) := (loopK_run (by kernel_rfl)).trans (by kernel_rfl)
theorem L_slices_symMergeCmpFunc_Row_3_eq (x0 : Int) (x1 : Int) (x2 : Int) (x3 : Int) (x4 : Int) (x5 : List (List Dat)) : L_slices_symMergeCmpFunc_Row_3 x0 x1 x2 x3 x4 x5 = (bif (ltI x4 (w64 (x3 - 1))) then (bif (inR (w64 (x4 + 1)) (lenI x5)) then (bif (inR x4 (lenI x5)) then (bif (inR x4 (lenI x5)) then (bif (inR (w64 (x4 + 1)) (lenI (updR x5 (tn x4) 0 [(.int (gn (at' x5 (tn (w64 (x4 + 1)))))), (.int (gn (tk 1 (at' x5 (tn (w64 (x4 + 1))))))), (.int (gn (tk 2 (at' x5 (tn (w64 (x4 + 1)))))))]))) then (L_slices_symMergeCmpFunc_Row_3 x0 x1 x2 x3 (w64 (x4 + 1)) (updR (updR x5 (tn x4) 0 [(.int (gn (at' x5 (tn (w64 (x4 + 1)))))), (.int (gn (tk 1 (at' x5 (tn (w64 (x4 + 1))))))), (.int (gn (tk 2 (at' x5 (tn (w64 (x4 + 1)))))))]) (tn (w64 (x4 + 1))) 0 [(.int (gn (at' x5 (tn x4)))), (.int (gn (tk 1 (at' x5 (tn x4))))), (.int (gn (tk 2 (at' x5 (tn x4)))))])) else none) else none) else none) else none) else (some [(.sl x5)])) := (loopK_run (by kernel_rfl)).trans (by kernel_rfl)
theorem L_slices_symMergeCmpFunc_Row_4_eq (x0 : Int) (x1 : Int) (x2 : Int) (x3 : Int) (x4 : Int) (x5 : List (List Dat)) : L_slices_symMergeCmpFunc_Row_4 x0 x1 x2 x3 x4 x5 = (bif (ltI x3 x4) then (bif (inR (w64 (x4 - 1)) (lenI x5)) then (bif (inR x4 (lenI x5)) then (bif (inR x4 (lenI x5)) then (bif (inR (w64 (x4 - 1)) (lenI (updR x5 (tn x4) 0 [(.int (gn (at' x5 (tn (w64 (x4 - 1)))))), (.int (gn (tk 1 (at' x5 (tn (w64 (x4 - 1))))))), (.int (gn (tk 2 (at' x5 (tn (w64 (x4 - 1)))))))]))) then (L_slices_symMergeCmpFunc_Row_4 x0 x1 x2 x3 (w64 (x4 - 1)) (updR (updR x5 (tn x4) 0 [(.int (gn (at' x5 (tn (w64 (x4 - 1)))))), (.int (gn (tk 1 (at' x5 (tn (w64 (x4 - 1))))))), (.int (gn (tk 2 (at' x5 (tn (w64 (x4 - 1)))))))]) (tn (w64 (x4 - 1))) 0 [(.int (gn (at' x5 (tn x4)))), (.int (gn (tk 1 (at' x5 (tn x4))))), (.int (gn (tk 2 (at' x5 (tn x4)))))])) else none) else none) else none) else none) else (some [(.sl x5)])) := (loopK_run (by kernel_rfl)).trans (by kernel_rfl)
theorem c_slices_symMergeCmpFunc_Row (a0 : List (List Dat)) (a1 : Int) (a2 : Int) (a3 : Int) : callI tE f_slices_symMergeCmpFunc_Row [.sl a0, .int a1, .int a2, .int a3] = (bif (eqI (w64 (a2 - a1)) 1) then (L_slices_symMergeCmpFunc_Row_0 a1 a2 a3 a2 a3 a0) else (bif (eqI (w64 (a3 - a2)) 1) then (L_slices_symMergeCmpFunc_Row_1 a1 a2 a3 a1 a2 a0) else (bif (ltI (w64 ((Go.IntKind.wrap .u64 (w64 (a1 + a3))) / (Int.pow 2 (ite ((tn 1) ≤ (Go.IntKind.bits .u64)) (tn 1) 64)))) a2) then (L_slices_symMergeCmpFunc_Row_2 a1 a2 a3 (w64 ((Go.IntKind.wrap .u64 (w64 (a1 + a3))) / (Int.pow 2 (ite ((tn 1) ≤ (Go.IntKind.bits .u64)) (tn 1) 64)))) (w64 ((w64 ((Go.IntKind.wrap .u64 (w64 (a1 + a3))) / (Int.pow 2 (ite ((tn 1) ≤ (Go.IntKind.bits .u64)) (tn 1) 64)))) + a2)) (w64 ((w64 ((w64 ((Go.IntKind.wrap .u64 (w64 (a1 + a3))) / (Int.pow 2 (ite ((tn 1) ≤ (Go.IntKind.bits .u64)) (tn 1) 64)))) + a2)) - a3)) (w64 ((Go.IntKind.wrap .u64 (w64 (a1 + a3))) / (Int.pow 2 (ite ((tn 1) ≤ (Go.IntKind.bits .u64)) (tn 1) 64)))) (w64 ((w64 ((w64 ((Go.IntKind.wrap .u64 (w64 (a1 + a3))) / (Int.pow 2 (ite ((tn 1) ≤ (Go.IntKind.bits .u64)) (tn 1) 64)))) + a2)) - 1)) a0) else (L_slices_symMergeCmpFunc_Row_2 a1 a2 a3 (w64 ((Go.IntKind.wrap .u64 (w64 (a1 + a3))) / (Int.pow 2 (ite ((tn 1) ≤ (Go.IntKind.bits .u64)) (tn 1) 64)))) (w64 ((w64 ((Go.IntKind.wrap .u64 (w64 (a1 + a3))) / (Int.pow 2 (ite ((tn 1) ≤ (Go.IntKind.bits .u64)) (tn 1) 64)))) + a2)) a1 a2 (w64 ((w64 ((w64 ((Go.IntKind.wrap .u64 (w64 (a1 + a3))) / (Int.pow 2 (ite ((tn 1) ≤ (Go.IntKind.bits .u64)) (tn 1) 64)))) + a2)) - 1)) a0)))) := (callI_run rfl (by kernel_rfl)).trans (by kernel_rfl)
noncomputable def L_slices_stableCmpFunc_Row_0 (x0 : Int) (x1 : Int) (x2 : Int) (x3 : Int) (x4 : List (List Dat)) : Option (List Dat) := loopK tE f_slices_stableCmpFunc_Row 0 ⟨[(0, (.own (1000000, 0))), (1, (.i .i64 x0)), (2, (.fn 149 [])), (6, (.i .i64 x1)), (7, (.i .i64 x2)), (8, (.i .i64 x3))], [((1000000, 0), (.row 43 x4 Bool.true 0 []))]⟩
noncomputable def L_slices_stableCmpFunc_Row_1 (x0 : Int) (x1 : Int) (x2 : List (List Dat)) : Option (List Dat) := loopK tE f_slices_stableCmpFunc_Row 1 ⟨[(0, (.own (1000000, 0))), (1, (.i .i64 x0)), (2, (.fn 149 [])), (6, (.i .i64 x1))], [((1000000, 0), (.row 43 x2 Bool.true 0 []))]⟩
noncomputable def L_slices_stableCmpFunc_Row_2 (x0 : Int) (x1 : Int) (x2 : Int) (x3 : Int) (x4 : List (List Dat)) : Option (List Dat) := loopK tE f_slices_stableCmpFunc_Row 2 ⟨[(0, (.own (1000000, 0))), (1, (.i .i64 x0)), (2, (.fn 149 [])), (6, (.i .i64 x1)), (7, (.i .i64 x2)), (8, (.i .i64 x3))], [((1000000, 0), (.row 43 x4 Bool.true 0 []))]⟩
theorem L_slices_stableCmpFunc_Row_0_eq (x0 : Int) (x1 : Int) (x2 : Int) (x3 : Int) (x4 : List (List Dat)) : L_slices_stableCmpFunc_Row_0 x0 x1 x2 x3 x4 = (bif (leI x3 x0) then (((callI tE f_slices_insertionSortCmpFunc_Row [(.sl x4), (.int x2), (.int x3)])).bind (fun r0 => (L_slices_stableCmpFunc_Row_0 x0 x1 x3 (w64 (x3 + x1)) (gl r0)))) else (((callI tE f_slices_insertionSortCmpFunc_Row [(.sl x4), (.int x2), (.int x0)])).bind (fun r0 => (L_slices_stableCmpFunc_Row_1 x0 x1 (gl r0))))) := (loopK_run (by kernel_rfl)).trans (by kernel_rfl)
theorem L_slices_stableCmpFunc_Row_1_eq (x0 : Int) (x1 : Int) (x2 : List (List Dat)) : L_slices_stableCmpFunc_Row_1 x0 x1 x2 = (bif (ltI x1 x0) then (L_slices_stableCmpFunc_Row_2 x0 x1 0 (w64 (2 * x1)) x2) else (some [(.sl x2)])) := (loopK_run (by kernel_rfl)).trans (by kernel_rfl)
theorem L_slices_stableCmpFunc_Row_2_eq (x0 : Int) (x1 : Int) (x2 : Int) (x3 : Int) (x4 : List (List Dat)) : L_slices_stableCmpFunc_Row_2 x0 x1 x2 x3 x4 = (bif (leI x3 x0) then (((callI tE f_slices_symMergeCmpFunc_Row [(.sl x4), (.int x2), (.int (w64 (x2 + x1))), (.int x3)])).bind (fun r0 => (L_slices_stableCmpFunc_Row_2 x0 x1 x3 (w64 (x3 + (w64 (2 * x1)))) (gl r0)))) else (bif (ltI (w64 (x2 + x1)) x0) then (((callI tE f_slices_symMergeCmpFunc_Row [(.sl x4), (.int x2), (.int (w64 (x2 + x1))), (.int x0)])).bind (fun r0 => (L_slices_stableCmpFunc_Row_1 x0 (w64 (x1 * 2)) (gl r0)))) else (L_slices_stableCmpFunc_Row_1 x0 (w64 (x1 * 2)) x4))) := (loopK_run (by kernel_rfl)).trans (by kernel_rfl)
theorem c_slices_stableCmpFunc_Row (a0 : List (List Dat)) (a1 : Int) : callI tE f_slices_stableCmpFunc_Row [.sl a0, .int a1] = (L_slices_stableCmpFunc_Row_0 a1 20 0 20 a0) := (callI_run rfl (by kernel_rfl)).trans (by kernel_rfl)
theorem c_slices_SortStableFunc_Row (a0 : List (List Dat)) : callI tE f_slices_SortStableFunc_Row [.sl a0] = (((callI tE f_slices_stableCmpFunc_Row [(.sl a0), (.int (lenI a0))])).bind (fun r0 => (some [(.sl (gl r0))]))) := (callI_run rfl (by kernel_rfl)).trans (by kernel_rfl)
end Go.Proofs.Ytbmafhpbinjgaaa.Vai
namespace Go.Proofs.Ytbmafhpbinjgaaa.Vai
open Go
set_option linter.unusedSimpArgs false
set_option linter.unusedVariables false
set_option linter.unnecessarySimpa false
set_option maxRecDepth 10000
theorem rw_of (r : Rw) : [Dat.int r.k, .int r.v, .int r.w] = r.e := rfl
theorem upd_rw (u v : List Rw) (a d : Rw) : updR ((u ++ a :: v).map Rw.e) u.length 0 d.e = (u ++ d :: v).map Rw.e := by
  rw [upd_m]
  have : setRange (Rw.e a) 0 d.e = d.e := rfl
  rw [this]
  simp
theorem gk (r : Rw) : gn r.e = r.k := rfl
theorem gv (r : Rw) : gn (tk 1 r.e) = r.v := rfl
theorem gw (r : Rw) : gn (tk 2 r.e) = r.w := rfl
theorem at_i {α : Type} {e : α → List Dat} {l u v : List α} {a : α} {i : Nat} (h : l = u ++ a :: v) (hi : u.length = i) : at' (l.map e) i = e a := by rw [h, ← hi]; exact at_m u v a
theorem in_i {α : Type} {e : α → List Dat} {l : List α} {i : Nat} (hi : i < l.length) : inR (i : Int) (lenI (l.map e)) = true := inRT (by omega) (by rw [lenI_map]; omega)
theorem upd_i {l u v : List Rw} {a d : Rw} {i : Nat} (h : l = u ++ a :: v) (hi : u.length = i) : updR (l.map Rw.e) i 0 [.int d.k, .int d.v, .int d.w] = (u ++ d :: v).map Rw.e := by rw [h, ← hi]; exact upd_rw u v a d
theorem swap_eq {l p q s : List Rw} {a b : Rw} {i j : Nat} (h : l = p ++ a :: (q ++ b :: s)) (hi : p.length = i) (hj : p.length + 1 + q.length = j) (hl : l.length < 4611686018427387904) {X : Option (List Dat)} {K : Rows → Option (List Dat)} (hK : K ((p ++ b :: (q ++ a :: s)).map Rw.e) = X) :
    (bif inR (j : Int) (lenI (l.map Rw.e)) then (bif inR (i : Int) (lenI (l.map Rw.e)) then (bif inR (i : Int) (lenI (l.map Rw.e)) then
      (bif inR (j : Int) (lenI (updR (l.map Rw.e) (tn (i : Int)) 0 [.int (gn (at' (l.map Rw.e) (tn (j : Int)))), .int (gn (tk 1 (at' (l.map Rw.e) (tn (j : Int))))), .int (gn (tk 2 (at' (l.map Rw.e) (tn (j : Int)))))])) then
        K (updR (updR (l.map Rw.e) (tn (i : Int)) 0 [.int (gn (at' (l.map Rw.e) (tn (j : Int)))), .int (gn (tk 1 (at' (l.map Rw.e) (tn (j : Int))))), .int (gn (tk 2 (at' (l.map Rw.e) (tn (j : Int)))))]) (tn (j : Int)) 0 [.int (gn (at' (l.map Rw.e) (tn (i : Int)))), .int (gn (tk 1 (at' (l.map Rw.e) (tn (i : Int))))), .int (gn (tk 2 (at' (l.map Rw.e) (tn (i : Int)))))])
        else none) else none) else none) else none) = X := by
  have hb : at' (l.map Rw.e) j = b.e := at_i (u := p ++ a :: q) (v := s) (by rw [h]; simp) (by simp; omega)
  have ha : at' (l.map Rw.e) i = a.e := at_i h hi
  have hlen : l.length = p.length + 1 + q.length + 1 + s.length := by rw [h]; simp; omega
  have h1 : updR (l.map Rw.e) i 0 [.int b.k, .int b.v, .int b.w] = (p ++ b :: (q ++ b :: s)).map Rw.e := upd_i h hi
  have h2 : updR ((p ++ b :: (q ++ b :: s)).map Rw.e) j 0 [.int a.k, .int a.v, .int a.w] = (p ++ b :: (q ++ a :: s)).map Rw.e := by
    rw [upd_i (u := p ++ b :: q) (v := s) (a := b) (by simp) (by simp; omega)]
    simp
  simp only [tn_c, hb, ha, gk, gv, gw, h1, h2]
  rw [in_i (by omega), in_i (by omega), in_i (by simp; omega)]
  exact hK
theorem swapRange_ok : ∀ (u2 v2 : List Rw) (p u1 q v1 s : List Rw), u2.length = v2.length → u1.length = v1.length → (p ++ (v1 ++ (u2 ++ (q ++ (u1 ++ (v2 ++ s)))))).length < 4611686018427387904 →
    L_slices_swapRangeCmpFunc_Row_0 (p.length : Nat) ((p.length + v1.length + u2.length + q.length : Nat) : Int) ((v1.length + u2.length : Nat) : Int) (v1.length : Nat) ((p ++ (v1 ++ (u2 ++ (q ++ (u1 ++ (v2 ++ s)))))).map Rw.e) =
      some [.sl ((p ++ (v1 ++ (v2 ++ (q ++ (u1 ++ (u2 ++ s)))))).map Rw.e)]
  | [], [], p, u1, q, v1, s, _, _, _ => by
    rw [L_slices_swapRangeCmpFunc_Row_0_eq, ltF (by simp), cond_false]
  | [], _ :: _, _, _, _, _, _, h, _, _ => by simp at h
  | _ :: _, [], _, _, _, _, _, h, _, _ => by simp at h
  | c :: u2, d :: v2, p, u1, q, v1, s, h, h2, hl => by
    have hl' := hl
    simp only [List.length_append, List.length_cons] at hl' h
    rw [L_slices_swapRangeCmpFunc_Row_0_eq, ltT (by simp only [List.length_cons]; omega), cond_true]
    rw [show w64 ((p.length : Int) + (v1.length : Nat)) = ((p.length + v1.length : Nat) : Int) by rw [w64_id ⟨by omega, by omega⟩]; omega]
    rw [show w64 (((p.length + v1.length + (c :: u2).length + q.length : Nat) : Int) + (v1.length : Nat)) = ((p.length + v1.length + (c :: u2).length + q.length + v1.length : Nat) : Int) by simp only [List.length_cons]; rw [w64_id ⟨by omega, by omega⟩]; omega]
    refine swap_eq (l := p ++ (v1 ++ (c :: u2 ++ (q ++ (u1 ++ (d :: v2 ++ s)))))) (p := p ++ v1) (q := u2 ++ (q ++ u1)) (s := v2 ++ s) (a := c) (b := d) (by simp) (by simp) (by simp; omega) hl
      (K := fun X => L_slices_swapRangeCmpFunc_Row_0 (p.length : Nat) ((p.length + v1.length + (c :: u2).length + q.length : Nat) : Int) ((v1.length + (c :: u2).length : Nat) : Int) (w64 ((v1.length : Nat) + 1)) X) ?_
    have ih := swapRange_ok u2 v2 p (u1 ++ [c]) q (v1 ++ [d]) s (by omega) (by simp [h2]) (by simp only [List.length_append, List.length_cons, List.length_nil]; omega)
    show L_slices_swapRangeCmpFunc_Row_0 _ _ _ _ _ = _
    rw [w64_s (by omega)]
    have e1 : (p ++ v1 ++ d :: (u2 ++ (q ++ u1) ++ c :: (v2 ++ s))) = (p ++ (v1 ++ [d] ++ (u2 ++ (q ++ (u1 ++ [c] ++ (v2 ++ s)))))) := by simp
    have e2 : (p ++ (v1 ++ (d :: v2 ++ (q ++ (u1 ++ (c :: u2 ++ s)))))) = (p ++ (v1 ++ [d] ++ (v2 ++ (q ++ (u1 ++ [c] ++ (u2 ++ s)))))) := by simp
    rw [e1, e2, ← ih]
    congr 1 <;> simp only [List.length_append, List.length_cons, List.length_nil] <;> omega
theorem swapRange (p u q v s : List Rw) (h : u.length = v.length) (hl : (p ++ (u ++ (q ++ (v ++ s)))).length < 4611686018427387904) {a b n : Int} (ha : a = (p.length : Nat)) (hb : b = ((p.length + u.length + q.length : Nat) : Int)) (hn : n = (u.length : Nat)) :
    callI tE f_slices_swapRangeCmpFunc_Row [.sl ((p ++ (u ++ (q ++ (v ++ s)))).map Rw.e), .int a, .int b, .int n] = some [.sl ((p ++ (v ++ (q ++ (u ++ s)))).map Rw.e)] := by
  rw [c_slices_swapRangeCmpFunc_Row, ha, hb, hn]
  have := swapRange_ok u v p [] q [] s h rfl (by simpa using hl)
  simp only [List.nil_append, List.length_nil, Nat.add_zero, Nat.zero_add] at this
  exact this
theorem rotate_ok : ∀ (n : Nat) (u v p s : List Rw) (a m b : Int) (m0 : Nat), u.length + v.length ≤ n → 0 < u.length → 0 < v.length → (p ++ (u ++ (v ++ s))).length < 1152921504606846976 → m0 = p.length + u.length → m = (m0 : Nat) →
    L_slices_rotateCmpFunc_Row_0 a m b (u.length : Nat) (v.length : Nat) ((p ++ (u ++ (v ++ s))).map Rw.e) = some [.sl ((p ++ (v ++ (u ++ s))).map Rw.e)] := by
  intro n
  induction n with
  | zero => intro u v p s a m b m0 h h1 h2; omega
  | succ n ih =>
    intro u v p s a m b m0 h h1 h2 hl hm0 hm
    have hl' := hl
    simp only [List.length_append] at hl'
    rw [L_slices_rotateCmpFunc_Row_0_eq, hm]
    have e0 : w64 ((m0 : Int) - (u.length : Nat)) = (p.length : Nat) := by rw [w64_id ⟨by omega, by omega⟩]; omega
    by_cases he : u.length = v.length
    · have := swapRange p u [] v s he (by simp only [List.length_append, List.length_nil]; omega) (a := (p.length : Nat)) (b := (m0 : Nat)) (n := (u.length : Nat)) rfl (by simp only [List.length_nil]; omega) rfl
      simp only [List.nil_append] at this
      rw [eqT (by omega), Bool.not_true, cond_false, e0, this]
      rfl
    · rw [eqF (by omega), Bool.not_false, cond_true]
      by_cases hlt : v.length < u.length
      · rw [ltT (by omega), cond_true, e0]
        obtain ⟨u1, u2, rfl, hu1⟩ : ∃ u1 u2, u = u1 ++ u2 ∧ u1.length = v.length := ⟨u.take v.length, u.drop v.length, (List.take_append_drop _ _).symm, by simp; omega⟩
        simp only [List.length_append] at *
        have := swapRange p u1 u2 v s hu1 (by simp only [List.length_append]; omega) (a := (p.length : Nat)) (b := (m0 : Nat)) (n := (v.length : Nat)) rfl (by omega) (by omega)
        rw [show p ++ (u1 ++ u2 ++ (v ++ s)) = p ++ (u1 ++ (u2 ++ (v ++ s))) by simp, this]
        simp only [gn_c, gb_c, gs_c, gl_c, tk_s, tk_0, List.drop_succ_cons, List.drop_zero, List.headD_cons, List.getD_cons_zero, List.getD_cons_succ, bind_s]
        rw [show w64 (((u1.length + u2.length : Nat) : Int) - (v.length : Nat)) = (u2.length : Nat) by rw [w64_id ⟨by omega, by omega⟩]; omega]
        have := ih u2 u1 (p ++ v) s a m b m0 (by omega) (by omega) (by omega) (by simp only [List.length_append]; omega) (by simp only [List.length_append]; omega) hm
        rw [hm, hu1] at this
        rw [show p ++ (v ++ (u2 ++ (u1 ++ s))) = p ++ v ++ (u2 ++ (u1 ++ s)) by simp, this]
        simp
      · rw [ltF (by omega), cond_false, e0]
        obtain ⟨v1, v2, rfl, hv2⟩ : ∃ v1 v2, v = v1 ++ v2 ∧ v2.length = u.length := ⟨v.take (v.length - u.length), v.drop (v.length - u.length), (List.take_append_drop _ _).symm, by simp; omega⟩
        simp only [List.length_append] at *
        have e1 : w64 (w64 ((m0 : Int) + ((v1.length + v2.length : Nat) : Int)) - (u.length : Nat)) = ((p.length + u.length + v1.length : Nat) : Int) := by
          rw [w64_id (n := (m0 : Int) + ((v1.length + v2.length : Nat) : Int)) ⟨by omega, by omega⟩, w64_id ⟨by omega, by omega⟩]; omega
        have := swapRange p u v1 v2 s hv2.symm (by simp only [List.length_append]; omega) (a := (p.length : Nat)) (b := ((p.length + u.length + v1.length : Nat) : Int)) (n := (u.length : Nat)) rfl rfl rfl
        rw [e1, show p ++ (u ++ (v1 ++ v2 ++ s)) = p ++ (u ++ (v1 ++ (v2 ++ s))) by simp, this]
        simp only [gn_c, gb_c, gs_c, gl_c, tk_s, tk_0, List.drop_succ_cons, List.drop_zero, List.headD_cons, List.getD_cons_zero, List.getD_cons_succ, bind_s]
        rw [show w64 (((v1.length + v2.length : Nat) : Int) - (u.length : Nat)) = (v1.length : Nat) by rw [w64_id ⟨by omega, by omega⟩]; omega]
        have := ih v2 v1 p (u ++ s) a m b m0 (by omega) (by omega) (by omega) (by simp only [List.length_append]; omega) (by omega) hm
        rw [hm, hv2] at this
        rw [this]
        simp
theorem rotate (p u v s : List Rw) (h1 : 0 < u.length) (h2 : 0 < v.length) (hl : (p ++ (u ++ (v ++ s))).length < 1152921504606846976) {a m b : Int} (ha : a = (p.length : Nat)) (hm : m = ((p.length + u.length : Nat) : Int)) (hb : b = ((p.length + u.length + v.length : Nat) : Int)) :
    callI tE f_slices_rotateCmpFunc_Row [.sl ((p ++ (u ++ (v ++ s))).map Rw.e), .int a, .int m, .int b] = some [.sl ((p ++ (v ++ (u ++ s))).map Rw.e)] := by
  have hl' := hl
  simp only [List.length_append] at hl'
  rw [c_slices_rotateCmpFunc_Row, show w64 (m - a) = (u.length : Nat) by rw [ha, hm, w64_id ⟨by omega, by omega⟩]; omega, show w64 (b - m) = (v.length : Nat) by rw [hb, hm, w64_id ⟨by omega, by omega⟩]; omega]
  exact rotate_ok _ u v p s a m b _ (Nat.le_refl _) h1 h2 hl rfl hm
end Go.Proofs.Ytbmafhpbinjgaaa.Vai
namespace Go.Proofs.Ytbmafhpbinjgaaa.Vai
open Go
set_option linter.unusedSimpArgs false
set_option linter.unusedVariables false
set_option linter.unnecessarySimpa false
set_option maxRecDepth 10000
theorem swap_eq2 {l p s : List Rw} {a b : Rw} {i j : Nat} (h : l = p ++ a :: b :: s) (hi : p.length = i) (hj : j = i + 1) (hl : l.length < 4611686018427387904) {X : Option (List Dat)} {K : Rows → Option (List Dat)} (hK : K ((p ++ b :: a :: s).map Rw.e) = X) :
    (bif inR (i : Int) (lenI (l.map Rw.e)) then (bif inR (j : Int) (lenI (l.map Rw.e)) then (bif inR (j : Int) (lenI (l.map Rw.e)) then
      (bif inR (i : Int) (lenI (updR (l.map Rw.e) (tn (j : Int)) 0 [.int (gn (at' (l.map Rw.e) (tn (i : Int)))), .int (gn (tk 1 (at' (l.map Rw.e) (tn (i : Int))))), .int (gn (tk 2 (at' (l.map Rw.e) (tn (i : Int)))))])) then
        K (updR (updR (l.map Rw.e) (tn (j : Int)) 0 [.int (gn (at' (l.map Rw.e) (tn (i : Int)))), .int (gn (tk 1 (at' (l.map Rw.e) (tn (i : Int))))), .int (gn (tk 2 (at' (l.map Rw.e) (tn (i : Int)))))]) (tn (i : Int)) 0 [.int (gn (at' (l.map Rw.e) (tn (j : Int)))), .int (gn (tk 1 (at' (l.map Rw.e) (tn (j : Int))))), .int (gn (tk 2 (at' (l.map Rw.e) (tn (j : Int)))))])
        else none) else none) else none) else none) = X := by
  have hb : at' (l.map Rw.e) j = b.e := at_i (u := p ++ [a]) (v := s) (by rw [h]; simp) (by simp; omega)
  have ha : at' (l.map Rw.e) i = a.e := at_i h hi
  have hlen : l.length = p.length + 1 + 1 + s.length := by rw [h]; simp; omega
  have h1 : updR (l.map Rw.e) j 0 [.int a.k, .int a.v, .int a.w] = (p ++ a :: a :: s).map Rw.e := by
    rw [upd_i (u := p ++ [a]) (v := s) (a := b) (by rw [h]; simp) (by simp; omega)]
    simp
  have h2 : updR ((p ++ a :: a :: s).map Rw.e) i 0 [.int b.k, .int b.v, .int b.w] = (p ++ b :: a :: s).map Rw.e := upd_i rfl hi
  simp only [tn_c, hb, ha, gk, gv, gw, h1, h2]
  rw [in_i (by omega), in_i (by omega), in_i (by simp; omega)]
  exact hK
theorem half_ok (i j : Nat) (h : i + j < 4611686018427387904) : w64 ((Go.IntKind.wrap .u64 (w64 ((i : Int) + (j : Int)))) / (Int.pow 2 (ite ((tn 1) ≤ (Go.IntKind.bits .u64)) (tn 1) 64))) = (((i + j) / 2 : Nat) : Int) := by
  have e1 : (Int.pow 2 (ite ((tn 1) ≤ (Go.IntKind.bits .u64)) (tn 1) 64)) = 2 := rfl
  have e2 : Go.IntKind.wrap .u64 ((i : Int) + (j : Int)) = (i : Int) + (j : Int) := by
    have e : (2 : Int) ^ 64 = 18446744073709551616 := by decide
    simp only [IntKind.wrap, IntKind.signed, IntKind.bits, Bool.false_and, Bool.false_eq_true, if_false, e]
    omega
  rw [e1, w64_id (n := (i : Int) + (j : Int)) ⟨by omega, by omega⟩, e2, w64_id ⟨by omega, by omega⟩]
  omega
abbrev Srt (l : List Rw) : Prop := l.Pairwise Rw.le
theorem srt_unique : ∀ {l l' : List Rw}, l.Perm l' → Srt l → Srt l' → l = l'
  | [], l', h, _, _ => by have := h.length_eq; exact (List.length_eq_zero_iff.mp (by simpa using this.symm)).symm
  | a :: l, [], h, _, _ => by have := h.length_eq; simp at this
  | a :: l, b :: l', h, s, s' => by
    have hab : a = b := by
      have h1 : b ∈ a :: l := h.mem_iff.mpr (by simp)
      have h2 : a ∈ b :: l' := h.mem_iff.mp (by simp)
      rcases List.mem_cons.mp h1 with h1 | h1
      · exact h1.symm
      · rcases List.mem_cons.mp h2 with h2 | h2
        · exact h2
        · exact Rw.le_antisymm ((List.pairwise_cons.mp s).1 b h1) ((List.pairwise_cons.mp s').1 a h2)
    subst hab
    rw [srt_unique (h.cons_inv) (List.pairwise_cons.mp s).2 (List.pairwise_cons.mp s').2]
theorem bs {β : Type} {L : Nat → Nat → β} {K : Nat → β} {t lo hi : Nat} (hs : ∀ i j, lo ≤ i → i < j → j ≤ hi → L i j = if (i + j) / 2 < t then L ((i + j) / 2 + 1) j else L i ((i + j) / 2)) (he : ∀ i, lo ≤ i → i ≤ hi → L i i = K i) :
    ∀ (n i j : Nat), j - i ≤ n → lo ≤ i → i ≤ t → t ≤ j → j ≤ hi → L i j = K t := by
  intro n
  induction n with
  | zero =>
    intro i j h h1 h2 h3 h4
    have e1 : i = t := by omega
    have e2 : j = t := by omega
    rw [e1, e2]
    exact he t (by omega) (by omega)
  | succ n ih =>
    intro i j h h1 h2 h3 h4
    by_cases hij : i < j
    · rw [hs i j h1 hij h4]
      split
      · exact ih _ _ (by omega) (by omega) (by omega) h3 h4
      · exact ih _ _ (by omega) h1 h2 (by omega) (by omega)
    · have e1 : i = t := by omega
      have e2 : j = t := by omega
      rw [e1, e2]
      exact he t (by omega) (by omega)
theorem split_ex (P : Nat → Prop) [DecidablePred P] (lo : Nat) : ∀ (n : Nat), (∀ c d, lo ≤ c → c ≤ d → d < lo + n → P d → P c) → ∃ t, lo ≤ t ∧ t ≤ lo + n ∧ ∀ c, lo ≤ c → c < lo + n → (P c ↔ c < t)
  | 0, _ => ⟨lo, Nat.le_refl _, Nat.le_refl _, fun c h1 h2 => by omega⟩
  | n + 1, hm => by
    obtain ⟨t, h1, h2, h3⟩ := split_ex P lo n (fun c d a b e => hm c d a b (by omega))
    by_cases hp : P (lo + n)
    · refine ⟨lo + n + 1, by omega, by omega, fun c a b => ⟨fun _ => by omega, fun _ => hm c (lo + n) a (by omega) (by omega) hp⟩⟩
    · refine ⟨t, h1, by omega, fun c a b => ?_⟩
      by_cases hc : c < lo + n
      · exact h3 c a hc
      · have : c = lo + n := by omega
        subst this
        exact ⟨fun h => absurd h hp, fun h => by omega⟩
def nth (x : List Rw) (i : Nat) : Rw := x.getD i ⟨0, 0, 0⟩
theorem at_nth {x : List Rw} {i : Nat} (h : i < x.length) : at' (x.map Rw.e) i = (nth x i).e := by
  obtain ⟨u, a, v, rfl, rfl⟩ : ∃ u a v, x = u ++ a :: v ∧ u.length = i := ⟨x.take i, x[i], x.drop (i + 1), by
    have := List.take_append_drop i x
    rw [List.drop_eq_getElem_cons h] at this
    exact this.symm, by simp; omega⟩
  rw [at_m]
  simp [nth, List.getD_eq_getElem?_getD]
theorem nth_app1 (u v : List Rw) {i : Nat} (h : i < u.length) : nth (u ++ v) i = nth u i := by
  simp [nth, List.getD_eq_getElem?_getD, List.getElem?_append_left h]
theorem nth_app2 (u v : List Rw) {i : Nat} (h : u.length ≤ i) : nth (u ++ v) i = nth v (i - u.length) := by
  simp [nth, List.getD_eq_getElem?_getD, List.getElem?_append_right h]
theorem mem_nth {u : List Rw} {a : Rw} (h : a ∈ u) : ∃ i, i < u.length ∧ nth u i = a := by
  obtain ⟨i, hi⟩ := List.getElem?_of_mem h
  obtain ⟨h1, h2⟩ := List.getElem?_eq_some_iff.mp hi
  exact ⟨i, h1, by simp [nth, List.getD_eq_getElem?_getD, hi]⟩
theorem srt_nth {u : List Rw} (h : Srt u) {i j : Nat} (hij : i ≤ j) (hj : j < u.length) : Rw.le (nth u i) (nth u j) := by
  by_cases e : i = j
  · subst e; exact Rw.le_rfl _
  · have := List.pairwise_iff_getElem.mp h i j (by omega) hj (by omega)
    simpa [nth, List.getD_eq_getElem?_getD, hj, show i < u.length by omega] using this
theorem cut_at {u : List Rw} {t : Nat} (h : t ≤ u.length) : ∃ u1 u2, u = u1 ++ u2 ∧ u1.length = t := ⟨u.take t, u.drop t, (List.take_append_drop _ _).symm, by simp; omega⟩
end Go.Proofs.Ytbmafhpbinjgaaa.Vai
namespace Go.Proofs.Ytbmafhpbinjgaaa.Vai
open Go
set_option linter.unusedSimpArgs false
set_option linter.unusedVariables false
set_option linter.unnecessarySimpa false
set_option maxRecDepth 10000
theorem cmp_at {x : List Rw} {i j : Nat} (hi : i < x.length) (hj : j < x.length) {X : Option (List Dat)} {K : List Dat → Option (List Dat)} (h : K [.int (cmpR (nth x i) (nth x j))] = X) :
    (callI tE f_impl_CompareRows [.int (gn (at' (x.map Rw.e) (tn (i : Int)))), .int (gn (tk 1 (at' (x.map Rw.e) (tn (i : Int))))), .int (gn (tk 2 (at' (x.map Rw.e) (tn (i : Int))))), .int (gn (at' (x.map Rw.e) (tn (j : Int)))), .int (gn (tk 1 (at' (x.map Rw.e) (tn (j : Int))))), .int (gn (tk 2 (at' (x.map Rw.e) (tn (j : Int)))))]).bind K = X := by
  simp only [tn_c, at_nth hi, at_nth hj, gk, gv, gw]
  rw [iCompare]
  exact h
theorem w64_add (a b : Nat) (h : a + b < 9223372036854775807) : w64 ((a : Int) + (b : Int)) = ((a + b : Nat) : Int) := by rw [w64_id ⟨by omega, by omega⟩]; omega
theorem w64_sub {a b : Nat} (h : b ≤ a) (h2 : a < 9223372036854775807) : w64 ((a : Int) - (b : Int)) = ((a - b : Nat) : Int) := by rw [w64_id ⟨by omega, by omega⟩]; omega
theorem w64_pred {a : Nat} (h : 1 ≤ a) (h2 : a < 9223372036854775807) : w64 ((a : Int) - 1) = ((a - 1 : Nat) : Int) := by rw [w64_id ⟨by omega, by omega⟩]; omega
theorem up_ok (a m b : Int) : ∀ (v : List Rw) (c : Rw) (p s : List Rw) (k t : Nat), (p ++ c :: (v ++ s)).length < 1152921504606846976 → k = p.length → t = p.length + 1 + v.length →
    L_slices_symMergeCmpFunc_Row_3 a m b (t : Nat) (k : Nat) ((p ++ c :: (v ++ s)).map Rw.e) = some [.sl ((p ++ (v ++ c :: s)).map Rw.e)]
  | [], c, p, s, k, t, hl, hk, ht => by
    simp only [List.length_nil, List.length_append, List.length_cons] at ht hl
    rw [L_slices_symMergeCmpFunc_Row_3_eq, w64_pred (by omega) (by omega), ltF (by omega), cond_false]
    rfl
  | d :: v, c, p, s, k, t, hl, hk, ht => by
    have hl' := hl
    simp only [List.length_append, List.length_cons] at hl' ht
    rw [L_slices_symMergeCmpFunc_Row_3_eq, w64_pred (by omega) (by omega), ltT (by omega), cond_true, w64_s (by omega)]
    refine swap_eq (l := p ++ c :: (d :: v ++ s)) (p := p) (q := []) (s := v ++ s) (a := c) (b := d) (by simp) hk.symm (by simp; omega) (by omega) (K := fun X => L_slices_symMergeCmpFunc_Row_3 a m b (t : Nat) ((k + 1 : Nat) : Int) X) ?_
    have ih := up_ok a m b v c (p ++ [d]) s (k + 1) t (by simp only [List.length_append, List.length_cons, List.length_nil]; omega) (by simp; omega) (by simp; omega)
    show L_slices_symMergeCmpFunc_Row_3 _ _ _ _ _ _ = _
    rw [show p ++ d :: ([] ++ c :: (v ++ s)) = p ++ [d] ++ c :: (v ++ s) by simp, ih]
    simp
theorem down_ok (a m b : Int) : ∀ (n : Nat) (u : List Rw) (c : Rw) (p s : List Rw) (k t : Nat), u.length = n → (p ++ (u ++ c :: s)).length < 1152921504606846976 → k = p.length + u.length → t = p.length →
    L_slices_symMergeCmpFunc_Row_4 a m b (t : Nat) (k : Nat) ((p ++ (u ++ c :: s)).map Rw.e) = some [.sl ((p ++ c :: (u ++ s)).map Rw.e)] := by
  intro n
  induction n with
  | zero =>
    intro u c p s k t hn hl hk ht
    have : u = [] := List.length_eq_zero_iff.mp hn
    subst this
    simp only [List.length_nil] at hk
    rw [L_slices_symMergeCmpFunc_Row_4_eq, ltF (by omega), cond_false]
    rfl
  | succ n ih =>
    intro u c p s k t hn hl hk ht
    obtain ⟨u', d, rfl⟩ : ∃ u' d, u = u' ++ [d] := by
      obtain ⟨l', x, e⟩ := snoc_of (n := n) (l := u) hn
      exact ⟨l', x, e⟩
    simp only [List.length_append, List.length_cons, List.length_nil] at hl hk hn
    rw [L_slices_symMergeCmpFunc_Row_4_eq, ltT (by omega), cond_true, w64_pred (by omega) (by omega)]
    refine swap_eq2 (l := p ++ (u' ++ [d] ++ c :: s)) (p := p ++ u') (s := s) (a := d) (b := c) (by simp) (by simp; omega) (by omega) (by simp only [List.length_append, List.length_cons, List.length_nil]; omega) (K := fun X => L_slices_symMergeCmpFunc_Row_4 a m b (t : Nat) ((k - 1 : Nat) : Int) X) ?_
    have := ih u' c p (d :: s) (k - 1) t (by omega) (by simp only [List.length_append, List.length_cons]; omega) (by omega) ht
    show L_slices_symMergeCmpFunc_Row_4 _ _ _ _ _ _ = _
    rw [show p ++ u' ++ c :: d :: s = p ++ (u' ++ c :: (d :: s)) by simp, this]
    simp
def Mg (u v w : List Rw) : Prop := w.Perm (u ++ v) ∧ Srt w
theorem Rw.le_lt {a b c : Rw} (h : Rw.le a b) (h2 : Rw.lt b c) : Rw.lt a c := by unfold Rw.le Rw.lt at *; omega
theorem merge1 (c : Rw) (v p s : List Rw) (hv : Srt v) (hl : (p ++ (c :: (v ++ s))).length < 1152921504606846976) {a m b : Nat} (ha : a = p.length) (hm : m = a + 1) (hb : b = m + v.length) :
    ∃ w, Mg [c] v w ∧ L_slices_symMergeCmpFunc_Row_0 (a : Nat) (m : Nat) (b : Nat) (m : Nat) (b : Nat) ((p ++ c :: (v ++ s)).map Rw.e) = some [.sl ((p ++ (w ++ s)).map Rw.e)] := by
  have hl' := hl
  simp only [List.length_append, List.length_cons] at hl'
  have hxv : ∀ k, k < v.length → nth (p ++ c :: (v ++ s)) (m + k) = nth v k := fun k hk => by
    rw [show p ++ c :: (v ++ s) = (p ++ [c]) ++ (v ++ s) by simp, nth_app2 _ _ (by simp; omega), nth_app1 _ _ (by simp; omega)]
    congr 1
    simp; omega
  have hxa : nth (p ++ c :: (v ++ s)) a = c := by rw [nth_app2 _ _ (by omega), ha]; simp [nth]
  have hxl : (p ++ c :: (v ++ s)).length = p.length + 1 + v.length + s.length := by simp; omega
  obtain ⟨t, t1, t2, t3⟩ := split_ex (fun h => Rw.lt (nth (p ++ c :: (v ++ s)) h) c) m v.length (fun i j h1 h2 h3 h4 => by
    have e1 := hxv (i - m) (by omega)
    have e2 := hxv (j - m) (by omega)
    rw [show m + (i - m) = i by omega] at e1
    rw [show m + (j - m) = j by omega] at e2
    rw [e1]
    rw [e2] at h4
    exact Rw.le_lt (srt_nth hv (by omega) (by omega)) h4)
  have hb2 := bs (L := fun i j : Nat => L_slices_symMergeCmpFunc_Row_0 (a : Nat) (m : Nat) (b : Nat) (i : Nat) (j : Nat) ((p ++ c :: (v ++ s)).map Rw.e)) (K := fun t : Nat => L_slices_symMergeCmpFunc_Row_3 (a : Nat) (m : Nat) (b : Nat) (t : Nat) (a : Nat) ((p ++ c :: (v ++ s)).map Rw.e)) (t := t) (lo := m) (hi := b)
    (fun i j h1 h2 h3 => by
      show L_slices_symMergeCmpFunc_Row_0 _ _ _ _ _ _ = _
      rw [L_slices_symMergeCmpFunc_Row_0_eq, ltT (by omega), cond_true, half_ok i j (by omega), in_i (by omega), in_i (by omega), cond_true, cond_true]
      refine cmp_at (by omega) (by omega) ?_
      rw [gn_c, lt_cmp0, hxa]
      have := t3 ((i + j) / 2) (by omega) (by omega)
      by_cases hc : (i + j) / 2 < t
      · rw [if_pos hc, decide_eq_true (this.mpr hc), cond_true, w64_s (by omega)]
      · rw [if_neg hc, decide_eq_false (fun h => hc (this.mp h)), cond_false])
    (fun i h1 h2 => by
      show L_slices_symMergeCmpFunc_Row_0 _ _ _ _ _ _ = _
      rw [L_slices_symMergeCmpFunc_Row_0_eq, ltF (Int.le_refl _), cond_false])
    (b - m) m b (Nat.le_refl _) (Nat.le_refl _) t1 (by omega) (Nat.le_refl _)
  obtain ⟨v1, v2, rfl, hv1⟩ := cut_at (u := v) (t := t - m) (by omega)
  refine ⟨v1 ++ c :: v2, ⟨List.perm_middle, ?_⟩, ?_⟩
  · obtain ⟨s1, s2, s3⟩ := List.pairwise_append.mp hv
    simp only [List.length_append] at *
    refine List.pairwise_append.mpr ⟨s1, List.pairwise_cons.mpr ⟨fun y hy => ?_, s2⟩, fun x hx y hy => ?_⟩
    · obtain ⟨k, hk, rfl⟩ := mem_nth hy
      have h1 := hxv (v1.length + k) (by omega)
      rw [nth_app2 v1 v2 (by omega), show v1.length + k - v1.length = k by omega] at h1
      have h2 := t3 (m + (v1.length + k)) (by omega) (by omega)
      rw [h1] at h2
      exact fun h => by have := h2.mp h; omega
    · rcases List.mem_cons.mp hy with rfl | hy
      · obtain ⟨k, hk, rfl⟩ := mem_nth hx
        have h1 := hxv k (by omega)
        rw [nth_app1 v1 v2 hk] at h1
        have h2 := t3 (m + k) (by omega) (by omega)
        rw [h1] at h2
        exact Rw.lt_le (h2.mpr (by omega))
      · exact s3 x hx y hy
  · refine hb2.trans ?_
    show L_slices_symMergeCmpFunc_Row_3 _ _ _ _ _ _ = _
    simp only [List.length_append] at *
    rw [show p ++ c :: (v1 ++ v2 ++ s) = p ++ c :: (v1 ++ (v2 ++ s)) by simp, up_ok _ _ _ v1 c p (v2 ++ s) a t (by simp only [List.length_append, List.length_cons]; omega) ha (by omega)]
    simp
theorem merge2 (c : Rw) (u p s : List Rw) (hu : Srt u) (hl : (p ++ (u ++ c :: s)).length < 1152921504606846976) {a m b : Nat} (ha : a = p.length) (hm : m = a + u.length) (hb : b = m + 1) :
    ∃ w, Mg u [c] w ∧ L_slices_symMergeCmpFunc_Row_1 (a : Nat) (m : Nat) (b : Nat) (a : Nat) (m : Nat) ((p ++ (u ++ c :: s)).map Rw.e) = some [.sl ((p ++ (w ++ s)).map Rw.e)] := by
  have hl' := hl
  simp only [List.length_append, List.length_cons] at hl'
  have hxu : ∀ k, k < u.length → nth (p ++ (u ++ c :: s)) (a + k) = nth u k := fun k hk => by
    rw [nth_app2 _ _ (by omega), nth_app1 _ _ (by omega)]
    congr 1
    omega
  have hxm : nth (p ++ (u ++ c :: s)) m = c := by rw [nth_app2 _ _ (by omega), nth_app2 _ _ (by omega), show m - p.length - u.length = 0 by omega]; simp [nth]
  have hxl : (p ++ (u ++ c :: s)).length = p.length + u.length + 1 + s.length := by simp; omega
  obtain ⟨t, t1, t2, t3⟩ := split_ex (fun h => Rw.le (nth (p ++ (u ++ c :: s)) h) c) a u.length (fun i j h1 h2 h3 h4 => by
    have e1 := hxu (i - a) (by omega)
    have e2 := hxu (j - a) (by omega)
    rw [show a + (i - a) = i by omega] at e1
    rw [show a + (j - a) = j by omega] at e2
    rw [e1]
    rw [e2] at h4
    exact Rw.le_tr (srt_nth hu (by omega) (by omega)) h4)
  have hb2 := bs (L := fun i j : Nat => L_slices_symMergeCmpFunc_Row_1 (a : Nat) (m : Nat) (b : Nat) (i : Nat) (j : Nat) ((p ++ (u ++ c :: s)).map Rw.e)) (K := fun t : Nat => L_slices_symMergeCmpFunc_Row_4 (a : Nat) (m : Nat) (b : Nat) (t : Nat) (m : Nat) ((p ++ (u ++ c :: s)).map Rw.e)) (t := t) (lo := a) (hi := m)
    (fun i j h1 h2 h3 => by
      show L_slices_symMergeCmpFunc_Row_1 _ _ _ _ _ _ = _
      rw [L_slices_symMergeCmpFunc_Row_1_eq, ltT (by omega), cond_true, half_ok i j (by omega), in_i (by omega), in_i (by omega), cond_true, cond_true]
      refine cmp_at (by omega) (by omega) ?_
      rw [gn_c, lt_cmp0, hxm]
      have := t3 ((i + j) / 2) (by omega) (by omega)
      by_cases hc : (i + j) / 2 < t
      · rw [if_pos hc, decide_eq_false (this.mpr hc), Bool.not_false, cond_true, w64_s (by omega)]
      · rw [if_neg hc, decide_eq_true (Decidable.not_not.mp fun h => hc (this.mp h)), Bool.not_true, cond_false])
    (fun i h1 h2 => by
      show L_slices_symMergeCmpFunc_Row_1 _ _ _ _ _ _ = _
      rw [L_slices_symMergeCmpFunc_Row_1_eq, ltF (Int.le_refl _), cond_false])
    (m - a) a m (Nat.le_refl _) (Nat.le_refl _) t1 (by omega) (Nat.le_refl _)
  obtain ⟨u1, u2, rfl, hu1⟩ := cut_at (u := u) (t := t - a) (by omega)
  refine ⟨u1 ++ c :: u2, ⟨?_, ?_⟩, ?_⟩
  · rw [List.append_assoc]
    exact List.Perm.append_left u1 (by simpa using (List.perm_append_comm (l₁ := [c]) (l₂ := u2)))
  · obtain ⟨s1, s2, s3⟩ := List.pairwise_append.mp hu
    simp only [List.length_append] at *
    refine List.pairwise_append.mpr ⟨s1, List.pairwise_cons.mpr ⟨fun y hy => ?_, s2⟩, fun x hx y hy => ?_⟩
    · obtain ⟨k, hk, rfl⟩ := mem_nth hy
      have h1 := hxu (u1.length + k) (by omega)
      rw [nth_app2 u1 u2 (by omega), show u1.length + k - u1.length = k by omega] at h1
      have h2 := t3 (a + (u1.length + k)) (by omega) (by omega)
      rw [h1] at h2
      exact Rw.lt_le (Decidable.not_not.mp fun h => by have := h2.mp h; omega)
    · rcases List.mem_cons.mp hy with rfl | hy
      · obtain ⟨k, hk, rfl⟩ := mem_nth hx
        have h1 := hxu k (by omega)
        rw [nth_app1 u1 u2 hk] at h1
        have h2 := t3 (a + k) (by omega) (by omega)
        rw [h1] at h2
        exact h2.mpr (by omega)
      · exact s3 x hx y hy
  · refine hb2.trans ?_
    show L_slices_symMergeCmpFunc_Row_4 _ _ _ _ _ _ = _
    simp only [List.length_append] at *
    rw [show p ++ (u1 ++ u2 ++ c :: s) = p ++ u1 ++ (u2 ++ c :: s) by simp, down_ok _ _ _ u2.length u2 c (p ++ u1) s m t rfl (by simp only [List.length_append, List.length_cons]; omega) (by simp; omega) (by simp; omega)]
    simp
end Go.Proofs.Ytbmafhpbinjgaaa.Vai
