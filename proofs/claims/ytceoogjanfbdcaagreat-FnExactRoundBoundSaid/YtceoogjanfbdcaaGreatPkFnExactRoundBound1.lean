/- What the law of this claim leans on; no condition. -/
import Derived.Test.YtceoogjanfbdcaaGreatEnv
import Derived.Test.YtceoogjanfbdcaaGreatVaiD
namespace Go.Proofs.YtceoogjanfbdcaaGreat.Vai
open Go
set_option linter.unusedSimpArgs false
set_option linter.unusedVariables false
set_option linter.unnecessarySimpa false
abbrev f_impl_equal : FuncId := 80
abbrev f_impl_within : FuncId := 65
abbrev f_impl_IsValidRow : FuncId := 224
abbrev f_impl_allValid : FuncId := 177
abbrev f_impl_AreValidRows : FuncId := 99
abbrev f_impl_RowCost : FuncId := 211
abbrev f_impl_TotalCost : FuncId := 196
abbrev f_impl_runCost : FuncId := 197
abbrev f_impl_SorterMemory : FuncId := 120
abbrev f_impl_order : FuncId := 227
abbrev f_impl_CompareRows : FuncId := 179
abbrev f_impl_IsSorted : FuncId := 171
abbrev f_impl_AreValidRuns : FuncId := 170
abbrev f_impl_below : FuncId := 172
abbrev f_impl_FlattenRuns : FuncId := 173
abbrev f_impl_clone : FuncId := 136
abbrev f_slices_insertionSortCmpFunc_Row : FuncId := 241
abbrev f_slices_swapRangeCmpFunc_Row : FuncId := 270
abbrev f_slices_rotateCmpFunc_Row : FuncId := 258
abbrev f_slices_symMergeCmpFunc_Row : FuncId := 242
abbrev f_slices_stableCmpFunc_Row : FuncId := 226
abbrev f_slices_SortStableFunc_Row : FuncId := 178
abbrev f_impl_SortRows : FuncId := 101
abbrev f_impl_EqualBags : FuncId := 174
abbrev f_impl_together : FuncId := 175
abbrev f_impl_MergeSorted : FuncId := 176
abbrev f_impl_IsValidSorter : FuncId := 98
abbrev f_impl_isGrant : FuncId := 137
abbrev f_spec_l1In : FuncId := 71
abbrev f_spec_IsValidRow : FuncId := 169
abbrev f_spec_AreValidRows : FuncId := 96
abbrev f_spec_CompareRows : FuncId := 84
abbrev f_spec_SortRows : FuncId := 21
abbrev f_spec_l6Rows : FuncId := 83
abbrev f_spec_l13Row : FuncId := 150
abbrev f_spec_RowCost : FuncId := 147
abbrev f_spec_TotalCost : FuncId := 195
abbrev f_spec_SorterMemory : FuncId := 119
abbrev f_spec_IsSorted : FuncId := 165
abbrev f_spec_AreValidRuns : FuncId := 164
abbrev f_spec_FlattenRuns : FuncId := 166
abbrev f_spec_EqualBags : FuncId := 167
abbrev f_spec_MergeSorted : FuncId := 168
abbrev f_spec_IsValidSorter : FuncId := 95
abbrev f_laws_szRowS : FuncId := 32
abbrev f_laws_toRow : FuncId := 103
abbrev f_laws_toRowS : FuncId := 33
abbrev f_laws_eqRow : FuncId := 104
abbrev f_laws_eqRowS : FuncId := 35
abbrev f_laws_szClientS : FuncId := 180
abbrev f_laws_szBroker : FuncId := 105
abbrev f_laws_szRun : FuncId := 271
abbrev f_laws_szRunS : FuncId := 259
abbrev f_laws_szSorter : FuncId := 243
abbrev f_laws_szBoolS : FuncId := 280
abbrev f_laws_szTask : FuncId := 272
abbrev f_laws_szTaskS : FuncId := 260
abbrev f_laws_szJoiner : FuncId := 244
abbrev f_laws_szGroupTask : FuncId := 273
abbrev f_laws_szGroupTaskS : FuncId := 261
abbrev f_laws_szAggregator : FuncId := 245
abbrev f_laws_szOp : FuncId := 228
abbrev f_laws_szPairS : FuncId := 246
abbrev f_laws_szGroupS : FuncId := 247
abbrev f_laws_szOutput : FuncId := 229
abbrev f_laws_szSlot : FuncId := 181
abbrev f_laws_szSlotS : FuncId := 106
abbrev f_laws_szSystem : FuncId := 40
abbrev f_spec_l10Room : FuncId := 182
abbrev f_spec_IsValidBroker : FuncId := 107
abbrev f_spec_l10At : FuncId := 108
abbrev f_spec_IsValidJoinKind : FuncId := 248
abbrev f_spec_IsValidTask : FuncId := 230
abbrev f_spec_IsValidJoiner : FuncId := 183
abbrev f_spec_IsValidAggregator : FuncId := 184
abbrev f_spec_l30OpOk : FuncId := 109
abbrev f_spec_IsOpDone : FuncId := 110
abbrev f_spec_IsValidSystem : FuncId := 41
abbrev f_laws_toClient : FuncId := 231
abbrev f_laws_toClientS : FuncId := 185
abbrev f_laws_toBroker : FuncId := 111
abbrev f_laws_toRun : FuncId := 274
abbrev f_laws_toRunS : FuncId := 262
abbrev f_laws_toSorter : FuncId := 249
abbrev f_laws_toBoolS : FuncId := 281
abbrev f_laws_toTask : FuncId := 275
abbrev f_laws_toTaskS : FuncId := 263
abbrev f_laws_toJoiner : FuncId := 250
abbrev f_laws_toGroupTask : FuncId := 276
abbrev f_laws_toGroupTaskS : FuncId := 264
abbrev f_laws_toAggregator : FuncId := 251
abbrev f_laws_toOp : FuncId := 232
abbrev f_laws_toPair : FuncId := 265
abbrev f_laws_toPairS : FuncId := 252
abbrev f_laws_toGroup : FuncId := 266
abbrev f_laws_toGroupS : FuncId := 253
abbrev f_laws_toOutput : FuncId := 233
abbrev f_laws_toSlot : FuncId := 186
abbrev f_laws_toSlotS : FuncId := 112
abbrev f_laws_toSystem : FuncId := 42
abbrev f_slices_IndexFunc_Client : FuncId := 189
abbrev f_impl_clientAt : FuncId := 114
abbrev f_impl_rightClients : FuncId := 187
abbrev f_impl_room : FuncId := 188
abbrev f_impl_IsValidBroker : FuncId := 113
abbrev f_impl_IsValidJoinKind : FuncId := 254
abbrev f_impl_IsValidTask : FuncId := 234
abbrev f_impl_IsValidJoiner : FuncId := 191
abbrev f_impl_IsValidAggregator : FuncId := 192
abbrev f_impl_validOp : FuncId := 115
abbrev f_impl_IsOpDone : FuncId := 116
abbrev f_impl_IsValidSystem : FuncId := 43
abbrev f_laws_eqClient : FuncId := 235
abbrev f_laws_eqClientS : FuncId := 193
abbrev f_laws_eqBroker : FuncId := 117
abbrev f_laws_eqPair : FuncId := 202
abbrev f_laws_eqPairS : FuncId := 127
abbrev f_laws_eqGroup : FuncId := 203
abbrev f_laws_eqGroupS : FuncId := 128
abbrev f_laws_eqOutput : FuncId := 55
abbrev f_laws_eqRun : FuncId := 277
abbrev f_laws_eqRunS : FuncId := 267
abbrev f_laws_eqSorter : FuncId := 255
abbrev f_laws_eqBoolS : FuncId := 282
abbrev f_laws_eqTask : FuncId := 278
abbrev f_laws_eqTaskS : FuncId := 268
abbrev f_laws_eqJoiner : FuncId := 256
abbrev f_laws_eqGroupTask : FuncId := 279
abbrev f_laws_eqGroupTaskS : FuncId := 269
abbrev f_laws_eqAggregator : FuncId := 257
abbrev f_laws_eqOp : FuncId := 236
abbrev f_laws_eqSlot : FuncId := 194
abbrev f_laws_eqSlotS : FuncId := 118
abbrev f_laws_eqSystem : FuncId := 44
abbrev f_spec_MergePasses : FuncId := 237
abbrev f_spec_SortStepBound : FuncId := 198
abbrev f_spec_JoinStepBound : FuncId := 199
abbrev f_spec_GroupStepBound : FuncId := 200
abbrev f_spec_l31Steps : FuncId := 121
abbrev f_spec_RoundBound : FuncId := 51
abbrev f_impl_MergePasses : FuncId := 201
abbrev f_impl_SortStepBound : FuncId := 122
abbrev f_impl_JoinStepBound : FuncId := 123
abbrev f_impl_GroupStepBound : FuncId := 124
abbrev f_impl_RoundBound : FuncId := 52
abbrev f_laws_FnExactRoundBound : FuncId := 11
abbrev f_impl_clientAt_1 : FuncId := 190
end Go.Proofs.YtceoogjanfbdcaaGreat.Vai
namespace Go.Proofs.YtceoogjanfbdcaaGreat.Vai
open Go
set_option linter.unusedSimpArgs false
set_option linter.unusedVariables false
set_option linter.unnecessarySimpa false
set_option maxRecDepth 100000
noncomputable def L_slices_insertionSortCmpFunc_Row_0 (x0 : Int) (x1 : Int) (x2 : Int) (x3 : List (List Dat)) : Option (List Dat) := loopK tE f_slices_insertionSortCmpFunc_Row 0 ⟨[(0, (.own (1000000, 0))), (1, (.i .i64 x0)), (2, (.i .i64 x1)), (3, (.fn 179 [])), (8, (.i .i64 x2))], [((1000000, 0), (.row 105 x3 Bool.true 0 []))]⟩
noncomputable def L_slices_insertionSortCmpFunc_Row_1 (x0 : Int) (x1 : Int) (x2 : Int) (x3 : Int) (x4 : List (List Dat)) : Option (List Dat) := loopK tE f_slices_insertionSortCmpFunc_Row 1 ⟨[(0, (.own (1000000, 0))), (1, (.i .i64 x0)), (2, (.i .i64 x1)), (3, (.fn 179 [])), (8, (.i .i64 x2)), (9, (.i .i64 x3))], [((1000000, 0), (.row 105 x4 Bool.true 0 []))]⟩
theorem L_slices_insertionSortCmpFunc_Row_0_eq (x0 : Int) (x1 : Int) (x2 : Int) (x3 : List (List Dat)) : L_slices_insertionSortCmpFunc_Row_0 x0 x1 x2 x3 = (bif (ltI x2 x1) then (L_slices_insertionSortCmpFunc_Row_1 x0 x1 x2 x2 x3) else (some [(.sl x3)])) := (loopK_run (by kernel_rfl)).trans (by kernel_rfl)
theorem L_slices_insertionSortCmpFunc_Row_1_eq (x0 : Int) (x1 : Int) (x2 : Int) (x3 : Int) (x4 : List (List Dat)) : L_slices_insertionSortCmpFunc_Row_1 x0 x1 x2 x3 x4 = (bif (ltI x0 x3) then (bif (inR x3 (lenI x4)) then (bif (inR (w64 (x3 - 1)) (lenI x4)) then (((callI tE f_impl_CompareRows [(.int (gn (at' x4 (tn x3)))), (.int (gn (tk 1 (at' x4 (tn x3))))), (.int (gn (tk 2 (at' x4 (tn x3))))), (.int (gn (at' x4 (tn (w64 (x3 - 1)))))), (.int (gn (tk 1 (at' x4 (tn (w64 (x3 - 1))))))), (.int (gn (tk 2 (at' x4 (tn (w64 (x3 - 1)))))))])).bind (fun r0 => (bif (ltI (gn r0) 0) then (bif (inR (w64 (x3 - 1)) (lenI x4)) then (bif (inR x3 (lenI x4)) then (bif (inR x3 (lenI x4)) then (bif (inR (w64 (x3 - 1)) (lenI (updR x4 (tn x3) 0 [(.int (gn (at' x4 (tn (w64 (x3 - 1)))))), (.int (gn (tk 1 (at' x4 (tn (w64 (x3 - 1))))))), (.int (gn (tk 2 (at' x4 (tn (w64 (x3 - 1)))))))]))) then (L_slices_insertionSortCmpFunc_Row_1 x0 x1 x2 (w64 (x3 - 1)) (updR (updR x4 (tn x3) 0 [(.int (gn (at' x4 (tn (w64 (x3 - 1)))))), (.int (gn (tk 1 (at' x4 (tn (w64 (x3 - 1))))))), (.int (gn (tk 2 (at' x4 (tn (w64 (x3 - 1)))))))]) (tn (w64 (x3 - 1))) 0 [(.int (gn (at' x4 (tn x3)))), (.int (gn (tk 1 (at' x4 (tn x3))))), (.int (gn (tk 2 (at' x4 (tn x3)))))])) else none) else none) else none) else none) else (L_slices_insertionSortCmpFunc_Row_0 x0 x1 (w64 (x2 + 1)) x4)))) else none) else none) else (L_slices_insertionSortCmpFunc_Row_0 x0 x1 (w64 (x2 + 1)) x4)) := (loopK_run (by kernel_rfl)).trans (by kernel_rfl)
theorem c_slices_insertionSortCmpFunc_Row (a0 : List (List Dat)) (a1 : Int) (a2 : Int) : callI tE f_slices_insertionSortCmpFunc_Row [.sl a0, .int a1, .int a2] = (L_slices_insertionSortCmpFunc_Row_0 a1 a2 (w64 (a1 + 1)) a0) := (callI_run rfl (by kernel_rfl)).trans (by kernel_rfl)
noncomputable def L_slices_swapRangeCmpFunc_Row_0 (x0 : Int) (x1 : Int) (x2 : Int) (x3 : Int) (x4 : List (List Dat)) : Option (List Dat) := loopK tE f_slices_swapRangeCmpFunc_Row 0 ⟨[(0, (.own (1000000, 0))), (1, (.i .i64 x0)), (2, (.i .i64 x1)), (3, (.i .i64 x2)), (10, (.i .i64 x3))], [((1000000, 0), (.row 105 x4 Bool.true 0 []))]⟩
theorem L_slices_swapRangeCmpFunc_Row_0_eq (x0 : Int) (x1 : Int) (x2 : Int) (x3 : Int) (x4 : List (List Dat)) : L_slices_swapRangeCmpFunc_Row_0 x0 x1 x2 x3 x4 = (bif (ltI x3 x2) then (bif (inR (w64 (x1 + x3)) (lenI x4)) then (bif (inR (w64 (x0 + x3)) (lenI x4)) then (bif (inR (w64 (x0 + x3)) (lenI x4)) then (bif (inR (w64 (x1 + x3)) (lenI (updR x4 (tn (w64 (x0 + x3))) 0 [(.int (gn (at' x4 (tn (w64 (x1 + x3)))))), (.int (gn (tk 1 (at' x4 (tn (w64 (x1 + x3))))))), (.int (gn (tk 2 (at' x4 (tn (w64 (x1 + x3)))))))]))) then (L_slices_swapRangeCmpFunc_Row_0 x0 x1 x2 (w64 (x3 + 1)) (updR (updR x4 (tn (w64 (x0 + x3))) 0 [(.int (gn (at' x4 (tn (w64 (x1 + x3)))))), (.int (gn (tk 1 (at' x4 (tn (w64 (x1 + x3))))))), (.int (gn (tk 2 (at' x4 (tn (w64 (x1 + x3)))))))]) (tn (w64 (x1 + x3))) 0 [(.int (gn (at' x4 (tn (w64 (x0 + x3)))))), (.int (gn (tk 1 (at' x4 (tn (w64 (x0 + x3))))))), (.int (gn (tk 2 (at' x4 (tn (w64 (x0 + x3)))))))])) else none) else none) else none) else none) else (some [(.sl x4)])) := (loopK_run (by kernel_rfl)).trans (by kernel_rfl)
theorem c_slices_swapRangeCmpFunc_Row (a0 : List (List Dat)) (a1 : Int) (a2 : Int) (a3 : Int) : callI tE f_slices_swapRangeCmpFunc_Row [.sl a0, .int a1, .int a2, .int a3] = (L_slices_swapRangeCmpFunc_Row_0 a1 a2 a3 0 a0) := (callI_run rfl (by kernel_rfl)).trans (by kernel_rfl)
noncomputable def L_slices_rotateCmpFunc_Row_0 (x0 : Int) (x1 : Int) (x2 : Int) (x3 : Int) (x4 : Int) (x5 : List (List Dat)) : Option (List Dat) := loopK tE f_slices_rotateCmpFunc_Row 0 ⟨[(0, (.own (1000000, 0))), (1, (.i .i64 x0)), (2, (.i .i64 x1)), (3, (.i .i64 x2)), (4, (.fn 179 [])), (10, (.i .i64 x3)), (11, (.i .i64 x4))], [((1000000, 0), (.row 105 x5 Bool.true 0 []))]⟩
theorem L_slices_rotateCmpFunc_Row_0_eq (x0 : Int) (x1 : Int) (x2 : Int) (x3 : Int) (x4 : Int) (x5 : List (List Dat)) : L_slices_rotateCmpFunc_Row_0 x0 x1 x2 x3 x4 x5 = (bif (!(eqI x3 x4)) then (bif (ltI x4 x3) then (((callI tE f_slices_swapRangeCmpFunc_Row [(.sl x5), (.int (w64 (x1 - x3))), (.int x1), (.int x4)])).bind (fun r0 => (L_slices_rotateCmpFunc_Row_0 x0 x1 x2 (w64 (x3 - x4)) x4 (gl r0)))) else (((callI tE f_slices_swapRangeCmpFunc_Row [(.sl x5), (.int (w64 (x1 - x3))), (.int (w64 ((w64 (x1 + x4)) - x3))), (.int x3)])).bind (fun r0 => (L_slices_rotateCmpFunc_Row_0 x0 x1 x2 x3 (w64 (x4 - x3)) (gl r0))))) else (((callI tE f_slices_swapRangeCmpFunc_Row [(.sl x5), (.int (w64 (x1 - x3))), (.int x1), (.int x3)])).bind (fun r0 => (some [(.sl (gl r0))])))) := (loopK_run (by kernel_rfl)).trans (by kernel_rfl)
theorem c_slices_rotateCmpFunc_Row (a0 : List (List Dat)) (a1 : Int) (a2 : Int) (a3 : Int) : callI tE f_slices_rotateCmpFunc_Row [.sl a0, .int a1, .int a2, .int a3] = (L_slices_rotateCmpFunc_Row_0 a1 a2 a3 (w64 (a2 - a1)) (w64 (a3 - a2)) a0) := (callI_run rfl (by kernel_rfl)).trans (by kernel_rfl)
noncomputable def L_slices_symMergeCmpFunc_Row_0 (x0 : Int) (x1 : Int) (x2 : Int) (x3 : Int) (x4 : Int) (x5 : List (List Dat)) : Option (List Dat) := loopK tE f_slices_symMergeCmpFunc_Row 0 ⟨[(0, (.own (1000000, 0))), (1, (.i .i64 x0)), (2, (.i .i64 x1)), (3, (.i .i64 x2)), (4, (.fn 179 [])), (10, (.i .i64 x3)), (11, (.i .i64 x4))], [((1000000, 0), (.row 105 x5 Bool.true 0 []))]⟩
noncomputable def L_slices_symMergeCmpFunc_Row_1 (x0 : Int) (x1 : Int) (x2 : Int) (x3 : Int) (x4 : Int) (x5 : List (List Dat)) : Option (List Dat) := loopK tE f_slices_symMergeCmpFunc_Row 2 ⟨[(0, (.own (1000000, 0))), (1, (.i .i64 x0)), (2, (.i .i64 x1)), (3, (.i .i64 x2)), (4, (.fn 179 [])), (14, (.i .i64 x3)), (15, (.i .i64 x4))], [((1000000, 0), (.row 105 x5 Bool.true 0 []))]⟩
noncomputable def L_slices_symMergeCmpFunc_Row_2 (x0 : Int) (x1 : Int) (x2 : Int) (x3 : Int) (x4 : Int) (x5 : Int) (x6 : Int) (x7 : Int) (x8 : List (List Dat)) : Option (List Dat) := loopK tE f_slices_symMergeCmpFunc_Row 4 ⟨[(0, (.own (1000000, 0))), (1, (.i .i64 x0)), (2, (.i .i64 x1)), (3, (.i .i64 x2)), (4, (.fn 179 [])), (18, (.i .i64 x3)), (19, (.i .i64 x4)), (20, (.i .i64 x5)), (21, (.i .i64 x6)), (22, (.i .i64 x7))], [((1000000, 0), (.row 105 x8 Bool.true 0 []))]⟩
noncomputable def L_slices_symMergeCmpFunc_Row_3 (x0 : Int) (x1 : Int) (x2 : Int) (x3 : Int) (x4 : Int) (x5 : List (List Dat)) : Option (List Dat) := loopK tE f_slices_symMergeCmpFunc_Row 1 ⟨[(0, (.own (1000000, 0))), (1, (.i .i64 x0)), (2, (.i .i64 x1)), (3, (.i .i64 x2)), (10, (.i .i64 x3)), (13, (.i .i64 x4))], [((1000000, 0), (.row 105 x5 Bool.true 0 []))]⟩
noncomputable def L_slices_symMergeCmpFunc_Row_4 (x0 : Int) (x1 : Int) (x2 : Int) (x3 : Int) (x4 : Int) (x5 : List (List Dat)) : Option (List Dat) := loopK tE f_slices_symMergeCmpFunc_Row 3 ⟨[(0, (.own (1000000, 0))), (1, (.i .i64 x0)), (2, (.i .i64 x1)), (3, (.i .i64 x2)), (14, (.i .i64 x3)), (17, (.i .i64 x4))], [((1000000, 0), (.row 105 x5 Bool.true 0 []))]⟩
theorem L_slices_symMergeCmpFunc_Row_0_eq (x0 : Int) (x1 : Int) (x2 : Int) (x3 : Int) (x4 : Int) (x5 : List (List Dat)) : L_slices_symMergeCmpFunc_Row_0 x0 x1 x2 x3 x4 x5 = (bif (ltI x3 x4) then (bif (inR (w64 ((Go.IntKind.wrap .u64 (w64 (x3 + x4))) / (Int.pow 2 (ite ((tn 1) ≤ (Go.IntKind.bits .u64)) (tn 1) 64)))) (lenI x5)) then (bif (inR x0 (lenI x5)) then (((callI tE f_impl_CompareRows [(.int (gn (at' x5 (tn (w64 ((Go.IntKind.wrap .u64 (w64 (x3 + x4))) / (Int.pow 2 (ite ((tn 1) ≤ (Go.IntKind.bits .u64)) (tn 1) 64)))))))), (.int (gn (tk 1 (at' x5 (tn (w64 ((Go.IntKind.wrap .u64 (w64 (x3 + x4))) / (Int.pow 2 (ite ((tn 1) ≤ (Go.IntKind.bits .u64)) (tn 1) 64))))))))), (.int (gn (tk 2 (at' x5 (tn (w64 ((Go.IntKind.wrap .u64 (w64 (x3 + x4))) / (Int.pow 2 (ite ((tn 1) ≤ (Go.IntKind.bits .u64)) (tn 1) 64))))))))), (.int (gn (at' x5 (tn x0)))), (.int (gn (tk 1 (at' x5 (tn x0))))), (.int (gn (tk 2 (at' x5 (tn x0)))))])).bind (fun r0 => (bif (ltI (gn r0) 0) then (L_slices_symMergeCmpFunc_Row_0 x0 x1 x2 (w64 ((w64 ((Go.IntKind.wrap .u64 (w64 (x3 + x4))) / (Int.pow 2 (ite ((tn 1) ≤ (Go.IntKind.bits .u64)) (tn 1) 64)))) + 1)) x4 x5) else (L_slices_symMergeCmpFunc_Row_0 x0 x1 x2 x3 (w64 ((Go.IntKind.wrap .u64 (w64 (x3 + x4))) / (Int.pow 2 (ite ((tn 1) ≤ (Go.IntKind.bits .u64)) (tn 1) 64)))) x5)))) else none) else none) else (L_slices_symMergeCmpFunc_Row_3 x0 x1 x2 x3 x0 x5)) := (loopK_run (by kernel_rfl)).trans (by kernel_rfl)
theorem L_slices_symMergeCmpFunc_Row_1_eq (x0 : Int) (x1 : Int) (x2 : Int) (x3 : Int) (x4 : Int) (x5 : List (List Dat)) : L_slices_symMergeCmpFunc_Row_1 x0 x1 x2 x3 x4 x5 = (bif (ltI x3 x4) then (bif (inR x1 (lenI x5)) then (bif (inR (w64 ((Go.IntKind.wrap .u64 (w64 (x3 + x4))) / (Int.pow 2 (ite ((tn 1) ≤ (Go.IntKind.bits .u64)) (tn 1) 64)))) (lenI x5)) then (((callI tE f_impl_CompareRows [(.int (gn (at' x5 (tn x1)))), (.int (gn (tk 1 (at' x5 (tn x1))))), (.int (gn (tk 2 (at' x5 (tn x1))))), (.int (gn (at' x5 (tn (w64 ((Go.IntKind.wrap .u64 (w64 (x3 + x4))) / (Int.pow 2 (ite ((tn 1) ≤ (Go.IntKind.bits .u64)) (tn 1) 64)))))))), (.int (gn (tk 1 (at' x5 (tn (w64 ((Go.IntKind.wrap .u64 (w64 (x3 + x4))) / (Int.pow 2 (ite ((tn 1) ≤ (Go.IntKind.bits .u64)) (tn 1) 64))))))))), (.int (gn (tk 2 (at' x5 (tn (w64 ((Go.IntKind.wrap .u64 (w64 (x3 + x4))) / (Int.pow 2 (ite ((tn 1) ≤ (Go.IntKind.bits .u64)) (tn 1) 64)))))))))])).bind (fun r0 => (bif (!(ltI (gn r0) 0)) then (L_slices_symMergeCmpFunc_Row_1 x0 x1 x2 (w64 ((w64 ((Go.IntKind.wrap .u64 (w64 (x3 + x4))) / (Int.pow 2 (ite ((tn 1) ≤ (Go.IntKind.bits .u64)) (tn 1) 64)))) + 1)) x4 x5) else (L_slices_symMergeCmpFunc_Row_1 x0 x1 x2 x3 (w64 ((Go.IntKind.wrap .u64 (w64 (x3 + x4))) / (Int.pow 2 (ite ((tn 1) ≤ (Go.IntKind.bits .u64)) (tn 1) 64)))) x5)))) else none) else none) else (L_slices_symMergeCmpFunc_Row_4 x0 x1 x2 x3 x1 x5)) := (loopK_run (by kernel_rfl)).trans (by kernel_rfl)
theorem L_slices_symMergeCmpFunc_Row_2_eq (x0 : Int) (x1 : Int) (x2 : Int) (x3 : Int) (x4 : Int) (x5 : Int) (x6 : Int) (x7 : Int) (x8 : List (List Dat)) : L_slices_symMergeCmpFunc_Row_2 x0 x1 x2 x3 x4 x5 x6 x7 x8 = (bif (ltI x5 x6) then (bif (inR (w64 (x7 - (w64 ((Go.IntKind.wrap .u64 (w64 (x5 + x6))) / (Int.pow 2 (ite ((tn 1) ≤ (Go.IntKind.bits .u64)) (tn 1) 64)))))) (lenI x8)) then (bif (inR (w64 ((Go.IntKind.wrap .u64 (w64 (x5 + x6))) / (Int.pow 2 (ite ((tn 1) ≤ (Go.IntKind.bits .u64)) (tn 1) 64)))) (lenI x8)) then (((callI tE f_impl_CompareRows [(.int (gn (at' x8 (tn (w64 (x7 - (w64 ((Go.IntKind.wrap .u64 (w64 (x5 + x6))) / (Int.pow 2 (ite ((tn 1) ≤ (Go.IntKind.bits .u64)) (tn 1) 64)))))))))), (.int (gn (tk 1 (at' x8 (tn (w64 (x7 - (w64 ((Go.IntKind.wrap .u64 (w64 (x5 + x6))) / (Int.pow 2 (ite ((tn 1) ≤ (Go.IntKind.bits .u64)) (tn 1) 64))))))))))), (.int (gn (tk 2 (at' x8 (tn (w64 (x7 - (w64 ((Go.IntKind.wrap .u64 (w64 (x5 + x6))) / (Int.pow 2 (ite ((tn 1) ≤ (Go.IntKind.bits .u64)) (tn 1) 64))))))))))), (.int (gn (at' x8 (tn (w64 ((Go.IntKind.wrap .u64 (w64 (x5 + x6))) / (Int.pow 2 (ite ((tn 1) ≤ (Go.IntKind.bits .u64)) (tn 1) 64)))))))), (.int (gn (tk 1 (at' x8 (tn (w64 ((Go.IntKind.wrap .u64 (w64 (x5 + x6))) / (Int.pow 2 (ite ((tn 1) ≤ (Go.IntKind.bits .u64)) (tn 1) 64))))))))), (.int (gn (tk 2 (at' x8 (tn (w64 ((Go.IntKind.wrap .u64 (w64 (x5 + x6))) / (Int.pow 2 (ite ((tn 1) ≤ (Go.IntKind.bits .u64)) (tn 1) 64)))))))))])).bind (fun r0 => (bif (!(ltI (gn r0) 0)) then (L_slices_symMergeCmpFunc_Row_2 x0 x1 x2 x3 x4 (w64 ((w64 ((Go.IntKind.wrap .u64 (w64 (x5 + x6))) / (Int.pow 2 (ite ((tn 1) ≤ (Go.IntKind.bits .u64)) (tn 1) 64)))) + 1)) x6 x7 x8) else (L_slices_symMergeCmpFunc_Row_2 x0 x1 x2 x3 x4 x5 (w64 ((Go.IntKind.wrap .u64 (w64 (x5 + x6))) / (Int.pow 2 (ite ((tn 1) ≤ (Go.IntKind.bits .u64)) (tn 1) 64)))) x7 x8)))) else none) else none) else (bif (ltI x5 x1) then (bif (ltI x1 (w64 (x4 - x5))) then (((callI tE f_slices_rotateCmpFunc_Row [(.sl x8), (.int x5), (.int x1), (.int (w64 (x4 - x5)))])).bind (fun r0 => (bif (ltI x0 x5) then (bif (ltI x5 x3) then (((callI tE f_slices_symMergeCmpFunc_Row [(.sl (gl r0)), (.int x0), (.int x5), (.int x3)])).bind (fun r1 => (bif (ltI x3 (w64 (x4 - x5))) then (bif (ltI (w64 (x4 - x5)) x2) then (((callI tE f_slices_symMergeCmpFunc_Row [(.sl (gl r1)), (.int x3), (.int (w64 (x4 - x5))), (.int x2)])).bind (fun r2 => (some [(.sl (gl r2))]))) else (some [(.sl (gl r1))])) else (some [(.sl (gl r1))])))) else (bif (ltI x3 (w64 (x4 - x5))) then (bif (ltI (w64 (x4 - x5)) x2) then (((callI tE f_slices_symMergeCmpFunc_Row [(.sl (gl r0)), (.int x3), (.int (w64 (x4 - x5))), (.int x2)])).bind (fun r1 => (some [(.sl (gl r1))]))) else (some [(.sl (gl r0))])) else (some [(.sl (gl r0))]))) else (bif (ltI x3 (w64 (x4 - x5))) then (bif (ltI (w64 (x4 - x5)) x2) then (((callI tE f_slices_symMergeCmpFunc_Row [(.sl (gl r0)), (.int x3), (.int (w64 (x4 - x5))), (.int x2)])).bind (fun r1 => (some [(.sl (gl r1))]))) else (some [(.sl (gl r0))])) else (some [(.sl (gl r0))]))))) else (bif (ltI x0 x5) then (bif (ltI x5 x3) then (((callI tE f_slices_symMergeCmpFunc_Row [(.sl x8), (.int x0), (.int x5), (.int x3)])).bind (fun r0 => (bif (ltI x3 (w64 (x4 - x5))) then (bif (ltI (w64 (x4 - x5)) x2) then (((callI tE f_slices_symMergeCmpFunc_Row [(.sl (gl r0)), (.int x3), (.int (w64 (x4 - x5))), (.int x2)])).bind (fun r1 => (some [(.sl (gl r1))]))) else (some [(.sl (gl r0))])) else (some [(.sl (gl r0))])))) else (bif (ltI x3 (w64 (x4 - x5))) then (bif (ltI (w64 (x4 - x5)) x2) then (((callI tE f_slices_symMergeCmpFunc_Row [(.sl x8), (.int x3), (.int (w64 (x4 - x5))), (.int x2)])).bind (fun r0 => (some [(.sl (gl r0))]))) else (some [(.sl x8)])) else (some [(.sl x8)]))) else (bif (ltI x3 (w64 (x4 - x5))) then (bif (ltI (w64 (x4 - x5)) x2) then (((callI tE f_slices_symMergeCmpFunc_Row [(.sl x8), (.int x3), (.int (w64 (x4 - x5))), (.int x2)])).bind (fun r0 => (some [(.sl (gl r0))]))) else (some [(.sl x8)])) else (some [(.sl x8)])))) else (bif (ltI x0 x5) then (bif (ltI x5 x3) then (((callI tE f_slices_symMergeCmpFunc_Row [(.sl x8), (.int x0), (.int x5), (.int x3)])).bind (fun r0 => (bif (ltI x3 (w64 (x4 - x5))) then (bif (ltI (w64 (x4 - x5)) x2) then (((callI tE f_slices_symMergeCmpFunc_Row [(.sl (gl r0)), (.int x3), (.int (w64 (x4 - x5))), (.int x2)])).bind (fun r1 => (some [(.sl (gl r1))]))) else (some [(.sl (gl r0))])) else (some [(.sl (gl r0))])))) else (bif (ltI x3 (w64 (x4 - x5))) then (bif (ltI (w64 (x4 - x5)) x2) then (((callI tE f_slices_symMergeCmpFunc_Row [(.sl x8), (.int x3), (.int (w64 (x4 - x5))), (.int x2)])).bind (fun r0 => (some [(.sl (gl r0))]))) else (some [(.sl x8)])) else (some [(.sl x8)]))) else (bif (ltI x3 (w64 (x4 - x5))) then (bif (ltI (w64 (x4 - x5)) x2) then (((callI tE f_slices_symMergeCmpFunc_Row [(.sl x8), (.int x3), (.int (w64 (x4 - x5))), (.int x2)])).bind (fun r0 => (some [(.sl (gl r0))]))) else (some [(.sl x8)])) else (some [(.sl x8)]))))) := (loopK_run (by kernel_rfl)).trans (by kernel_rfl)
theorem L_slices_symMergeCmpFunc_Row_3_eq (x0 : Int) (x1 : Int) (x2 : Int) (x3 : Int) (x4 : Int) (x5 : List (List Dat)) : L_slices_symMergeCmpFunc_Row_3 x0 x1 x2 x3 x4 x5 = (bif (ltI x4 (w64 (x3 - 1))) then (bif (inR (w64 (x4 + 1)) (lenI x5)) then (bif (inR x4 (lenI x5)) then (bif (inR x4 (lenI x5)) then (bif (inR (w64 (x4 + 1)) (lenI (updR x5 (tn x4) 0 [(.int (gn (at' x5 (tn (w64 (x4 + 1)))))), (.int (gn (tk 1 (at' x5 (tn (w64 (x4 + 1))))))), (.int (gn (tk 2 (at' x5 (tn (w64 (x4 + 1)))))))]))) then (L_slices_symMergeCmpFunc_Row_3 x0 x1 x2 x3 (w64 (x4 + 1)) (updR (updR x5 (tn x4) 0 [(.int (gn (at' x5 (tn (w64 (x4 + 1)))))), (.int (gn (tk 1 (at' x5 (tn (w64 (x4 + 1))))))), (.int (gn (tk 2 (at' x5 (tn (w64 (x4 + 1)))))))]) (tn (w64 (x4 + 1))) 0 [(.int (gn (at' x5 (tn x4)))), (.int (gn (tk 1 (at' x5 (tn x4))))), (.int (gn (tk 2 (at' x5 (tn x4)))))])) else none) else none) else none) else none) else (some [(.sl x5)])) := (loopK_run (by kernel_rfl)).trans (by kernel_rfl)
theorem L_slices_symMergeCmpFunc_Row_4_eq (x0 : Int) (x1 : Int) (x2 : Int) (x3 : Int) (x4 : Int) (x5 : List (List Dat)) : L_slices_symMergeCmpFunc_Row_4 x0 x1 x2 x3 x4 x5 = (bif (ltI x3 x4) then (bif (inR (w64 (x4 - 1)) (lenI x5)) then (bif (inR x4 (lenI x5)) then (bif (inR x4 (lenI x5)) then (bif (inR (w64 (x4 - 1)) (lenI (updR x5 (tn x4) 0 [(.int (gn (at' x5 (tn (w64 (x4 - 1)))))), (.int (gn (tk 1 (at' x5 (tn (w64 (x4 - 1))))))), (.int (gn (tk 2 (at' x5 (tn (w64 (x4 - 1)))))))]))) then (L_slices_symMergeCmpFunc_Row_4 x0 x1 x2 x3 (w64 (x4 - 1)) (updR (updR x5 (tn x4) 0 [(.int (gn (at' x5 (tn (w64 (x4 - 1)))))), (.int (gn (tk 1 (at' x5 (tn (w64 (x4 - 1))))))), (.int (gn (tk 2 (at' x5 (tn (w64 (x4 - 1)))))))]) (tn (w64 (x4 - 1))) 0 [(.int (gn (at' x5 (tn x4)))), (.int (gn (tk 1 (at' x5 (tn x4))))), (.int (gn (tk 2 (at' x5 (tn x4)))))])) else none) else none) else none) else none) else (some [(.sl x5)])) := (loopK_run (by kernel_rfl)).trans (by kernel_rfl)
theorem c_slices_symMergeCmpFunc_Row (a0 : List (List Dat)) (a1 : Int) (a2 : Int) (a3 : Int) : callI tE f_slices_symMergeCmpFunc_Row [.sl a0, .int a1, .int a2, .int a3] = (bif (eqI (w64 (a2 - a1)) 1) then (L_slices_symMergeCmpFunc_Row_0 a1 a2 a3 a2 a3 a0) else (bif (eqI (w64 (a3 - a2)) 1) then (L_slices_symMergeCmpFunc_Row_1 a1 a2 a3 a1 a2 a0) else (bif (ltI (w64 ((Go.IntKind.wrap .u64 (w64 (a1 + a3))) / (Int.pow 2 (ite ((tn 1) ≤ (Go.IntKind.bits .u64)) (tn 1) 64)))) a2) then (L_slices_symMergeCmpFunc_Row_2 a1 a2 a3 (w64 ((Go.IntKind.wrap .u64 (w64 (a1 + a3))) / (Int.pow 2 (ite ((tn 1) ≤ (Go.IntKind.bits .u64)) (tn 1) 64)))) (w64 ((w64 ((Go.IntKind.wrap .u64 (w64 (a1 + a3))) / (Int.pow 2 (ite ((tn 1) ≤ (Go.IntKind.bits .u64)) (tn 1) 64)))) + a2)) (w64 ((w64 ((w64 ((Go.IntKind.wrap .u64 (w64 (a1 + a3))) / (Int.pow 2 (ite ((tn 1) ≤ (Go.IntKind.bits .u64)) (tn 1) 64)))) + a2)) - a3)) (w64 ((Go.IntKind.wrap .u64 (w64 (a1 + a3))) / (Int.pow 2 (ite ((tn 1) ≤ (Go.IntKind.bits .u64)) (tn 1) 64)))) (w64 ((w64 ((w64 ((Go.IntKind.wrap .u64 (w64 (a1 + a3))) / (Int.pow 2 (ite ((tn 1) ≤ (Go.IntKind.bits .u64)) (tn 1) 64)))) + a2)) - 1)) a0) else (L_slices_symMergeCmpFunc_Row_2 a1 a2 a3 (w64 ((Go.IntKind.wrap .u64 (w64 (a1 + a3))) / (Int.pow 2 (ite ((tn 1) ≤ (Go.IntKind.bits .u64)) (tn 1) 64)))) (w64 ((w64 ((Go.IntKind.wrap .u64 (w64 (a1 + a3))) / (Int.pow 2 (ite ((tn 1) ≤ (Go.IntKind.bits .u64)) (tn 1) 64)))) + a2)) a1 a2 (w64 ((w64 ((w64 ((Go.IntKind.wrap .u64 (w64 (a1 + a3))) / (Int.pow 2 (ite ((tn 1) ≤ (Go.IntKind.bits .u64)) (tn 1) 64)))) + a2)) - 1)) a0)))) := (callI_run rfl (by kernel_rfl)).trans (by kernel_rfl)
noncomputable def L_slices_stableCmpFunc_Row_0 (x0 : Int) (x1 : Int) (x2 : Int) (x3 : Int) (x4 : List (List Dat)) : Option (List Dat) := loopK tE f_slices_stableCmpFunc_Row 0 ⟨[(0, (.own (1000000, 0))), (1, (.i .i64 x0)), (2, (.fn 179 [])), (6, (.i .i64 x1)), (7, (.i .i64 x2)), (8, (.i .i64 x3))], [((1000000, 0), (.row 105 x4 Bool.true 0 []))]⟩
noncomputable def L_slices_stableCmpFunc_Row_1 (x0 : Int) (x1 : Int) (x2 : List (List Dat)) : Option (List Dat) := loopK tE f_slices_stableCmpFunc_Row 1 ⟨[(0, (.own (1000000, 0))), (1, (.i .i64 x0)), (2, (.fn 179 [])), (6, (.i .i64 x1))], [((1000000, 0), (.row 105 x2 Bool.true 0 []))]⟩
noncomputable def L_slices_stableCmpFunc_Row_2 (x0 : Int) (x1 : Int) (x2 : Int) (x3 : Int) (x4 : List (List Dat)) : Option (List Dat) := loopK tE f_slices_stableCmpFunc_Row 2 ⟨[(0, (.own (1000000, 0))), (1, (.i .i64 x0)), (2, (.fn 179 [])), (6, (.i .i64 x1)), (7, (.i .i64 x2)), (8, (.i .i64 x3))], [((1000000, 0), (.row 105 x4 Bool.true 0 []))]⟩
theorem L_slices_stableCmpFunc_Row_0_eq (x0 : Int) (x1 : Int) (x2 : Int) (x3 : Int) (x4 : List (List Dat)) : L_slices_stableCmpFunc_Row_0 x0 x1 x2 x3 x4 = (bif (leI x3 x0) then (((callI tE f_slices_insertionSortCmpFunc_Row [(.sl x4), (.int x2), (.int x3)])).bind (fun r0 => (L_slices_stableCmpFunc_Row_0 x0 x1 x3 (w64 (x3 + x1)) (gl r0)))) else (((callI tE f_slices_insertionSortCmpFunc_Row [(.sl x4), (.int x2), (.int x0)])).bind (fun r0 => (L_slices_stableCmpFunc_Row_1 x0 x1 (gl r0))))) := (loopK_run (by kernel_rfl)).trans (by kernel_rfl)
theorem L_slices_stableCmpFunc_Row_1_eq (x0 : Int) (x1 : Int) (x2 : List (List Dat)) : L_slices_stableCmpFunc_Row_1 x0 x1 x2 = (bif (ltI x1 x0) then (L_slices_stableCmpFunc_Row_2 x0 x1 0 (w64 (2 * x1)) x2) else (some [(.sl x2)])) := (loopK_run (by kernel_rfl)).trans (by kernel_rfl)
theorem L_slices_stableCmpFunc_Row_2_eq (x0 : Int) (x1 : Int) (x2 : Int) (x3 : Int) (x4 : List (List Dat)) : L_slices_stableCmpFunc_Row_2 x0 x1 x2 x3 x4 = (bif (leI x3 x0) then (((callI tE f_slices_symMergeCmpFunc_Row [(.sl x4), (.int x2), (.int (w64 (x2 + x1))), (.int x3)])).bind (fun r0 => (L_slices_stableCmpFunc_Row_2 x0 x1 x3 (w64 (x3 + (w64 (2 * x1)))) (gl r0)))) else (bif (ltI (w64 (x2 + x1)) x0) then (((callI tE f_slices_symMergeCmpFunc_Row [(.sl x4), (.int x2), (.int (w64 (x2 + x1))), (.int x0)])).bind (fun r0 => (L_slices_stableCmpFunc_Row_1 x0 (w64 (x1 * 2)) (gl r0)))) else (L_slices_stableCmpFunc_Row_1 x0 (w64 (x1 * 2)) x4))) := (loopK_run (by kernel_rfl)).trans (by kernel_rfl)
theorem c_slices_stableCmpFunc_Row (a0 : List (List Dat)) (a1 : Int) : callI tE f_slices_stableCmpFunc_Row [.sl a0, .int a1] = (L_slices_stableCmpFunc_Row_0 a1 20 0 20 a0) := (callI_run rfl (by kernel_rfl)).trans (by kernel_rfl)
theorem c_slices_SortStableFunc_Row (a0 : List (List Dat)) : callI tE f_slices_SortStableFunc_Row [.sl a0] = (((callI tE f_slices_stableCmpFunc_Row [(.sl a0), (.int (lenI a0))])).bind (fun r0 => (some [(.sl (gl r0))]))) := (callI_run rfl (by kernel_rfl)).trans (by kernel_rfl)
noncomputable def L_slices_IndexFunc_Client_0 (x0 : List (List Dat)) (x1 : Int) (x2 : Int) (x3 : Int) (x4 : Int) : Option (List Dat) := loopK tE f_slices_IndexFunc_Client 0 ⟨[(0, (.ro 211 Bool.false x0)), (1, (.fn 190 [(.ptr (2000002, 0) x1 0)])), (7, (.i .i64 x2)), (8, (.i .i64 x3))], [((2000002, 0), (.box 3 [(.i .i64 x4)]))]⟩
theorem L_slices_IndexFunc_Client_0_eq (x0 : List (List Dat)) (x1 : Int) (x2 : Int) (x3 : Int) (x4 : Int) : L_slices_IndexFunc_Client_0 x0 x1 x2 x3 x4 = (bif (ltI x3 x2) then (bif (inR x3 (lenI x0)) then (((callI tE f_impl_clientAt_1 [(.int (gn (at' x0 (tn x3)))), (.int (gn (tk 1 (at' x0 (tn x3))))), (.int (gn (tk 2 (at' x0 (tn x3))))), (.int x4)])).bind (fun r0 => (bif (gb r0) then (some [(.int x3), (.int (gn (List.drop 1 r0)))]) else (L_slices_IndexFunc_Client_0 x0 x1 x2 (w64 (x3 + 1)) (gn (List.drop 1 r0)))))) else none) else (some [(.int (-1)), (.int x4)])) := (loopK_run (by kernel_rfl)).trans (by kernel_rfl)
theorem c_slices_IndexFunc_Client (a0 : List (List Dat)) (a1 : Int) : callI tE f_slices_IndexFunc_Client [.sl a0, .int a1] = (L_slices_IndexFunc_Client_0 a0 0 (lenI a0) 0 a1) := (callI_run rfl (by kernel_rfl)).trans (by kernel_rfl)
end Go.Proofs.YtceoogjanfbdcaaGreat.Vai
namespace Go.Proofs.YtceoogjanfbdcaaGreat.Vai
open Go
set_option linter.unusedSimpArgs false
set_option linter.unusedVariables false
set_option linter.unnecessarySimpa false
set_option maxRecDepth 100000
noncomputable def L_impl_equal_0 (x0 : List (List Dat)) (x1 : List (List Dat)) (x2 : Int) (x3 : Int) : Option (List Dat) := loopK tE f_impl_equal 0 ⟨[(0, (.ro 105 Bool.false x0)), (1, (.ro 105 Bool.false x1)), (12, (.i .i64 x2)), (13, (.i .i64 x3))], []⟩
theorem L_impl_equal_0_eq (x0 : List (List Dat)) (x1 : List (List Dat)) (x2 : Int) (x3 : Int) : L_impl_equal_0 x0 x1 x2 x3 = (bif (ltI x3 x2) then (bif (inR x3 (lenI x0)) then (bif (inR x3 (lenI x1)) then (bif (!((eqI (gn (at' x0 (tn x3))) (gn (at' x1 (tn x3)))) && ((eqI (gn (tk 1 (at' x0 (tn x3)))) (gn (tk 1 (at' x1 (tn x3))))) && ((eqI (gn (tk 2 (at' x0 (tn x3)))) (gn (tk 2 (at' x1 (tn x3))))) && Bool.true)))) then (some [(.bool Bool.false)]) else (L_impl_equal_0 x0 x1 x2 (w64 (x3 + 1)))) else none) else none) else (some [(.bool Bool.true)])) := (loopK_run (by kernel_rfl)).trans (by kernel_rfl)
theorem c_impl_equal (a0 : List (List Dat)) (a1 : List (List Dat)) : callI tE f_impl_equal [.sl a0, .sl a1] = (bif (!(eqI (lenI a0) (lenI a1))) then (some [(.bool Bool.false)]) else (L_impl_equal_0 a0 a1 (lenI a0) 0)) := (callI_run rfl (by kernel_rfl)).trans (by kernel_rfl)
theorem c_impl_within (a0 : Int) (a1 : Int) (a2 : Int) : callI tE f_impl_within [.int a0, .int a1, .int a2] = (bif (leI a1 a0) then (some [(.bool (leI a0 a2))]) else (some [(.bool Bool.false)])) := (callI_run rfl (by kernel_rfl)).trans (by kernel_rfl)
theorem c_impl_IsValidRow (a0 : Int) (a1 : Int) (a2 : Int) : callI tE f_impl_IsValidRow [.int a0, .int a1, .int a2] = (((callI tE f_impl_within [(.int a0), (.int 0), (.int 9)])).bind (fun r0 => (bif (gb r0) then (((callI tE f_impl_within [(.int a1), (.int 0), (.int 99)])).bind (fun r1 => (bif (gb r1) then (((callI tE f_impl_within [(.int a2), (.int 0), (.int 3)])).bind (fun r2 => (some [(.bool (gb r2))]))) else (some [(.bool Bool.false)])))) else (some [(.bool Bool.false)])))) := (callI_run rfl (by kernel_rfl)).trans (by kernel_rfl)
noncomputable def L_impl_allValid_0 (x0 : List (List Dat)) (x1 : Int) (x2 : Int) : Option (List Dat) := loopK tE f_impl_allValid 0 ⟨[(5, (.ro 105 Bool.false x0)), (6, (.i .i64 x1)), (7, (.i .i64 x2))], []⟩
theorem L_impl_allValid_0_eq (x0 : List (List Dat)) (x1 : Int) (x2 : Int) : L_impl_allValid_0 x0 x1 x2 = (bif (ltI x2 x1) then (bif (inR x2 (lenI x0)) then (((callI tE f_impl_IsValidRow [(.int (gn (at' x0 (tn x2)))), (.int (gn (tk 1 (at' x0 (tn x2))))), (.int (gn (tk 2 (at' x0 (tn x2)))))])).bind (fun r0 => (bif (!(gb r0)) then (some [(.bool Bool.false)]) else (L_impl_allValid_0 x0 x1 (w64 (x2 + 1)))))) else none) else (some [(.bool Bool.true)])) := (loopK_run (by kernel_rfl)).trans (by kernel_rfl)
theorem c_impl_allValid (a0 : List (List Dat)) : callI tE f_impl_allValid [.sl a0] = (L_impl_allValid_0 a0 (lenI a0) 0) := (callI_run rfl (by kernel_rfl)).trans (by kernel_rfl)
theorem c_impl_AreValidRows (a0 : List (List Dat)) : callI tE f_impl_AreValidRows [.sl a0] = (bif (leI (lenI a0) 24) then (((callI tE f_impl_allValid [(.sl a0)])).bind (fun r0 => (some [(.bool (gb r0))]))) else (some [(.bool Bool.false)])) := (callI_run rfl (by kernel_rfl)).trans (by kernel_rfl)
theorem c_impl_RowCost (a0 : Int) (a1 : Int) (a2 : Int) : callI tE f_impl_RowCost [.int a0, .int a1, .int a2] = (((callI tE f_impl_IsValidRow [(.int a0), (.int a1), (.int a2)])).bind (fun r0 => (bif (!(gb r0)) then (some [(.int 0)]) else (some [(.int (w64 (1 + a2)))])))) := (callI_run rfl (by kernel_rfl)).trans (by kernel_rfl)
noncomputable def L_impl_TotalCost_0 (x0 : Int) (x1 : List (List Dat)) (x2 : Int) (x3 : Int) : Option (List Dat) := loopK tE f_impl_TotalCost 0 ⟨[(3, (.i .i64 x0)), (6, (.ro 105 Bool.false x1)), (7, (.i .i64 x2)), (8, (.i .i64 x3))], []⟩
theorem L_impl_TotalCost_0_eq (x0 : Int) (x1 : List (List Dat)) (x2 : Int) (x3 : Int) : L_impl_TotalCost_0 x0 x1 x2 x3 = (bif (ltI x3 x2) then (bif (inR x3 (lenI x1)) then (((callI tE f_impl_RowCost [(.int (gn (at' x1 (tn x3)))), (.int (gn (tk 1 (at' x1 (tn x3))))), (.int (gn (tk 2 (at' x1 (tn x3)))))])).bind (fun r0 => (L_impl_TotalCost_0 (w64 (x0 + (gn r0))) x1 x2 (w64 (x3 + 1))))) else none) else (some [(.int x0)])) := (loopK_run (by kernel_rfl)).trans (by kernel_rfl)
theorem c_impl_TotalCost (a0 : List (List Dat)) : callI tE f_impl_TotalCost [.sl a0] = (L_impl_TotalCost_0 0 a0 (lenI a0) 0) := (callI_run rfl (by kernel_rfl)).trans (by kernel_rfl)
theorem c_impl_order (a0 : Int) (a1 : Int) : callI tE f_impl_order [.int a0, .int a1] = (bif (ltI a0 a1) then (some [(.int (-1))]) else (bif (ltI a1 a0) then (some [(.int 1)]) else (some [(.int 0)]))) := (callI_run rfl (by kernel_rfl)).trans (by kernel_rfl)
theorem c_impl_CompareRows (a0 : Int) (a1 : Int) (a2 : Int) (a3 : Int) (a4 : Int) (a5 : Int) : callI tE f_impl_CompareRows [.int a0, .int a1, .int a2, .int a3, .int a4, .int a5] = (((callI tE f_impl_order [(.int a0), (.int a3)])).bind (fun r0 => (bif (!(eqI (gn r0) 0)) then (some [(.int (gn r0))]) else (((callI tE f_impl_order [(.int a1), (.int a4)])).bind (fun r1 => (bif (!(eqI (gn r1) 0)) then (some [(.int (gn r1))]) else (((callI tE f_impl_order [(.int a2), (.int a5)])).bind (fun r2 => (some [(.int (gn r2))]))))))))) := (callI_run rfl (by kernel_rfl)).trans (by kernel_rfl)
noncomputable def L_impl_IsSorted_0 (x0 : List (List Dat)) (x1 : Int) : Option (List Dat) := loopK tE f_impl_IsSorted 0 ⟨[(0, (.ro 105 Bool.false x0)), (3, (.i .i64 x1))], []⟩
theorem L_impl_IsSorted_0_eq (x0 : List (List Dat)) (x1 : Int) : L_impl_IsSorted_0 x0 x1 = (bif (ltI x1 (lenI x0)) then (bif (inR x1 (lenI x0)) then (bif (inR (w64 (x1 - 1)) (lenI x0)) then (((callI tE f_impl_CompareRows [(.int (gn (at' x0 (tn x1)))), (.int (gn (tk 1 (at' x0 (tn x1))))), (.int (gn (tk 2 (at' x0 (tn x1))))), (.int (gn (at' x0 (tn (w64 (x1 - 1)))))), (.int (gn (tk 1 (at' x0 (tn (w64 (x1 - 1))))))), (.int (gn (tk 2 (at' x0 (tn (w64 (x1 - 1)))))))])).bind (fun r0 => (bif (ltI (gn r0) 0) then (some [(.bool Bool.false)]) else (L_impl_IsSorted_0 x0 (w64 (x1 + 1)))))) else none) else none) else (some [(.bool Bool.true)])) := (loopK_run (by kernel_rfl)).trans (by kernel_rfl)
theorem c_impl_IsSorted (a0 : List (List Dat)) : callI tE f_impl_IsSorted [.sl a0] = (L_impl_IsSorted_0 a0 1) := (callI_run rfl (by kernel_rfl)).trans (by kernel_rfl)
theorem c_impl_clone (a0 : List (List Dat)) : callI tE f_impl_clone [.sl a0] = (bif (fitM (0 + (len a0)) 24) then (some [(.sl a0)]) else none) := (callI_run rfl (by kernel_rfl)).trans (by kernel_rfl)
theorem c_impl_SortRows (a0 : List (List Dat)) : callI tE f_impl_SortRows [.sl a0] = (((callI tE f_impl_clone [(.sl a0)])).bind (fun r0 => (((callI tE f_slices_SortStableFunc_Row [(.sl (gl r0))])).bind (fun r1 => (some [(.sl (gl r1))]))))) := (callI_run rfl (by kernel_rfl)).trans (by kernel_rfl)
theorem c_impl_EqualBags (a0 : List (List Dat)) (a1 : List (List Dat)) : callI tE f_impl_EqualBags [.sl a0, .sl a1] = (bif (eqI (lenI a0) (lenI a1)) then (((callI tE f_impl_SortRows [(.sl a0)])).bind (fun r0 => (((callI tE f_impl_SortRows [(.sl a1)])).bind (fun r1 => (((callI tE f_impl_equal [(.sl (gl r0)), (.sl (gl r1))])).bind (fun r2 => (some [(.bool (gb r2))]))))))) else (some [(.bool Bool.false)])) := (callI_run rfl (by kernel_rfl)).trans (by kernel_rfl)
theorem c_spec_l1In (a0 : Int) (a1 : Int) (a2 : Int) : callI tE f_spec_l1In [.int a0, .int a1, .int a2] = (bif (leI a1 a0) then (some [(.bool (leI a0 a2))]) else (some [(.bool Bool.false)])) := (callI_run rfl (by kernel_rfl)).trans (by kernel_rfl)
theorem c_spec_IsValidRow (a0 : Int) (a1 : Int) (a2 : Int) : callI tE f_spec_IsValidRow [.int a0, .int a1, .int a2] = (((callI tE f_spec_l1In [(.int a0), (.int 0), (.int 9)])).bind (fun r0 => (bif (gb r0) then (((callI tE f_spec_l1In [(.int a1), (.int 0), (.int 99)])).bind (fun r1 => (bif (gb r1) then (((callI tE f_spec_l1In [(.int a2), (.int 0), (.int 3)])).bind (fun r2 => (some [(.bool (gb r2))]))) else (some [(.bool Bool.false)])))) else (some [(.bool Bool.false)])))) := (callI_run rfl (by kernel_rfl)).trans (by kernel_rfl)
noncomputable def L_spec_AreValidRows_0 (x0 : List (List Dat)) (x1 : Int) : Option (List Dat) := loopK tE f_spec_AreValidRows 0 ⟨[(0, (.ro 105 Bool.false x0)), (3, (.i .i64 x1))], []⟩
theorem L_spec_AreValidRows_0_eq (x0 : List (List Dat)) (x1 : Int) : L_spec_AreValidRows_0 x0 x1 = (bif (ltI x1 (lenI x0)) then (bif (inR x1 (lenI x0)) then (((callI tE f_spec_IsValidRow [(.int (gn (at' x0 (tn x1)))), (.int (gn (tk 1 (at' x0 (tn x1))))), (.int (gn (tk 2 (at' x0 (tn x1)))))])).bind (fun r0 => (bif (!(gb r0)) then (some [(.bool Bool.false)]) else (L_spec_AreValidRows_0 x0 (w64 (x1 + 1)))))) else none) else (some [(.bool (leI (lenI x0) 24))])) := (loopK_run (by kernel_rfl)).trans (by kernel_rfl)
theorem c_spec_AreValidRows (a0 : List (List Dat)) : callI tE f_spec_AreValidRows [.sl a0] = (L_spec_AreValidRows_0 a0 0) := (callI_run rfl (by kernel_rfl)).trans (by kernel_rfl)
noncomputable def L_spec_CompareRows_0 (x0 : Int) (x1 : List (List Dat)) (x2 : List (List Dat)) : Option (List Dat) := loopK tE f_spec_CompareRows 0 ⟨[(5, (.own (500000, 0))), (6, (.own (500001, 0))), (7, (.i .i64 x0))], [((500000, 0), (.row 3 x1 Bool.true 0 [])), ((500001, 0), (.row 3 x2 Bool.true 0 []))]⟩
theorem L_spec_CompareRows_0_eq (x0 : Int) (x1 : List (List Dat)) (x2 : List (List Dat)) : L_spec_CompareRows_0 x0 x1 x2 = (bif (ltI x0 3) then (bif (inR x0 (lenI x1)) then (bif (inR x0 (lenI x2)) then (bif (ltI (gn (at' x1 (tn x0))) (gn (at' x2 (tn x0)))) then (some [(.int (-1))]) else (bif (inR x0 (lenI x1)) then (bif (inR x0 (lenI x2)) then (bif (ltI (gn (at' x2 (tn x0))) (gn (at' x1 (tn x0)))) then (some [(.int 1)]) else (L_spec_CompareRows_0 (w64 (x0 + 1)) x1 x2)) else none) else none)) else none) else none) else (some [(.int 0)])) := (loopK_run (by kernel_rfl)).trans (by kernel_rfl)
theorem c_spec_CompareRows (a0 : Int) (a1 : Int) (a2 : Int) (a3 : Int) (a4 : Int) (a5 : Int) : callI tE f_spec_CompareRows [.int a0, .int a1, .int a2, .int a3, .int a4, .int a5] = (L_spec_CompareRows_0 0 [[(.int a0)], [(.int a1)], [(.int a2)]] [[(.int a3)], [(.int a4)], [(.int a5)]]) := (callI_run rfl (by kernel_rfl)).trans (by kernel_rfl)
noncomputable def L_spec_SortRows_0 (x0 : List (List Dat)) (x1 : Int) (x2 : List (List Dat)) : Option (List Dat) := loopK tE f_spec_SortRows 0 ⟨[(0, (.ro 105 Bool.false x0)), (3, (.own (500000, 0))), (4, (.i .i64 x1))], [((500000, 0), (.row 105 x2 Bool.true 0 []))]⟩
noncomputable def L_spec_SortRows_1 (x0 : List (List Dat)) (x1 : Int) (x2 : Int) (x3 : List (List Dat)) : Option (List Dat) := loopK tE f_spec_SortRows 1 ⟨[(0, (.ro 105 Bool.false x0)), (3, (.own (500000, 0))), (4, (.i .i64 x1)), (5, (.i .i64 x2))], [((500000, 0), (.row 105 x3 Bool.true 0 []))]⟩
theorem L_spec_SortRows_0_eq (x0 : List (List Dat)) (x1 : Int) (x2 : List (List Dat)) : L_spec_SortRows_0 x0 x1 x2 = (bif (ltI x1 (lenI x0)) then (L_spec_SortRows_1 x0 x1 (lenI x2) x2) else (some [(.sl x2)])) := (loopK_run (by kernel_rfl)).trans (by kernel_rfl)
theorem L_spec_SortRows_1_eq (x0 : List (List Dat)) (x1 : Int) (x2 : Int) (x3 : List (List Dat)) : L_spec_SortRows_1 x0 x1 x2 x3 = (bif (ltI 0 x2) then (bif (inR (w64 (x2 - 1)) (lenI x3)) then (bif (inR x1 (lenI x0)) then (((callI tE f_spec_CompareRows [(.int (gn (at' x3 (tn (w64 (x2 - 1)))))), (.int (gn (tk 1 (at' x3 (tn (w64 (x2 - 1))))))), (.int (gn (tk 2 (at' x3 (tn (w64 (x2 - 1))))))), (.int (gn (at' x0 (tn x1)))), (.int (gn (tk 1 (at' x0 (tn x1))))), (.int (gn (tk 2 (at' x0 (tn x1)))))])).bind (fun r0 => (bif (ltI 0 (gn r0)) then (L_spec_SortRows_1 x0 x1 (w64 (x2 - 1)) x3) else (bif (inR x1 (lenI x0)) then (bif ((leI 0 x2) && (leI x2 (lenI x3))) then (bif (fitM (1 + (len (List.take (tn ((lenI x3) - x2)) (List.drop (tn x2) x3)))) 24) then (bif ((leI 0 x2) && (leI x2 (lenI x3))) then (bif (fitM (0 + (len (List.take (tn (x2 - 0)) (List.drop (tn 0) x3)))) 24) then (bif (fitM (Nat.succ ((len (List.take (tn (x2 - 0)) (List.drop (tn 0) x3))) + (len (List.take (tn ((lenI x3) - x2)) (List.drop (tn x2) x3))))) 24) then (L_spec_SortRows_0 x0 (w64 (x1 + 1)) (List.append (List.take (tn (x2 - 0)) (List.drop (tn 0) x3)) ([(.int (gn (at' x0 (tn x1)))), (.int (gn (tk 1 (at' x0 (tn x1))))), (.int (gn (tk 2 (at' x0 (tn x1)))))] :: (List.take (tn ((lenI x3) - x2)) (List.drop (tn x2) x3))))) else none) else none) else none) else none) else none) else none)))) else none) else none) else (bif (inR x1 (lenI x0)) then (bif ((leI 0 x2) && (leI x2 (lenI x3))) then (bif (fitM (1 + (len (List.take (tn ((lenI x3) - x2)) (List.drop (tn x2) x3)))) 24) then (bif ((leI 0 x2) && (leI x2 (lenI x3))) then (bif (fitM (0 + (len (List.take (tn (x2 - 0)) (List.drop (tn 0) x3)))) 24) then (bif (fitM (Nat.succ ((len (List.take (tn (x2 - 0)) (List.drop (tn 0) x3))) + (len (List.take (tn ((lenI x3) - x2)) (List.drop (tn x2) x3))))) 24) then (L_spec_SortRows_0 x0 (w64 (x1 + 1)) (List.append (List.take (tn (x2 - 0)) (List.drop (tn 0) x3)) ([(.int (gn (at' x0 (tn x1)))), (.int (gn (tk 1 (at' x0 (tn x1))))), (.int (gn (tk 2 (at' x0 (tn x1)))))] :: (List.take (tn ((lenI x3) - x2)) (List.drop (tn x2) x3))))) else none) else none) else none) else none) else none) else none)) := (loopK_run (by kernel_rfl)).trans (by kernel_rfl)
theorem c_spec_SortRows (a0 : List (List Dat)) : callI tE f_spec_SortRows [.sl a0] = (L_spec_SortRows_0 a0 0 []) := (callI_run rfl (by kernel_rfl)).trans (by kernel_rfl)
noncomputable def L_spec_l6Rows_0 (x0 : List (List Dat)) (x1 : List (List Dat)) (x2 : Int) : Option (List Dat) := loopK tE f_spec_l6Rows 0 ⟨[(0, (.ro 105 Bool.false x0)), (1, (.ro 105 Bool.false x1)), (5, (.i .i64 x2))], []⟩
theorem L_spec_l6Rows_0_eq (x0 : List (List Dat)) (x1 : List (List Dat)) (x2 : Int) : L_spec_l6Rows_0 x0 x1 x2 = (bif (ltI x2 (lenI x0)) then (bif (inR x2 (lenI x0)) then (bif (inR x2 (lenI x1)) then (bif (!((eqI (gn (at' x0 (tn x2))) (gn (at' x1 (tn x2)))) && ((eqI (gn (tk 1 (at' x0 (tn x2)))) (gn (tk 1 (at' x1 (tn x2))))) && ((eqI (gn (tk 2 (at' x0 (tn x2)))) (gn (tk 2 (at' x1 (tn x2))))) && Bool.true)))) then (some [(.bool Bool.false)]) else (L_spec_l6Rows_0 x0 x1 (w64 (x2 + 1)))) else none) else none) else (some [(.bool Bool.true)])) := (loopK_run (by kernel_rfl)).trans (by kernel_rfl)
theorem c_spec_l6Rows (a0 : List (List Dat)) (a1 : List (List Dat)) : callI tE f_spec_l6Rows [.sl a0, .sl a1] = (bif (!(eqI (lenI a0) (lenI a1))) then (some [(.bool Bool.false)]) else (L_spec_l6Rows_0 a0 a1 0)) := (callI_run rfl (by kernel_rfl)).trans (by kernel_rfl)
theorem c_spec_RowCost (a0 : Int) (a1 : Int) (a2 : Int) : callI tE f_spec_RowCost [.int a0, .int a1, .int a2] = (((callI tE f_spec_IsValidRow [(.int a0), (.int a1), (.int a2)])).bind (fun r0 => (bif (!(gb r0)) then (some [(.int 0)]) else (some [(.int (w64 (1 + a2)))])))) := (callI_run rfl (by kernel_rfl)).trans (by kernel_rfl)
noncomputable def L_spec_TotalCost_0 (x0 : List (List Dat)) (x1 : Int) (x2 : Int) : Option (List Dat) := loopK tE f_spec_TotalCost 0 ⟨[(0, (.ro 105 Bool.false x0)), (3, (.i .i64 x1)), (4, (.i .i64 x2))], []⟩
theorem L_spec_TotalCost_0_eq (x0 : List (List Dat)) (x1 : Int) (x2 : Int) : L_spec_TotalCost_0 x0 x1 x2 = (bif (ltI x2 (lenI x0)) then (bif (inR x2 (lenI x0)) then (((callI tE f_spec_RowCost [(.int (gn (at' x0 (tn x2)))), (.int (gn (tk 1 (at' x0 (tn x2))))), (.int (gn (tk 2 (at' x0 (tn x2)))))])).bind (fun r0 => (L_spec_TotalCost_0 x0 (w64 (x1 + (gn r0))) (w64 (x2 + 1))))) else none) else (some [(.int x1)])) := (loopK_run (by kernel_rfl)).trans (by kernel_rfl)
theorem c_spec_TotalCost (a0 : List (List Dat)) : callI tE f_spec_TotalCost [.sl a0] = (L_spec_TotalCost_0 a0 0 0) := (callI_run rfl (by kernel_rfl)).trans (by kernel_rfl)
noncomputable def L_spec_IsSorted_0 (x0 : List (List Dat)) (x1 : Int) : Option (List Dat) := loopK tE f_spec_IsSorted 0 ⟨[(0, (.ro 105 Bool.false x0)), (3, (.i .i64 x1))], []⟩
theorem L_spec_IsSorted_0_eq (x0 : List (List Dat)) (x1 : Int) : L_spec_IsSorted_0 x0 x1 = (bif (ltI x1 (lenI x0)) then (bif (inR (w64 (x1 - 1)) (lenI x0)) then (bif (inR x1 (lenI x0)) then (((callI tE f_spec_CompareRows [(.int (gn (at' x0 (tn (w64 (x1 - 1)))))), (.int (gn (tk 1 (at' x0 (tn (w64 (x1 - 1))))))), (.int (gn (tk 2 (at' x0 (tn (w64 (x1 - 1))))))), (.int (gn (at' x0 (tn x1)))), (.int (gn (tk 1 (at' x0 (tn x1))))), (.int (gn (tk 2 (at' x0 (tn x1)))))])).bind (fun r0 => (bif (ltI 0 (gn r0)) then (some [(.bool Bool.false)]) else (L_spec_IsSorted_0 x0 (w64 (x1 + 1)))))) else none) else none) else (some [(.bool Bool.true)])) := (loopK_run (by kernel_rfl)).trans (by kernel_rfl)
theorem c_spec_IsSorted (a0 : List (List Dat)) : callI tE f_spec_IsSorted [.sl a0] = (L_spec_IsSorted_0 a0 1) := (callI_run rfl (by kernel_rfl)).trans (by kernel_rfl)
noncomputable def L_spec_EqualBags_0 (x0 : Int) (x1 : List (List Dat)) (x2 : List (List Dat)) : Option (List Dat) := loopK tE f_spec_EqualBags 0 ⟨[(5, (.own (500000, 0))), (6, (.own (500001, 0))), (7, (.i .i64 x0))], [((500000, 0), (.row 105 x1 Bool.true 0 [])), ((500001, 0), (.row 105 x2 Bool.true 0 []))]⟩
theorem L_spec_EqualBags_0_eq (x0 : Int) (x1 : List (List Dat)) (x2 : List (List Dat)) : L_spec_EqualBags_0 x0 x1 x2 = (bif (ltI x0 (lenI x1)) then (bif (inR x0 (lenI x1)) then (bif (inR x0 (lenI x2)) then (bif (!((eqI (gn (at' x1 (tn x0))) (gn (at' x2 (tn x0)))) && ((eqI (gn (tk 1 (at' x1 (tn x0)))) (gn (tk 1 (at' x2 (tn x0))))) && ((eqI (gn (tk 2 (at' x1 (tn x0)))) (gn (tk 2 (at' x2 (tn x0))))) && Bool.true)))) then (some [(.bool Bool.false)]) else (L_spec_EqualBags_0 (w64 (x0 + 1)) x1 x2)) else none) else none) else (some [(.bool Bool.true)])) := (loopK_run (by kernel_rfl)).trans (by kernel_rfl)
theorem c_spec_EqualBags (a0 : List (List Dat)) (a1 : List (List Dat)) : callI tE f_spec_EqualBags [.sl a0, .sl a1] = (((callI tE f_spec_SortRows [(.sl a0)])).bind (fun r0 => (((callI tE f_spec_SortRows [(.sl a1)])).bind (fun r1 => (bif (!(eqI (lenI (gl r0)) (lenI (gl r1)))) then (some [(.bool Bool.false)]) else (L_spec_EqualBags_0 0 (gl r0) (gl r1))))))) := (callI_run rfl (by kernel_rfl)).trans (by kernel_rfl)
theorem c_laws_szRowS (a0 : List (List Dat)) (a1 : Int) : callI tE f_laws_szRowS [.sl a0, .int a1] = (bif (ltI (w64 (a1 - (lenI a0))) 0) then (some [(.int (-1))]) else (some [(.int (w64 (a1 - (lenI a0))))])) := (callI_run rfl (by kernel_rfl)).trans (by kernel_rfl)
theorem c_laws_toRow (a0 : Int) (a1 : Int) (a2 : Int) : callI tE f_laws_toRow [.int a0, .int a1, .int a2] = (some [(.int a0), (.int a1), (.int a2)]) := (callI_run rfl (by kernel_rfl)).trans (by kernel_rfl)
noncomputable def L_laws_toRowS_0 (x0 : List (List Dat)) (x1 : Int) (x2 : List (List Dat)) : Option (List Dat) := loopK tE f_laws_toRowS 0 ⟨[(0, (.ro 120 Bool.false x0)), (3, (.own (500000, 0))), (4, (.i .i64 x1))], [((500000, 0), (.row 105 x2 Bool.true 0 []))]⟩
theorem L_laws_toRowS_0_eq (x0 : List (List Dat)) (x1 : Int) (x2 : List (List Dat)) : L_laws_toRowS_0 x0 x1 x2 = (bif (ltI x1 (lenI x0)) then (bif (inR x1 (lenI x0)) then (((callI tE f_laws_toRow [(.int (gn (at' x0 (tn x1)))), (.int (gn (tk 1 (at' x0 (tn x1))))), (.int (gn (tk 2 (at' x0 (tn x1)))))])).bind (fun r0 => (bif (inR x1 (lenI x2)) then (L_laws_toRowS_0 x0 (w64 (x1 + 1)) (updR x2 (tn x1) 0 [(.int (gn r0)), (.int (gn (tk 1 r0))), (.int (gn (tk 2 r0)))])) else none))) else none) else (some [(.sl x2)])) := (loopK_run (by kernel_rfl)).trans (by kernel_rfl)
theorem c_laws_toRowS (a0 : List (List Dat)) : callI tE f_laws_toRowS [.sl a0] = (bif ((leI 0 (lenI a0)) && ((eqI (lenI a0) (lenI a0)) && (fitM (tn (lenI a0)) 24))) then (L_laws_toRowS_0 a0 0 (List.replicate (tn (lenI a0)) [(.int 0), (.int 0), (.int 0)])) else none) := (callI_run rfl (by kernel_rfl)).trans (by kernel_rfl)
theorem c_laws_eqRow (a0 : Int) (a1 : Int) (a2 : Int) (a3 : Int) (a4 : Int) (a5 : Int) : callI tE f_laws_eqRow [.int a0, .int a1, .int a2, .int a3, .int a4, .int a5] = (bif (!(eqI a0 a3)) then (some [(.bool Bool.false)]) else (bif (!(eqI a1 a4)) then (some [(.bool Bool.false)]) else (bif (!(eqI a2 a5)) then (some [(.bool Bool.false)]) else (some [(.bool Bool.true)])))) := (callI_run rfl (by kernel_rfl)).trans (by kernel_rfl)
noncomputable def L_laws_eqRowS_0 (x0 : List (List Dat)) (x1 : List (List Dat)) (x2 : Int) : Option (List Dat) := loopK tE f_laws_eqRowS 0 ⟨[(0, (.ro 105 Bool.false x0)), (1, (.ro 105 Bool.false x1)), (5, (.i .i64 x2))], []⟩
theorem L_laws_eqRowS_0_eq (x0 : List (List Dat)) (x1 : List (List Dat)) (x2 : Int) : L_laws_eqRowS_0 x0 x1 x2 = (bif (ltI x2 (lenI x0)) then (bif (inR x2 (lenI x0)) then (bif (inR x2 (lenI x1)) then (((callI tE f_laws_eqRow [(.int (gn (at' x0 (tn x2)))), (.int (gn (tk 1 (at' x0 (tn x2))))), (.int (gn (tk 2 (at' x0 (tn x2))))), (.int (gn (at' x1 (tn x2)))), (.int (gn (tk 1 (at' x1 (tn x2))))), (.int (gn (tk 2 (at' x1 (tn x2)))))])).bind (fun r0 => (bif (!(gb r0)) then (some [(.bool Bool.false)]) else (L_laws_eqRowS_0 x0 x1 (w64 (x2 + 1)))))) else none) else none) else (some [(.bool Bool.true)])) := (loopK_run (by kernel_rfl)).trans (by kernel_rfl)
theorem c_laws_eqRowS (a0 : List (List Dat)) (a1 : List (List Dat)) : callI tE f_laws_eqRowS [.sl a0, .sl a1] = (bif (!(eqI (lenI a0) (lenI a1))) then (some [(.bool Bool.false)]) else (L_laws_eqRowS_0 a0 a1 0)) := (callI_run rfl (by kernel_rfl)).trans (by kernel_rfl)
theorem c_laws_szBoolS (a0 : List (List Dat)) (a1 : Int) : callI tE f_laws_szBoolS [.sl a0, .int a1] = (bif (ltI (w64 (a1 - (lenI a0))) 0) then (some [(.int (-1))]) else (some [(.int (w64 (a1 - (lenI a0))))])) := (callI_run rfl (by kernel_rfl)).trans (by kernel_rfl)
noncomputable def L_laws_toBoolS_0 (x0 : List (List Dat)) (x1 : Int) (x2 : List (List Dat)) : Option (List Dat) := loopK tE f_laws_toBoolS 0 ⟨[(0, (.ro 4 Bool.false x0)), (3, (.own (500000, 0))), (4, (.i .i64 x1))], [((500000, 0), (.row 4 x2 Bool.true 0 []))]⟩
theorem L_laws_toBoolS_0_eq (x0 : List (List Dat)) (x1 : Int) (x2 : List (List Dat)) : L_laws_toBoolS_0 x0 x1 x2 = (bif (ltI x1 (lenI x0)) then (bif (inR x1 (lenI x0)) then (bif (inR x1 (lenI x2)) then (L_laws_toBoolS_0 x0 (w64 (x1 + 1)) (updR x2 (tn x1) 0 [(.bool (gb (at' x0 (tn x1))))])) else none) else none) else (some [(.sl x2)])) := (loopK_run (by kernel_rfl)).trans (by kernel_rfl)
theorem c_laws_toBoolS (a0 : List (List Dat)) : callI tE f_laws_toBoolS [.sl a0] = (bif ((leI 0 (lenI a0)) && ((eqI (lenI a0) (lenI a0)) && (fitM (tn (lenI a0)) 1))) then (L_laws_toBoolS_0 a0 0 (List.replicate (tn (lenI a0)) [(.bool Bool.false)])) else none) := (callI_run rfl (by kernel_rfl)).trans (by kernel_rfl)
noncomputable def L_laws_eqBoolS_0 (x0 : List (List Dat)) (x1 : List (List Dat)) (x2 : Int) : Option (List Dat) := loopK tE f_laws_eqBoolS 0 ⟨[(0, (.ro 4 Bool.false x0)), (1, (.ro 4 Bool.false x1)), (5, (.i .i64 x2))], []⟩
theorem L_laws_eqBoolS_0_eq (x0 : List (List Dat)) (x1 : List (List Dat)) (x2 : Int) : L_laws_eqBoolS_0 x0 x1 x2 = (bif (ltI x2 (lenI x0)) then (bif (inR x2 (lenI x0)) then (bif (inR x2 (lenI x1)) then (bif (!(eqBo (gb (at' x0 (tn x2))) (gb (at' x1 (tn x2))))) then (some [(.bool Bool.false)]) else (L_laws_eqBoolS_0 x0 x1 (w64 (x2 + 1)))) else none) else none) else (some [(.bool Bool.true)])) := (loopK_run (by kernel_rfl)).trans (by kernel_rfl)
theorem c_laws_eqBoolS (a0 : List (List Dat)) (a1 : List (List Dat)) : callI tE f_laws_eqBoolS [.sl a0, .sl a1] = (bif (!(eqI (lenI a0) (lenI a1))) then (some [(.bool Bool.false)]) else (L_laws_eqBoolS_0 a0 a1 0)) := (callI_run rfl (by kernel_rfl)).trans (by kernel_rfl)
end Go.Proofs.YtceoogjanfbdcaaGreat.Vai
namespace Go.Proofs.YtceoogjanfbdcaaGreat.Vai
open Go
set_option linter.unusedSimpArgs false
set_option linter.unusedVariables false
set_option linter.unnecessarySimpa false
abbrev Rows := List (List Dat)
theorem gn_c (n : Int) (r : List Dat) : gn (.int n :: r) = n := rfl
theorem gb_c (b : Bool) (r : List Dat) : gb (.bool b :: r) = b := rfl
theorem gs_c (s : ByteArray) (r : List Dat) : gs (.str s :: r) = s := rfl
theorem gl_c (l : Rows) (r : List Dat) : gl (.sl l :: r) = l := rfl
theorem tk_0 (l : List Dat) : tk 0 l = l := rfl
theorem tk_s (k : Nat) (a : Dat) (l : List Dat) : tk (k + 1) (a :: l) = tk k l := rfl
theorem bind_s {α β : Type} (a : α) (f : α → Option β) : (some a).bind f = f a := rfl
theorem ltT {a b : Int} (h : a < b) : ltI a b = true := by simpa [ltI] using h
theorem ltF {a b : Int} (h : b ≤ a) : ltI a b = false := by simpa [ltI] using h
theorem leT {a b : Int} (h : a ≤ b) : leI a b = true := by simpa [leI] using h
theorem leF {a b : Int} (h : b < a) : leI a b = false := by simpa [leI] using h
theorem eqT {a b : Int} (h : a = b) : eqI a b = true := by simpa [eqI] using h
theorem eqF {a b : Int} (h : a ≠ b) : eqI a b = false := by simpa [eqI] using h
theorem eqI_self (a : Int) : eqI a a = true := by simp [eqI]
theorem eqBo_self (a : Bool) : eqBo a a = true := by simp [eqBo]
theorem leNT {a b : Nat} (h : a ≤ b) : leN a b = true := by simpa [leN] using h
theorem fitT {n b : Nat} (h : n * b ≤ 70368744177664) : fitM n b = true := leNT h
theorem inRT {i n : Int} (h : 0 ≤ i) (h2 : i < n) : inR i n = true := by simp [inR, leT h, ltT h2]
theorem tn_c (i : Nat) : tn (i : Int) = i := rfl
theorem w64_id {n : Int} (h : -9223372036854775808 ≤ n ∧ n ≤ 9223372036854775807) : w64 n = n := wrap64 ⟨h.1, by omega⟩
theorem w64_s {i : Nat} (h : i < 9223372036854775807) : w64 ((i : Int) + 1) = ((i + 1 : Nat) : Int) := by
  rw [w64_id ⟨by omega, by omega⟩]; omega
theorem bifn {α : Type} (b : Bool) (x y : α) : (bif !b then x else y) = bif b then y else x := by cases b <;> rfl
theorem at_mid (p q : Rows) (r : List Dat) : at' (p ++ r :: q) p.length = r := by
  simp [List.getD_eq_getElem?_getD]
theorem lt_mid (p q : Rows) (r : List Dat) : ltI (p.length : Int) (lenI (p ++ r :: q)) = true := ltT (by show (p.length : Int) < ((p ++ r :: q).length : Int); simp only [List.length_append, List.length_cons]; omega)
theorem in_mid (p q : Rows) (r : List Dat) : inR (p.length : Int) (lenI (p ++ r :: q)) = true := inRT (by omega) (by show (p.length : Int) < ((p ++ r :: q).length : Int); simp only [List.length_append, List.length_cons]; omega)
theorem lt_end (p : Rows) : ltI (p.length : Int) (lenI p) = false := ltF (Int.le_refl _)
theorem upd_mid (p q : Rows) (r : List Dat) (c : Nat) (ds : List Dat) : updR (p ++ r :: q) p.length c ds = p ++ setRange r c ds :: q := by
  unfold updR
  rw [show (p ++ r :: q).getD p.length [] = r from at_mid p q r, List.set_append_right _ _ (Nat.le_refl _)]
  simp
theorem snoc_len (p : Rows) (r : List Dat) : (p ++ [r]).length = p.length + 1 := by simp
theorem mid_eq {α : Type} (p q : List α) (r : α) : p ++ r :: q = (p ++ [r]) ++ q := by simp
section
variable {α β : Type} {e : α → List Dat}
theorem at_m (u v : List α) (a : α) : at' ((u ++ a :: v).map e) u.length = e a := by
  simp [List.getD_eq_getElem?_getD]
theorem lt_m (u v : List α) (a : α) : ltI (u.length : Int) (lenI ((u ++ a :: v).map e)) = true := ltT (by show (u.length : Int) < (((u ++ a :: v).map e).length : Int); simp only [List.length_append, List.length_cons, List.length_map]; omega)
theorem in_m (u v : List α) (a : α) : inR (u.length : Int) (lenI ((u ++ a :: v).map e)) = true := inRT (by omega) (by show (u.length : Int) < (((u ++ a :: v).map e).length : Int); simp only [List.length_append, List.length_cons, List.length_map]; omega)
theorem lt_e (l : List α) : ltI (l.length : Int) (lenI (l.map e)) = false := ltF (by simp)
theorem upd_m (u v : List α) (a : α) (c : Nat) (ds : List Dat) : updR ((u ++ a :: v).map e) u.length c ds = u.map e ++ setRange (e a) c ds :: v.map e := by
  have := upd_mid (u.map e) (v.map e) (e a) c ds
  simpa using this
theorem zip_loop {σ : Type} {L : σ → Int → Option β} {F : σ → List α → Option β} {I : σ → List α → List α → Prop} {l : List α} (hn : l.length < 9223372036854775807)
    (hs : ∀ (u : List α) (a : α) (v : List α) (s : σ), l = u ++ a :: v → I s u (a :: v) → (∃ s', L s u.length = L s' (w64 (u.length + 1)) ∧ I s' (u ++ [a]) v ∧ F s (a :: v) = F s' v) ∨ L s u.length = F s (a :: v))
    (he : ∀ s, I s l [] → L s l.length = F s []) (s : σ) (h0 : I s [] l) : L s 0 = F s l := by
  have key : ∀ (v u : List α) (s : σ), l = u ++ v → I s u v → L s (u.length : Nat) = F s v := by
    intro v
    induction v with
    | nil =>
      intro u s h hI
      rw [List.append_nil] at h
      subst h
      exact he s hI
    | cons a v ih =>
      intro u s h hI
      have hl : u.length < l.length := by rw [h]; simp
      rcases hs u a v s h hI with ⟨s', h1, h2, h3⟩ | h1
      · rw [h1, w64_s (by omega), h3]
        have := ih (u ++ [a]) s' (by rw [h]; simp) h2
        rw [List.length_append] at this
        exact this
      · exact h1
  exact key l [] s rfl h0
theorem all_loop {L : Int → Option β} {p : α → Bool} {no yes : Option β} {l : List α} (hn : l.length < 9223372036854775807)
    (hs : ∀ (u : List α) (a : α) (v : List α), l = u ++ a :: v → L u.length = bif p a then L (w64 (u.length + 1)) else no) (he : L l.length = yes) : L 0 = bif l.all p then yes else no :=
  zip_loop (σ := Unit) (L := fun _ => L) (F := fun _ v => bif v.all p then yes else no) (I := fun _ _ _ => True) hn (fun u a v _ h _ => by
    have := hs u a v h
    cases hp : p a
    · exact .inr (by rw [this, hp]; simp [hp])
    · exact .inl ⟨(), by rw [this, hp]; rfl, trivial, by simp [hp]⟩) (fun _ _ => by simpa using he) () trivial
end
def BdL {α : Type} (p : α → Prop) (l : List α) : Prop := l.length ≤ 1152921504606846976 ∧ ∀ a ∈ l, p a
def BdT (_ : Bool) : Prop := True
def cntL {α : Type} (c : α → Nat) : List α → Nat
  | [] => 0
  | a :: l => c a + cntL c l
def szL {α : Type} (f : α → Nat) : List α → Nat
  | [] => 0
  | a :: l => 1 + f a + szL f l
theorem szL_len {α : Type} (f : α → Nat) : ∀ l : List α, l.length ≤ szL f l
  | [] => Nat.le_refl _
  | a :: l => by have := szL_len f l; simp only [List.length_cons, szL]; omega
theorem szL_mem {α : Type} {f : α → Nat} : ∀ {l : List α} {a : α}, a ∈ l → f a ≤ szL f l
  | b :: l, a, h => by
    rcases List.mem_cons.mp h with rfl | h
    · simp only [szL]; omega
    · have := szL_mem (f := f) h; simp only [szL]; omega
theorem szL_split {α : Type} (f : α → Nat) (u v : List α) : szL f (u ++ v) = szL f u + szL f v := by
  induction u with
  | nil => simp [szL]
  | cons a u ih => simp only [List.cons_append, szL, ih]; omega
section
variable {α : Type} {e : α → List Dat} {f : α → Int → α} {c g : α → Nat}
theorem to_loop {L : Rows → Int → Rows → Option (List Dat)} {z : List Dat} {P : α → Prop} (hs : ∀ (p q p' q' : Rows) (a : α), P a → p.length = p'.length → p.length < 4611686018427387904 → L (p ++ e a :: q) p.length (p' ++ z :: q') = L (p ++ e a :: q) (w64 (p.length + 1)) (p' ++ e a :: q'))
    (he : ∀ p p', p.length = p'.length → L p p.length p' = some [.sl p']) : ∀ (l : List α) (p p' : Rows), p.length = p'.length → (∀ a ∈ l, P a) → p.length + l.length < 4611686018427387904 →
      L (p ++ l.map e) p.length (p' ++ List.replicate l.length z) = some [.sl (p' ++ l.map e)]
  | [], p, p', h, _, _ => by simpa using he p p' h
  | a :: l, p, p', h, hP, h3 => by
    simp only [List.length_cons] at h3
    rw [List.map_cons, List.length_cons, List.replicate_succ, hs p (l.map e) p' (List.replicate l.length z) a (hP a (by simp)) h (by omega), w64_s (by omega), mid_eq, mid_eq p']
    have ih := to_loop hs he l (p ++ [e a]) (p' ++ [e a]) (by simp [h]) (fun b hb => hP b (by simp [hb])) (by simp; omega)
    rw [snoc_len] at ih
    rw [ih]
    simp only [List.append_assoc, List.singleton_append]
theorem eq_loop [DecidableEq α] {L : Rows → Rows → Int → Option (List Dat)} {P : α → Prop} (hs : ∀ (p q p' q' : Rows) (a b : α), P a → p.length = p'.length → p.length < 4611686018427387904 → L (p ++ e a :: q) (p' ++ e b :: q') p.length = bif decide (a = b) then L (p ++ e a :: q) (p' ++ e b :: q') (w64 (p.length + 1)) else some [.bool false])
    (he : ∀ p p', p.length = p'.length → L p p' p.length = some [.bool true]) : ∀ (l l' : List α) (p p' : Rows), p.length = p'.length → l.length = l'.length → (∀ a ∈ l, P a) → p.length + l.length < 4611686018427387904 →
      L (p ++ l.map e) (p' ++ l'.map e) p.length = some [.bool (decide (l = l'))]
  | [], [], p, p', h, _, _, _ => by simpa using he p p' h
  | [], _ :: _, _, _, _, h, _, _ => by simp at h
  | _ :: _, [], _, _, _, h, _, _ => by simp at h
  | a :: l, b :: l', p, p', h, hl, hP, h3 => by
    simp only [List.length_cons] at h3 hl
    rw [List.map_cons, List.map_cons, hs p (l.map e) p' (l'.map e) a b (hP a (by simp)) h (by omega)]
    by_cases hab : a = b
    · rw [decide_eq_true hab, cond_true, w64_s (by omega), mid_eq, mid_eq p']
      have ih := eq_loop hs he l l' (p ++ [e a]) (p' ++ [e b]) (by simp [h]) (by omega) (fun b hb => hP b (by simp [hb])) (by simp; omega)
      rw [snoc_len] at ih
      rw [ih]
      simp [hab]
    · rw [decide_eq_false hab, cond_false]
      simp [hab]
def szv (n : Int) (s : Nat) : Int := if (s : Int) ≤ n then n - s else -1
theorem szv_0 {n : Int} (h : 0 ≤ n) : szv n 0 = n := by simp [szv, h]
theorem sz_chain {n : Int} {a b : Nat} (_hn : 0 ≤ n) {X : Option (List Dat)} (hX : (a : Int) ≤ n → szv n a = n - a → X = some [.int (szv (n - a) b)]) : (bif ltI (szv n a) 0 then some [.int (-1)] else X) = some [.int (szv n (a + b))] := by
  by_cases h : (a : Int) ≤ n
  · have e1 : szv n a = n - a := if_pos h
    rw [ltF (by rw [e1]; omega), cond_false, hX h e1]
    congr 2
    unfold szv
    by_cases h2 : (b : Int) ≤ n - a
    · rw [if_pos h2, if_pos (by omega)]; congr 1; omega
    · rw [if_neg h2, if_neg (by omega)]
  · have e1 : szv n a = -1 := if_neg h
    rw [ltT (by rw [e1]; decide), cond_true]
    unfold szv
    rw [if_neg (by omega)]
theorem sz_last {n : Int} {a : Nat} (hn : 0 ≤ n) : (bif ltI (szv n a) 0 then some [Dat.int (-1)] else some [.int (szv n a)]) = some [.int (szv n a)] := by
  have := sz_chain (b := 0) hn (X := some [.int (szv n a)]) (a := a) (fun h h1 => by rw [h1, szv_0 (by omega)])
  simpa using this
theorem sz_loop {L : Rows → Int → Int → Option (List Dat)} {P : α → Prop} (hs : ∀ (p q : Rows) (a : α) (n : Int), P a → 0 ≤ n → n ≤ 1048576 → p.length < 4611686018427387904 → L (p ++ e a :: q) n p.length = bif ltI (szv n (g a)) 0 then some [.int (-1)] else L (p ++ e a :: q) (szv n (g a)) (w64 (p.length + 1)))
    (he : ∀ p n, L p n p.length = some [.int n]) : ∀ (l : List α) (p : Rows) (n : Int), (∀ a ∈ l, P a) → 0 ≤ n → n ≤ 1048576 → p.length + l.length < 4611686018427387904 →
      L (p ++ l.map e) n p.length = some [.int (szv n (cntL g l))]
  | [], p, n, _, h0, _, _ => by rw [List.map_nil, List.append_nil, he, cntL, szv_0 h0]
  | a :: l, p, n, hP, h0, h1, h3 => by
    simp only [List.length_cons] at h3
    rw [List.map_cons, hs p (l.map e) a n (hP a (by simp)) h0 h1 (by omega)]
    refine sz_chain h0 fun h2 h4 => ?_
    rw [h4, w64_s (by omega), mid_eq]
    have ih := sz_loop hs he l (p ++ [e a]) (n - g a) (fun b hb => hP b (by simp [hb])) (by omega) (by omega) (by simp; omega)
    rw [snoc_len] at ih
    exact ih
theorem szL_cnt (g : α → Nat) : ∀ l : List α, szL g l = l.length + cntL g l
  | [] => rfl
  | a :: l => by simp only [szL, szL_cnt g l, List.length_cons, cntL]; omega
theorem bif_and (p q : Bool) : (bif !p then some [Dat.bool false] else some [.bool q]) = some [.bool (p && q)] := by cases p <;> rfl
end
end Go.Proofs.YtceoogjanfbdcaaGreat.Vai
namespace Go.Proofs.YtceoogjanfbdcaaGreat.Vai
open Go
set_option linter.unusedSimpArgs false
set_option linter.unusedVariables false
set_option linter.unnecessarySimpa false
def boE (b : Bool) : List Dat := [.bool b]
def c1 {α : Type} (_ : α) : Nat := 1
structure Rw where
  k : Int
  v : Int
  w : Int
  deriving DecidableEq
def Rw.e (x : Rw) : List Dat := [.int x.k, .int x.v, .int x.w]
def Rw.bd (x : Rw) : Prop := I64 x.k ∧ I64 x.v ∧ I64 x.w
def rsB (l : List Rw) : Prop := BdL Rw.bd l
def rsE (l : List Rw) : List Dat := [.sl (l.map Rw.e)]
structure Pr where
  l : Rw
  r : Rw
  m : Bool
  deriving DecidableEq
def Pr.e (x : Pr) : List Dat := [.int x.l.k, .int x.l.v, .int x.l.w, .int x.r.k, .int x.r.v, .int x.r.w, .bool x.m]
def Pr.bd (x : Pr) : Prop := Rw.bd x.l ∧ Rw.bd x.r ∧ BdT x.m
structure Gr where
  key : Int
  cnt : Int
  sum : Int
  lo : Int
  hi : Int
  deriving DecidableEq
def Gr.e (x : Gr) : List Dat := [.int x.key, .int x.cnt, .int x.sum, .int x.lo, .int x.hi]
def Gr.bd (x : Gr) : Prop := I64 x.key ∧ I64 x.cnt ∧ I64 x.sum ∧ I64 x.lo ∧ I64 x.hi
structure Cl where
  id : Int
  req : Int
  prio : Int
  deriving DecidableEq
def Cl.e (x : Cl) : List Dat := [.int x.id, .int x.req, .int x.prio]
def Cl.bd (x : Cl) : Prop := I64 x.id ∧ I64 x.req ∧ I64 x.prio
structure Tk where
  kind : Int
  left : List Rw
  right : List Rw
  mat : List Bool
  level : Int
  deriving DecidableEq
def Tk.e (x : Tk) : List Dat := [.int x.kind, .sl (x.left.map Rw.e), .sl (x.right.map Rw.e), .sl (x.mat.map boE), .int x.level]
def Tk.sz (x : Tk) : Nat := x.left.length + (x.right.length + (x.mat.length))
def Tk.bd (x : Tk) : Prop := I64 x.kind ∧ BdL Rw.bd x.left ∧ BdL Rw.bd x.right ∧ BdL BdT x.mat ∧ I64 x.level
structure Gt where
  rows : List Rw
  level : Int
  deriving DecidableEq
def Gt.e (x : Gt) : List Dat := [.sl (x.rows.map Rw.e), .int x.level]
def Gt.sz (x : Gt) : Nat := x.rows.length
def Gt.bd (x : Gt) : Prop := BdL Rw.bd x.rows ∧ I64 x.level
structure So where
  inp : List Rw
  pos : Int
  heap : List Rw
  dfd : List Rw
  out : List Rw
  runs : List (List Rw)
  lp : Int
  rp : Int
  ph : Int
  wr : Int
  deriving DecidableEq
def So.e (x : So) : List Dat := [.sl (x.inp.map Rw.e), .int x.pos, .sl (x.heap.map Rw.e), .sl (x.dfd.map Rw.e), .sl (x.out.map Rw.e), .sl (x.runs.map rsE), .int x.lp, .int x.rp, .int x.ph, .int x.wr]
def So.sz (x : So) : Nat := x.inp.length + (x.heap.length + (x.dfd.length + (x.out.length + (szL List.length x.runs))))
def So.bd (x : So) : Prop := BdL Rw.bd x.inp ∧ I64 x.pos ∧ BdL Rw.bd x.heap ∧ BdL Rw.bd x.dfd ∧ BdL Rw.bd x.out ∧ BdL rsB x.runs ∧ I64 x.lp ∧ I64 x.rp ∧ I64 x.ph ∧ I64 x.wr
structure Jn where
  pend : List Tk
  wr : Int
  parts : Int
  deriving DecidableEq
def Jn.e (x : Jn) : List Dat := [.sl (x.pend.map Tk.e), .int x.wr, .int x.parts]
def Jn.sz (x : Jn) : Nat := szL Tk.sz x.pend
def Jn.bd (x : Jn) : Prop := BdL Tk.bd x.pend ∧ I64 x.wr ∧ I64 x.parts
structure Ag where
  pend : List Gt
  wr : Int
  early : Bool
  deriving DecidableEq
def Ag.e (x : Ag) : List Dat := [.sl (x.pend.map Gt.e), .int x.wr, .bool x.early]
def Ag.sz (x : Ag) : Nat := szL Gt.sz x.pend
def Ag.bd (x : Ag) : Prop := BdL Gt.bd x.pend ∧ I64 x.wr ∧ BdT x.early
structure Opr where
  kind : Int
  so : So
  jn : Jn
  ag : Ag
  deriving DecidableEq
def Opr.e (x : Opr) : List Dat := [.int x.kind, .sl (x.so.inp.map Rw.e), .int x.so.pos, .sl (x.so.heap.map Rw.e), .sl (x.so.dfd.map Rw.e), .sl (x.so.out.map Rw.e), .sl (x.so.runs.map rsE), .int x.so.lp, .int x.so.rp, .int x.so.ph, .int x.so.wr, .sl (x.jn.pend.map Tk.e), .int x.jn.wr, .int x.jn.parts, .sl (x.ag.pend.map Gt.e), .int x.ag.wr, .bool x.ag.early]
def Opr.sz (x : Opr) : Nat := So.sz x.so + (Jn.sz x.jn + (Ag.sz x.ag))
def Opr.bd (x : Opr) : Prop := I64 x.kind ∧ So.bd x.so ∧ Jn.bd x.jn ∧ Ag.bd x.ag
structure Ou where
  rows : List Rw
  pairs : List Pr
  groups : List Gr
  deriving DecidableEq
def Ou.e (x : Ou) : List Dat := [.sl (x.rows.map Rw.e), .sl (x.pairs.map Pr.e), .sl (x.groups.map Gr.e)]
def Ou.sz (x : Ou) : Nat := x.rows.length + (x.pairs.length + (x.groups.length))
def Ou.bd (x : Ou) : Prop := BdL Rw.bd x.rows ∧ BdL Pr.bd x.pairs ∧ BdL Gr.bd x.groups
structure Sl where
  id : Int
  op : Opr
  out : Ou
  done : Bool
  deriving DecidableEq
def Sl.e (x : Sl) : List Dat := [.int x.id, .int x.op.kind, .sl (x.op.so.inp.map Rw.e), .int x.op.so.pos, .sl (x.op.so.heap.map Rw.e), .sl (x.op.so.dfd.map Rw.e), .sl (x.op.so.out.map Rw.e), .sl (x.op.so.runs.map rsE), .int x.op.so.lp, .int x.op.so.rp, .int x.op.so.ph, .int x.op.so.wr, .sl (x.op.jn.pend.map Tk.e), .int x.op.jn.wr, .int x.op.jn.parts, .sl (x.op.ag.pend.map Gt.e), .int x.op.ag.wr, .bool x.op.ag.early, .sl (x.out.rows.map Rw.e), .sl (x.out.pairs.map Pr.e), .sl (x.out.groups.map Gr.e), .bool x.done]
def Sl.sz (x : Sl) : Nat := Opr.sz x.op + (Ou.sz x.out)
def Sl.bd (x : Sl) : Prop := I64 x.id ∧ Opr.bd x.op ∧ Ou.bd x.out ∧ BdT x.done
structure Br where
  pool : Int
  next : Int
  act : List Cl
  wait : List Cl
  deriving DecidableEq
def Br.e (x : Br) : List Dat := [.int x.pool, .int x.next, .sl (x.act.map Cl.e), .sl (x.wait.map Cl.e)]
def Br.sz (x : Br) : Nat := x.act.length + (x.wait.length)
def Br.bd (x : Br) : Prop := I64 x.pool ∧ I64 x.next ∧ BdL Cl.bd x.act ∧ BdL Cl.bd x.wait
structure Sy where
  br : Br
  slots : List Sl
  round : Int
  deriving DecidableEq
def Sy.e (x : Sy) : List Dat := [.int x.br.pool, .int x.br.next, .sl (x.br.act.map Cl.e), .sl (x.br.wait.map Cl.e), .sl (x.slots.map Sl.e), .int x.round]
def Sy.sz (x : Sy) : Nat := Br.sz x.br + (szL Sl.sz x.slots)
def Sy.bd (x : Sy) : Prop := Br.bd x.br ∧ BdL Sl.bd x.slots ∧ I64 x.round
structure Xc where
  pend : List (List Rw)
  que : List (List Rw)
  got : List (List Rw)
  cap : Int
  deriving DecidableEq
def Xc.e (x : Xc) : List Dat := [.sl (x.pend.map rsE), .sl (x.que.map rsE), .sl (x.got.map rsE), .int x.cap]
def Xc.sz (x : Xc) : Nat := szL List.length x.pend + (szL List.length x.que + (szL List.length x.got))
def Xc.bd (x : Xc) : Prop := BdL rsB x.pend ∧ BdL rsB x.que ∧ BdL rsB x.got ∧ I64 x.cap
structure Ck where
  so : So
  em : List Rw
  deriving DecidableEq
def Ck.e (x : Ck) : List Dat := [.sl (x.so.inp.map Rw.e), .int x.so.pos, .sl (x.so.heap.map Rw.e), .sl (x.so.dfd.map Rw.e), .sl (x.so.out.map Rw.e), .sl (x.so.runs.map rsE), .int x.so.lp, .int x.so.rp, .int x.so.ph, .int x.so.wr, .sl (x.em.map Rw.e)]
def Ck.sz (x : Ck) : Nat := So.sz x.so + (x.em.length)
def Ck.bd (x : Ck) : Prop := So.bd x.so ∧ BdL Rw.bd x.em
end Go.Proofs.YtceoogjanfbdcaaGreat.Vai
namespace Go.Proofs.YtceoogjanfbdcaaGreat.Vai
open Go
set_option linter.unusedSimpArgs false
set_option linter.unusedVariables false
set_option linter.unnecessarySimpa false
theorem in_mid' {p p' : Rows} (h : p.length = p'.length) (q : Rows) (r : List Dat) : inR (p.length : Int) (lenI (p' ++ r :: q)) = true := by rw [h]; exact in_mid p' q r
theorem at_mid' {p p' : Rows} (h : p.length = p'.length) (q : Rows) (r : List Dat) : at' (p' ++ r :: q) p.length = r := by rw [h]; exact at_mid p' q r
theorem upd_mid' {p p' : Rows} (h : p.length = p'.length) (q : Rows) (r : List Dat) (c : Nat) (ds : List Dat) : updR (p' ++ r :: q) p.length c ds = p' ++ setRange r c ds :: q := by rw [h]; exact upd_mid p' q r c ds
theorem lenI_map {α : Type} (e : α → List Dat) (l : List α) : lenI (l.map e) = (l.length : Int) := by show ((l.map e).length : Int) = _; rw [List.length_map]
theorem le0_len (x : Rows) : leI 0 (lenI x) = true := leT (by show (0 : Int) ≤ (x.length : Int); omega)
theorem eq_len {α : Type} {e : α → List Dat} {l l' : List α} (h : l.length = l'.length) : eqI (lenI (l.map e)) (lenI (l'.map e)) = true := eqT (by rw [lenI_map, lenI_map, h])
theorem ne_len {α : Type} {e : α → List Dat} {l l' : List α} (h : ¬ l.length = l'.length) : eqI (lenI (l.map e)) (lenI (l'.map e)) = false := eqF (by rw [lenI_map, lenI_map]; omega)
theorem sz_flat {n : Int} {x : Rows} {m : Nat} (h0 : 0 ≤ n) (h1 : n ≤ 1048576) (hx : x.length = m) (h : m ≤ 1152921504606846976) : (bif ltI (w64 (n - lenI x)) 0 then some [Dat.int (-1)] else some [.int (w64 (n - lenI x))]) = some [.int (szv n m)] := by
  have e : lenI x = (m : Int) := by show (x.length : Int) = _; rw [hx]
  rw [e, w64_id ⟨by omega, by omega⟩]
  unfold szv
  by_cases h2 : (m : Int) ≤ n
  · rw [ltF (by omega), if_pos h2]; rfl
  · rw [ltT (by omega), if_neg h2]; rfl
theorem sz_len {n : Int} {x : Rows} {m b : Nat} (h0 : 0 ≤ n) (h1 : n ≤ 1048576) (hx : x.length = m) (h : m ≤ 1152921504606846976) {X : Int → Option (List Dat)} (hX : (m : Int) ≤ n → X (n - m) = some [.int (szv (n - m) b)]) : (bif ltI (w64 (n - lenI x)) 0 then some [Dat.int (-1)] else X (w64 (n - lenI x))) = some [.int (szv n (m + b))] := by
  have e : lenI x = (m : Int) := by show (x.length : Int) = _; rw [hx]
  rw [e, w64_id ⟨by omega, by omega⟩]
  by_cases h2 : (m : Int) ≤ n
  · have := sz_chain (n := n) (a := m) (b := b) h0 (X := X (n - m)) (fun _ _ => hX h2)
    have e1 : szv n m = n - m := if_pos h2
    rw [e1] at this
    exact this
  · rw [ltT (by omega), cond_true]
    unfold szv
    rw [if_neg (by omega)]
end Go.Proofs.YtceoogjanfbdcaaGreat.Vai
namespace Go.Proofs.YtceoogjanfbdcaaGreat.Vai
open Go
set_option linter.unusedSimpArgs false
set_option linter.unusedVariables false
set_option linter.unnecessarySimpa false
set_option maxRecDepth 10000
theorem bif_bo (b : Bool) : (bif b then some [Dat.bool true] else some [.bool false]) = some [.bool b] := by cases b <;> rfl
theorem len_map {α : Type} (e : α → List Dat) (l : List α) : len (l.map e) = l.length := by show (l.map e).length = _; simp
theorem app_map {α : Type} (e : α → List Dat) (l : List α) (a : α) : List.append (l.map e) [e a] = (l ++ [a]).map e := by simp
theorem app_map2 {α : Type} (e : α → List Dat) (l m : List α) : List.append (l.map e) (m.map e) = (l ++ m).map e := by simp
def win (n a b : Int) : Bool := leI a n && leI n b
theorem within_ok (n a b : Int) : callI tE f_impl_within [.int n, .int a, .int b] = some [.bool (win n a b)] := by
  rw [c_impl_within]; unfold win; cases leI a n <;> rfl
theorem l1In_ok (n a b : Int) : callI tE f_spec_l1In [.int n, .int a, .int b] = some [.bool (win n a b)] := by
  rw [c_spec_l1In]; unfold win; cases leI a n <;> rfl
theorem win_iff {n a b : Int} : win n a b = true ↔ a ≤ n ∧ n ≤ b := by simp [win, leI]
def Rw.ok (r : Rw) : Bool := win r.k 0 9 && (win r.v 0 99 && win r.w 0 3)
theorem Rw.ok_iff {r : Rw} : r.ok = true ↔ (0 ≤ r.k ∧ r.k ≤ 9) ∧ (0 ≤ r.v ∧ r.v ≤ 99) ∧ 0 ≤ r.w ∧ r.w ≤ 3 := by simp [Rw.ok, win_iff]
theorem iValidRow (r : Rw) : callI tE f_impl_IsValidRow [.int r.k, .int r.v, .int r.w] = some [.bool r.ok] := by
  simp only [c_impl_IsValidRow, within_ok, gn_c, gb_c, gs_c, gl_c, tk_s, tk_0, List.drop_succ_cons, List.drop_zero, List.headD_cons, List.getD_cons_zero, List.getD_cons_succ, bind_s]
  unfold Rw.ok
  cases win r.k 0 9 <;> cases win r.v 0 99 <;> rfl
theorem sValidRow (r : Rw) : callI tE f_spec_IsValidRow [.int r.k, .int r.v, .int r.w] = some [.bool r.ok] := by
  simp only [c_spec_IsValidRow, l1In_ok, gn_c, gb_c, gs_c, gl_c, tk_s, tk_0, List.drop_succ_cons, List.drop_zero, List.headD_cons, List.getD_cons_zero, List.getD_cons_succ, bind_s]
  unfold Rw.ok
  cases win r.k 0 9 <;> cases win r.v 0 99 <;> rfl
theorem iAllValid (l : List Rw) (h : l.length < 4611686018427387904) : callI tE f_impl_allValid [.sl (l.map Rw.e)] = some [.bool (l.all Rw.ok)] := by
  rw [c_impl_allValid]
  have := all_loop (l := l) (L := L_impl_allValid_0 (l.map Rw.e) (lenI (l.map Rw.e))) (p := Rw.ok) (no := some [.bool false]) (yes := some [.bool true]) (by omega) (fun u a v e => by
    subst e
    rw [L_impl_allValid_0_eq]
    simp only [lt_m, in_m, tn_c, at_m, cond_true, gn_c, gb_c, gs_c, gl_c, tk_s, tk_0, List.drop_succ_cons, List.drop_zero, List.headD_cons, List.getD_cons_zero, List.getD_cons_succ, bind_s, Rw.e, iValidRow, bifn]) (by rw [L_impl_allValid_0_eq, lt_e, cond_false])
  exact this.trans (bif_bo _)
def aok (l : List Rw) : Bool := leI l.length 24 && l.all Rw.ok
theorem iAreValid (l : List Rw) : callI tE f_impl_AreValidRows [.sl (l.map Rw.e)] = some [.bool (aok l)] := by
  rw [c_impl_AreValidRows, lenI_map]
  unfold aok
  by_cases h : (l.length : Int) ≤ 24
  · rw [leT h, iAllValid l (by omega)]; rfl
  · rw [leF (by omega)]; rfl
theorem sAreValid (l : List Rw) (h : l.length < 4611686018427387904) : callI tE f_spec_AreValidRows [.sl (l.map Rw.e)] = some [.bool (aok l)] := by
  rw [c_spec_AreValidRows]
  have := all_loop (l := l) (L := L_spec_AreValidRows_0 (l.map Rw.e)) (p := Rw.ok) (no := some [.bool false]) (yes := some [.bool (leI l.length 24)]) (by omega) (fun u a v e => by
    subst e
    rw [L_spec_AreValidRows_0_eq]
    simp only [lt_m, in_m, tn_c, at_m, cond_true, gn_c, gb_c, gs_c, gl_c, tk_s, tk_0, List.drop_succ_cons, List.drop_zero, List.headD_cons, List.getD_cons_zero, List.getD_cons_succ, bind_s, Rw.e, sValidRow, bifn]) (by rw [L_spec_AreValidRows_0_eq, lt_e, cond_false, lenI_map])
  refine this.trans ?_
  unfold aok
  cases l.all Rw.ok <;> simp
theorem iClone (l : List Rw) (h : l.length ≤ 1099511627776) : callI tE f_impl_clone [.sl (l.map Rw.e)] = some [.sl (l.map Rw.e)] := by
  rw [c_impl_clone, len_map, fitT (by omega)]; rfl
def Rw.cost (r : Rw) : Nat := if r.ok then 1 + r.w.toNat else 0
def tcost (l : List Rw) : Nat := (l.map Rw.cost).sum
theorem cost_le (r : Rw) : r.cost ≤ 4 := by
  unfold Rw.cost
  split
  · rename_i h; have := Rw.ok_iff.mp h; omega
  · omega
theorem tcost_nil : tcost [] = 0 := rfl
theorem tcost_cons (a : Rw) (l : List Rw) : tcost (a :: l) = a.cost + tcost l := by simp [tcost]
theorem tcost_app (l m : List Rw) : tcost (l ++ m) = tcost l + tcost m := by simp [tcost]
theorem tcost_le (l : List Rw) : tcost l ≤ 4 * l.length := by
  induction l with
  | nil => exact Nat.le_refl _
  | cons a l ih => have := cost_le a; rw [tcost_cons, List.length_cons]; omega
theorem cost_int (r : Rw) : (bif !r.ok then some [Dat.int 0] else some [.int (w64 (1 + r.w))]) = some [.int (r.cost : Nat)] := by
  unfold Rw.cost
  cases h : r.ok
  · rfl
  · have := Rw.ok_iff.mp h
    rw [w64_id ⟨by omega, by omega⟩]
    simp only [Bool.not_true, cond_false, if_true]
    congr 3; omega
theorem iRowCost (r : Rw) : callI tE f_impl_RowCost [.int r.k, .int r.v, .int r.w] = some [.int (r.cost : Nat)] := by
  simp only [c_impl_RowCost, iValidRow, gn_c, gb_c, gs_c, gl_c, tk_s, tk_0, List.drop_succ_cons, List.drop_zero, List.headD_cons, List.getD_cons_zero, List.getD_cons_succ, bind_s, cost_int]
theorem sRowCost (r : Rw) : callI tE f_spec_RowCost [.int r.k, .int r.v, .int r.w] = some [.int (r.cost : Nat)] := by
  simp only [c_spec_RowCost, sValidRow, gn_c, gb_c, gs_c, gl_c, tk_s, tk_0, List.drop_succ_cons, List.drop_zero, List.headD_cons, List.getD_cons_zero, List.getD_cons_succ, bind_s, cost_int]
theorem tc_step {u : List Rw} {a : Rw} {n : Int} (hu : u.length < 1152921504606846976) (h : n = (tcost u : Nat)) : w64 (n + (a.cost : Nat)) = ((tcost (u ++ [a]) : Nat) : Int) := by
  have h1 := tcost_le u
  have h2 := cost_le a
  subst h
  rw [w64_id ⟨by omega, by omega⟩, tcost_app, tcost_cons, tcost_nil]; omega
theorem iTotalCost (l : List Rw) (h : l.length < 1152921504606846976) : callI tE f_impl_TotalCost [.sl (l.map Rw.e)] = some [.int (tcost l : Nat)] := by
  rw [c_impl_TotalCost]
  have := zip_loop (l := l) (L := fun s => L_impl_TotalCost_0 s (l.map Rw.e) (lenI (l.map Rw.e))) (F := fun _ _ => some [Dat.int (tcost l : Nat)]) (I := fun s u _ => s = (tcost u : Nat)) (by omega) (fun u a v s e hI => .inl ⟨(tcost (u ++ [a]) : Nat), by
    subst e
    have hu : u.length < 1152921504606846976 := by simp at h; omega
    show L_impl_TotalCost_0 _ _ _ _ = _
    rw [L_impl_TotalCost_0_eq]
    simp only [lt_m, in_m, tn_c, at_m, cond_true, gn_c, gb_c, gs_c, gl_c, tk_s, tk_0, List.drop_succ_cons, List.drop_zero, List.headD_cons, List.getD_cons_zero, List.getD_cons_succ, bind_s, Rw.e, iRowCost, tc_step hu hI], rfl, rfl⟩) (fun s hs => by rw [L_impl_TotalCost_0_eq, lt_e, cond_false, hs]) 0 rfl
  exact this
theorem sTotalCost (l : List Rw) (h : l.length < 1152921504606846976) : callI tE f_spec_TotalCost [.sl (l.map Rw.e)] = some [.int (tcost l : Nat)] := by
  rw [c_spec_TotalCost]
  have := zip_loop (l := l) (L := fun s => L_spec_TotalCost_0 (l.map Rw.e) s) (F := fun _ _ => some [Dat.int (tcost l : Nat)]) (I := fun s u _ => s = (tcost u : Nat)) (by omega) (fun u a v s e hI => .inl ⟨(tcost (u ++ [a]) : Nat), by
    subst e
    have hu : u.length < 1152921504606846976 := by simp at h; omega
    show L_spec_TotalCost_0 _ _ _ = _
    rw [L_spec_TotalCost_0_eq]
    simp only [lt_m, in_m, tn_c, at_m, cond_true, gn_c, gb_c, gs_c, gl_c, tk_s, tk_0, List.drop_succ_cons, List.drop_zero, List.headD_cons, List.getD_cons_zero, List.getD_cons_succ, bind_s, Rw.e, sRowCost, tc_step hu hI], rfl, rfl⟩) (fun s hs => by rw [L_spec_TotalCost_0_eq, lt_e, cond_false, hs]) 0 rfl
  exact this
def ord (a b : Int) : Int := if a < b then -1 else if b < a then 1 else 0
def cmpR (a b : Rw) : Int := if ord a.k b.k ≠ 0 then ord a.k b.k else if ord a.v b.v ≠ 0 then ord a.v b.v else ord a.w b.w
theorem order_ok (a b : Int) : callI tE f_impl_order [.int a, .int b] = some [.int (ord a b)] := by
  rw [c_impl_order]
  unfold ord
  by_cases h : a < b
  · rw [ltT h, if_pos h]; rfl
  · rw [ltF (by omega), if_neg h]
    by_cases h2 : b < a
    · rw [ltT h2, if_pos h2]; rfl
    · rw [ltF (by omega), if_neg h2]; rfl
theorem iCompare (a b : Rw) : callI tE f_impl_CompareRows [.int a.k, .int a.v, .int a.w, .int b.k, .int b.v, .int b.w] = some [.int (cmpR a b)] := by
  simp only [c_impl_CompareRows, order_ok, gn_c, gb_c, gs_c, gl_c, tk_s, tk_0, List.drop_succ_cons, List.drop_zero, List.headD_cons, List.getD_cons_zero, List.getD_cons_succ, bind_s, bifn]
  unfold cmpR
  by_cases h : ord a.k b.k = 0
  · rw [eqT h, if_neg (by simpa using h)]
    by_cases h2 : ord a.v b.v = 0
    · rw [eqT h2, if_neg (by simpa using h2)]; rfl
    · rw [eqF h2, if_pos h2]; rfl
  · rw [eqF h, if_pos h]; rfl
theorem sCompare (a b : Rw) : callI tE f_spec_CompareRows [.int a.k, .int a.v, .int a.w, .int b.k, .int b.v, .int b.w] = some [.int (cmpR a b)] := by
  have step : ∀ (i : Nat) (x y : Int) (rest : Option (List Dat)), i < 3 → gn (at' [[Dat.int a.k], [.int a.v], [.int a.w]] i) = x → gn (at' [[Dat.int b.k], [.int b.v], [.int b.w]] i) = y → L_spec_CompareRows_0 (w64 ((i : Int) + 1)) [[.int a.k], [.int a.v], [.int a.w]] [[.int b.k], [.int b.v], [.int b.w]] = rest →
      L_spec_CompareRows_0 (i : Int) [[.int a.k], [.int a.v], [.int a.w]] [[.int b.k], [.int b.v], [.int b.w]] = if ord x y ≠ 0 then some [.int (ord x y)] else rest := fun i x y rest hi hx hy hr => by
    rw [L_spec_CompareRows_0_eq, ltT (by omega), inRT (by omega) (show (i : Int) < lenI [[Dat.int a.k], [.int a.v], [.int a.w]] by show (i : Int) < 3; omega), inRT (by omega) (show (i : Int) < lenI [[Dat.int b.k], [.int b.v], [.int b.w]] by show (i : Int) < 3; omega), tn_c, hx, hy, hr]
    unfold ord
    by_cases h : x < y
    · rw [ltT h]; simp [h]
    · rw [ltF (by omega)]
      by_cases h2 : y < x
      · rw [ltT h2]; simp [h, h2]
      · rw [ltF (by omega)]; simp [h, h2]
  rw [c_spec_CompareRows]
  have e3 : L_spec_CompareRows_0 (w64 (((2 : Nat) : Int) + 1)) [[.int a.k], [.int a.v], [.int a.w]] [[.int b.k], [.int b.v], [.int b.w]] = some [.int 0] := by
    rw [L_spec_CompareRows_0_eq]; rfl
  have e2 := step 2 a.w b.w _ (by omega) rfl rfl e3
  have e1 := step 1 a.v b.v _ (by omega) rfl rfl e2
  have e0 := step 0 a.k b.k _ (by omega) rfl rfl e1
  refine e0.trans ?_
  unfold cmpR
  by_cases h : ord a.k b.k = 0 <;> by_cases h2 : ord a.v b.v = 0 <;> by_cases h3 : ord a.w b.w = 0 <;> simp [h, h2, h3]
theorem ord_0 {a b : Int} : ord a b = 0 ↔ a = b := by
  unfold ord
  split
  · omega
  · split <;> omega
theorem ord_neg {a b : Int} : ord a b < 0 ↔ a < b := by
  unfold ord
  split
  · omega
  · split <;> omega
theorem ord_pos {a b : Int} : 0 < ord a b ↔ b < a := by
  unfold ord
  split
  · omega
  · split <;> omega
def Rw.lt (a b : Rw) : Prop := a.k < b.k ∨ a.k = b.k ∧ (a.v < b.v ∨ a.v = b.v ∧ a.w < b.w)
instance (a b : Rw) : Decidable (Rw.lt a b) := by unfold Rw.lt; infer_instance
theorem cmp_neg {a b : Rw} : cmpR a b < 0 ↔ Rw.lt a b := by
  unfold cmpR Rw.lt
  by_cases h : ord a.k b.k = 0
  · have := ord_0.mp h
    rw [if_neg (by simpa using h)]
    by_cases h2 : ord a.v b.v = 0
    · have := ord_0.mp h2
      rw [if_neg (by simpa using h2), ord_neg]; omega
    · have h3 := mt ord_0.mpr h2
      rw [if_pos h2, ord_neg]; omega
  · have h3 := mt ord_0.mpr h
    rw [if_pos h, ord_neg]; omega
theorem cmp_pos {a b : Rw} : 0 < cmpR a b ↔ Rw.lt b a := by
  unfold cmpR Rw.lt
  by_cases h : ord a.k b.k = 0
  · have := ord_0.mp h
    rw [if_neg (by simpa using h)]
    by_cases h2 : ord a.v b.v = 0
    · have := ord_0.mp h2
      rw [if_neg (by simpa using h2), ord_pos]; omega
    · have h3 := mt ord_0.mpr h2
      rw [if_pos h2, ord_pos]; omega
  · have h3 := mt ord_0.mpr h
    rw [if_pos h, ord_pos]; omega
theorem Rw.eq_of {a b : Rw} (h1 : a.k = b.k) (h2 : a.v = b.v) (h3 : a.w = b.w) : a = b := by cases a; cases b; simp_all
theorem Rw.lt_or {a b : Rw} : Rw.lt a b ∨ a = b ∨ Rw.lt b a := by
  unfold Rw.lt
  by_cases h1 : a.k = b.k <;> by_cases h2 : a.v = b.v <;> by_cases h3 : a.w = b.w
  · exact .inr (.inl (Rw.eq_of h1 h2 h3))
  all_goals omega
theorem Rw.lt_irr (a : Rw) : ¬ Rw.lt a a := by unfold Rw.lt; omega
theorem Rw.lt_tr {a b c : Rw} (h : Rw.lt a b) (h2 : Rw.lt b c) : Rw.lt a c := by unfold Rw.lt at *; omega
def Rw.le (a b : Rw) : Prop := ¬ Rw.lt b a
instance (a b : Rw) : Decidable (Rw.le a b) := by unfold Rw.le; infer_instance
theorem Rw.le_rfl (a : Rw) : Rw.le a a := Rw.lt_irr a
theorem Rw.le_tr {a b c : Rw} (h : Rw.le a b) (h2 : Rw.le b c) : Rw.le a c := by
  intro h3
  rcases Rw.lt_or (a := a) (b := b) with q | q | q
  · exact h2 (Rw.lt_tr h3 q)
  · subst q; exact h2 h3
  · exact h q
theorem Rw.le_antisymm {a b : Rw} (h : Rw.le a b) (h2 : Rw.le b a) : a = b := by
  rcases Rw.lt_or (a := a) (b := b) with q | q | q
  · exact absurd q h2
  · exact q
  · exact absurd q h
theorem Rw.lt_le {a b : Rw} (h : Rw.lt a b) : Rw.le a b := fun h2 => Rw.lt_irr a (Rw.lt_tr h h2)
theorem lt_cmp0 (a b : Rw) : ltI (cmpR a b) 0 = decide (Rw.lt a b) := by
  simp only [ltI, cmp_neg]
theorem lt_cmp0' (a b : Rw) : ltI 0 (cmpR a b) = decide (Rw.lt b a) := by
  simp only [ltI, cmp_pos]
theorem le_cmp0 (a b : Rw) : leI (cmpR a b) 0 = decide (Rw.le a b) := by
  have := cmp_pos (a := a) (b := b)
  simp only [leI, Rw.le]
  congr 1
  exact propext ⟨fun h h2 => by have := this.mpr h2; omega, fun h => by have := mt this.mp h; omega⟩
theorem eq_Rw3 (a b : Rw) : (eqI a.k b.k && (eqI a.v b.v && (eqI a.w b.w && Bool.true))) = decide (a = b) := by
  have e : decide (a = b) = (decide (a.k = b.k) && (decide (a.v = b.v) && decide (a.w = b.w))) := by
    cases a; cases b
    simp only [Rw.mk.injEq, Bool.decide_and]
  simp only [e, eqI, Bool.and_true]
theorem iEqual (l l' : List Rw) (h : l.length ≤ 1152921504606846976) : callI tE f_impl_equal [.sl (l.map Rw.e), .sl (l'.map Rw.e)] = some [.bool (decide (l = l'))] := by
  rw [c_impl_equal]
  by_cases hll : l.length = l'.length
  · rw [eq_len hll, Bool.not_true, cond_false]
    have := eq_loop (L := fun x y i => L_impl_equal_0 x y (lenI x) i) (e := Rw.e) (P := fun _ => True) (fun p q p' q' a b _ hpl hlt => by
      rw [L_impl_equal_0_eq]
      simp only [lt_mid, in_mid, tn_c, at_mid, cond_true, cond_false, gn_c, gb_c, gs_c, gl_c, tk_s, tk_0, List.drop_succ_cons, List.drop_zero, List.headD_cons, List.getD_cons_zero, List.getD_cons_succ, bind_s, in_mid' hpl, at_mid' hpl, Rw.e, eq_Rw3, bifn]) (fun p p' hpl => by
      rw [L_impl_equal_0_eq, lt_end, cond_false]) l l' [] [] rfl hll (fun a ha => trivial) (by simp; omega)
    simpa using this
  · rw [ne_len hll, Bool.not_false, cond_true, decide_eq_false (fun e => hll (by rw [e]))]
theorem sEqual (l l' : List Rw) (h : l.length ≤ 1152921504606846976) : callI tE f_spec_l6Rows [.sl (l.map Rw.e), .sl (l'.map Rw.e)] = some [.bool (decide (l = l'))] := by
  rw [c_spec_l6Rows]
  by_cases hll : l.length = l'.length
  · rw [eq_len hll, Bool.not_true, cond_false]
    have := eq_loop (L := L_spec_l6Rows_0) (e := Rw.e) (P := fun _ => True) (fun p q p' q' a b _ hpl hlt => by
      rw [L_spec_l6Rows_0_eq]
      simp only [lt_mid, in_mid, tn_c, at_mid, cond_true, cond_false, gn_c, gb_c, gs_c, gl_c, tk_s, tk_0, List.drop_succ_cons, List.drop_zero, List.headD_cons, List.getD_cons_zero, List.getD_cons_succ, bind_s, in_mid' hpl, at_mid' hpl, Rw.e, eq_Rw3, bifn]) (fun p p' hpl => by
      rw [L_spec_l6Rows_0_eq, lt_end, cond_false]) l l' [] [] rfl hll (fun a ha => trivial) (by simp; omega)
    simpa using this
  · rw [ne_len hll, Bool.not_false, cond_true, decide_eq_false (fun e => hll (by rw [e]))]
end Go.Proofs.YtceoogjanfbdcaaGreat.Vai
namespace Go.Proofs.YtceoogjanfbdcaaGreat.Vai
open Go
set_option linter.unusedSimpArgs false
set_option linter.unusedVariables false
set_option linter.unnecessarySimpa false
set_option maxRecDepth 10000
theorem rw_of (r : Rw) : [Dat.int r.k, .int r.v, .int r.w] = r.e := rfl
theorem upd_rw (u v : List Rw) (a d : Rw) : updR ((u ++ a :: v).map Rw.e) u.length 0 d.e = (u ++ d :: v).map Rw.e := by
  rw [upd_m]
  have : setRange (Rw.e a) 0 d.e = d.e := rfl
  rw [this]
  simp
theorem gk (r : Rw) : gn r.e = r.k := rfl
theorem gv (r : Rw) : gn (tk 1 r.e) = r.v := rfl
theorem gw (r : Rw) : gn (tk 2 r.e) = r.w := rfl
theorem at_i {α : Type} {e : α → List Dat} {l u v : List α} {a : α} {i : Nat} (h : l = u ++ a :: v) (hi : u.length = i) : at' (l.map e) i = e a := by rw [h, ← hi]; exact at_m u v a
theorem in_i {α : Type} {e : α → List Dat} {l : List α} {i : Nat} (hi : i < l.length) : inR (i : Int) (lenI (l.map e)) = true := inRT (by omega) (by rw [lenI_map]; omega)
theorem upd_i {l u v : List Rw} {a d : Rw} {i : Nat} (h : l = u ++ a :: v) (hi : u.length = i) : updR (l.map Rw.e) i 0 [.int d.k, .int d.v, .int d.w] = (u ++ d :: v).map Rw.e := by rw [h, ← hi]; exact upd_rw u v a d
theorem swap_eq {l p q s : List Rw} {a b : Rw} {i j : Nat} (h : l = p ++ a :: (q ++ b :: s)) (hi : p.length = i) (hj : p.length + 1 + q.length = j) (hl : l.length < 4611686018427387904) {X : Option (List Dat)} {K : Rows → Option (List Dat)} (hK : K ((p ++ b :: (q ++ a :: s)).map Rw.e) = X) :
    (bif inR (j : Int) (lenI (l.map Rw.e)) then (bif inR (i : Int) (lenI (l.map Rw.e)) then (bif inR (i : Int) (lenI (l.map Rw.e)) then
      (bif inR (j : Int) (lenI (updR (l.map Rw.e) (tn (i : Int)) 0 [.int (gn (at' (l.map Rw.e) (tn (j : Int)))), .int (gn (tk 1 (at' (l.map Rw.e) (tn (j : Int))))), .int (gn (tk 2 (at' (l.map Rw.e) (tn (j : Int)))))])) then
        K (updR (updR (l.map Rw.e) (tn (i : Int)) 0 [.int (gn (at' (l.map Rw.e) (tn (j : Int)))), .int (gn (tk 1 (at' (l.map Rw.e) (tn (j : Int))))), .int (gn (tk 2 (at' (l.map Rw.e) (tn (j : Int)))))]) (tn (j : Int)) 0 [.int (gn (at' (l.map Rw.e) (tn (i : Int)))), .int (gn (tk 1 (at' (l.map Rw.e) (tn (i : Int))))), .int (gn (tk 2 (at' (l.map Rw.e) (tn (i : Int)))))])
        else none) else none) else none) else none) = X := by
  have hb : at' (l.map Rw.e) j = b.e := at_i (u := p ++ a :: q) (v := s) (by rw [h]; simp) (by simp; omega)
  have ha : at' (l.map Rw.e) i = a.e := at_i h hi
  have hlen : l.length = p.length + 1 + q.length + 1 + s.length := by rw [h]; simp; omega
  have h1 : updR (l.map Rw.e) i 0 [.int b.k, .int b.v, .int b.w] = (p ++ b :: (q ++ b :: s)).map Rw.e := upd_i h hi
  have h2 : updR ((p ++ b :: (q ++ b :: s)).map Rw.e) j 0 [.int a.k, .int a.v, .int a.w] = (p ++ b :: (q ++ a :: s)).map Rw.e := by
    rw [upd_i (u := p ++ b :: q) (v := s) (a := b) (by simp) (by simp; omega)]
    simp
  simp only [tn_c, hb, ha, gk, gv, gw, h1, h2]
  rw [in_i (by omega), in_i (by omega), in_i (by simp; omega)]
  exact hK
theorem swapRange_ok : ∀ (u2 v2 : List Rw) (p u1 q v1 s : List Rw), u2.length = v2.length → u1.length = v1.length → (p ++ (v1 ++ (u2 ++ (q ++ (u1 ++ (v2 ++ s)))))).length < 4611686018427387904 →
    L_slices_swapRangeCmpFunc_Row_0 (p.length : Nat) ((p.length + v1.length + u2.length + q.length : Nat) : Int) ((v1.length + u2.length : Nat) : Int) (v1.length : Nat) ((p ++ (v1 ++ (u2 ++ (q ++ (u1 ++ (v2 ++ s)))))).map Rw.e) =
      some [.sl ((p ++ (v1 ++ (v2 ++ (q ++ (u1 ++ (u2 ++ s)))))).map Rw.e)]
  | [], [], p, u1, q, v1, s, _, _, _ => by
    rw [L_slices_swapRangeCmpFunc_Row_0_eq, ltF (by simp), cond_false]
  | [], _ :: _, _, _, _, _, _, h, _, _ => by simp at h
  | _ :: _, [], _, _, _, _, _, h, _, _ => by simp at h
  | c :: u2, d :: v2, p, u1, q, v1, s, h, h2, hl => by
    have hl' := hl
    simp only [List.length_append, List.length_cons] at hl' h
    rw [L_slices_swapRangeCmpFunc_Row_0_eq, ltT (by simp only [List.length_cons]; omega), cond_true]
    rw [show w64 ((p.length : Int) + (v1.length : Nat)) = ((p.length + v1.length : Nat) : Int) by rw [w64_id ⟨by omega, by omega⟩]; omega]
    rw [show w64 (((p.length + v1.length + (c :: u2).length + q.length : Nat) : Int) + (v1.length : Nat)) = ((p.length + v1.length + (c :: u2).length + q.length + v1.length : Nat) : Int) by simp only [List.length_cons]; rw [w64_id ⟨by omega, by omega⟩]; omega]
    refine swap_eq (l := p ++ (v1 ++ (c :: u2 ++ (q ++ (u1 ++ (d :: v2 ++ s)))))) (p := p ++ v1) (q := u2 ++ (q ++ u1)) (s := v2 ++ s) (a := c) (b := d) (by simp) (by simp) (by simp; omega) hl
      (K := fun X => L_slices_swapRangeCmpFunc_Row_0 (p.length : Nat) ((p.length + v1.length + (c :: u2).length + q.length : Nat) : Int) ((v1.length + (c :: u2).length : Nat) : Int) (w64 ((v1.length : Nat) + 1)) X) ?_
    have ih := swapRange_ok u2 v2 p (u1 ++ [c]) q (v1 ++ [d]) s (by omega) (by simp [h2]) (by simp only [List.length_append, List.length_cons, List.length_nil]; omega)
    show L_slices_swapRangeCmpFunc_Row_0 _ _ _ _ _ = _
    rw [w64_s (by omega)]
    have e1 : (p ++ v1 ++ d :: (u2 ++ (q ++ u1) ++ c :: (v2 ++ s))) = (p ++ (v1 ++ [d] ++ (u2 ++ (q ++ (u1 ++ [c] ++ (v2 ++ s)))))) := by simp
    have e2 : (p ++ (v1 ++ (d :: v2 ++ (q ++ (u1 ++ (c :: u2 ++ s)))))) = (p ++ (v1 ++ [d] ++ (v2 ++ (q ++ (u1 ++ [c] ++ (u2 ++ s)))))) := by simp
    rw [e1, e2, ← ih]
    congr 1 <;> simp only [List.length_append, List.length_cons, List.length_nil] <;> omega
theorem swapRange (p u q v s : List Rw) (h : u.length = v.length) (hl : (p ++ (u ++ (q ++ (v ++ s)))).length < 4611686018427387904) {a b n : Int} (ha : a = (p.length : Nat)) (hb : b = ((p.length + u.length + q.length : Nat) : Int)) (hn : n = (u.length : Nat)) :
    callI tE f_slices_swapRangeCmpFunc_Row [.sl ((p ++ (u ++ (q ++ (v ++ s)))).map Rw.e), .int a, .int b, .int n] = some [.sl ((p ++ (v ++ (q ++ (u ++ s)))).map Rw.e)] := by
  rw [c_slices_swapRangeCmpFunc_Row, ha, hb, hn]
  have := swapRange_ok u v p [] q [] s h rfl (by simpa using hl)
  simp only [List.nil_append, List.length_nil, Nat.add_zero, Nat.zero_add] at this
  exact this
theorem rotate_ok : ∀ (n : Nat) (u v p s : List Rw) (a m b : Int) (m0 : Nat), u.length + v.length ≤ n → 0 < u.length → 0 < v.length → (p ++ (u ++ (v ++ s))).length < 1152921504606846976 → m0 = p.length + u.length → m = (m0 : Nat) →
    L_slices_rotateCmpFunc_Row_0 a m b (u.length : Nat) (v.length : Nat) ((p ++ (u ++ (v ++ s))).map Rw.e) = some [.sl ((p ++ (v ++ (u ++ s))).map Rw.e)] := by
  intro n
  induction n with
  | zero => intro u v p s a m b m0 h h1 h2; omega
  | succ n ih =>
    intro u v p s a m b m0 h h1 h2 hl hm0 hm
    have hl' := hl
    simp only [List.length_append] at hl'
    rw [L_slices_rotateCmpFunc_Row_0_eq, hm]
    have e0 : w64 ((m0 : Int) - (u.length : Nat)) = (p.length : Nat) := by rw [w64_id ⟨by omega, by omega⟩]; omega
    by_cases he : u.length = v.length
    · have := swapRange p u [] v s he (by simp only [List.length_append, List.length_nil]; omega) (a := (p.length : Nat)) (b := (m0 : Nat)) (n := (u.length : Nat)) rfl (by simp only [List.length_nil]; omega) rfl
      simp only [List.nil_append] at this
      rw [eqT (by omega), Bool.not_true, cond_false, e0, this]
      rfl
    · rw [eqF (by omega), Bool.not_false, cond_true]
      by_cases hlt : v.length < u.length
      · rw [ltT (by omega), cond_true, e0]
        obtain ⟨u1, u2, rfl, hu1⟩ : ∃ u1 u2, u = u1 ++ u2 ∧ u1.length = v.length := ⟨u.take v.length, u.drop v.length, (List.take_append_drop _ _).symm, by simp; omega⟩
        simp only [List.length_append] at *
        have := swapRange p u1 u2 v s hu1 (by simp only [List.length_append]; omega) (a := (p.length : Nat)) (b := (m0 : Nat)) (n := (v.length : Nat)) rfl (by omega) (by omega)
        rw [show p ++ (u1 ++ u2 ++ (v ++ s)) = p ++ (u1 ++ (u2 ++ (v ++ s))) by simp, this]
        simp only [gn_c, gb_c, gs_c, gl_c, tk_s, tk_0, List.drop_succ_cons, List.drop_zero, List.headD_cons, List.getD_cons_zero, List.getD_cons_succ, bind_s]
        rw [show w64 (((u1.length + u2.length : Nat) : Int) - (v.length : Nat)) = (u2.length : Nat) by rw [w64_id ⟨by omega, by omega⟩]; omega]
        have := ih u2 u1 (p ++ v) s a m b m0 (by omega) (by omega) (by omega) (by simp only [List.length_append]; omega) (by simp only [List.length_append]; omega) hm
        rw [hm, hu1] at this
        rw [show p ++ (v ++ (u2 ++ (u1 ++ s))) = p ++ v ++ (u2 ++ (u1 ++ s)) by simp, this]
        simp
      · rw [ltF (by omega), cond_false, e0]
        obtain ⟨v1, v2, rfl, hv2⟩ : ∃ v1 v2, v = v1 ++ v2 ∧ v2.length = u.length := ⟨v.take (v.length - u.length), v.drop (v.length - u.length), (List.take_append_drop _ _).symm, by simp; omega⟩
        simp only [List.length_append] at *
        have e1 : w64 (w64 ((m0 : Int) + ((v1.length + v2.length : Nat) : Int)) - (u.length : Nat)) = ((p.length + u.length + v1.length : Nat) : Int) := by
          rw [w64_id (n := (m0 : Int) + ((v1.length + v2.length : Nat) : Int)) ⟨by omega, by omega⟩, w64_id ⟨by omega, by omega⟩]; omega
        have := swapRange p u v1 v2 s hv2.symm (by simp only [List.length_append]; omega) (a := (p.length : Nat)) (b := ((p.length + u.length + v1.length : Nat) : Int)) (n := (u.length : Nat)) rfl rfl rfl
        rw [e1, show p ++ (u ++ (v1 ++ v2 ++ s)) = p ++ (u ++ (v1 ++ (v2 ++ s))) by simp, this]
        simp only [gn_c, gb_c, gs_c, gl_c, tk_s, tk_0, List.drop_succ_cons, List.drop_zero, List.headD_cons, List.getD_cons_zero, List.getD_cons_succ, bind_s]
        rw [show w64 (((v1.length + v2.length : Nat) : Int) - (u.length : Nat)) = (v1.length : Nat) by rw [w64_id ⟨by omega, by omega⟩]; omega]
        have := ih v2 v1 p (u ++ s) a m b m0 (by omega) (by omega) (by omega) (by simp only [List.length_append]; omega) (by omega) hm
        rw [hm, hv2] at this
        rw [this]
        simp
theorem rotate (p u v s : List Rw) (h1 : 0 < u.length) (h2 : 0 < v.length) (hl : (p ++ (u ++ (v ++ s))).length < 1152921504606846976) {a m b : Int} (ha : a = (p.length : Nat)) (hm : m = ((p.length + u.length : Nat) : Int)) (hb : b = ((p.length + u.length + v.length : Nat) : Int)) :
    callI tE f_slices_rotateCmpFunc_Row [.sl ((p ++ (u ++ (v ++ s))).map Rw.e), .int a, .int m, .int b] = some [.sl ((p ++ (v ++ (u ++ s))).map Rw.e)] := by
  have hl' := hl
  simp only [List.length_append] at hl'
  rw [c_slices_rotateCmpFunc_Row, show w64 (m - a) = (u.length : Nat) by rw [ha, hm, w64_id ⟨by omega, by omega⟩]; omega, show w64 (b - m) = (v.length : Nat) by rw [hb, hm, w64_id ⟨by omega, by omega⟩]; omega]
  exact rotate_ok _ u v p s a m b _ (Nat.le_refl _) h1 h2 hl rfl hm
end Go.Proofs.YtceoogjanfbdcaaGreat.Vai
namespace Go.Proofs.YtceoogjanfbdcaaGreat.Vai
open Go
set_option linter.unusedSimpArgs false
set_option linter.unusedVariables false
set_option linter.unnecessarySimpa false
set_option maxRecDepth 10000
theorem swap_eq2 {l p s : List Rw} {a b : Rw} {i j : Nat} (h : l = p ++ a :: b :: s) (hi : p.length = i) (hj : j = i + 1) (hl : l.length < 4611686018427387904) {X : Option (List Dat)} {K : Rows → Option (List Dat)} (hK : K ((p ++ b :: a :: s).map Rw.e) = X) :
    (bif inR (i : Int) (lenI (l.map Rw.e)) then (bif inR (j : Int) (lenI (l.map Rw.e)) then (bif inR (j : Int) (lenI (l.map Rw.e)) then
      (bif inR (i : Int) (lenI (updR (l.map Rw.e) (tn (j : Int)) 0 [.int (gn (at' (l.map Rw.e) (tn (i : Int)))), .int (gn (tk 1 (at' (l.map Rw.e) (tn (i : Int))))), .int (gn (tk 2 (at' (l.map Rw.e) (tn (i : Int)))))])) then
        K (updR (updR (l.map Rw.e) (tn (j : Int)) 0 [.int (gn (at' (l.map Rw.e) (tn (i : Int)))), .int (gn (tk 1 (at' (l.map Rw.e) (tn (i : Int))))), .int (gn (tk 2 (at' (l.map Rw.e) (tn (i : Int)))))]) (tn (i : Int)) 0 [.int (gn (at' (l.map Rw.e) (tn (j : Int)))), .int (gn (tk 1 (at' (l.map Rw.e) (tn (j : Int))))), .int (gn (tk 2 (at' (l.map Rw.e) (tn (j : Int)))))])
        else none) else none) else none) else none) = X := by
  have hb : at' (l.map Rw.e) j = b.e := at_i (u := p ++ [a]) (v := s) (by rw [h]; simp) (by simp; omega)
  have ha : at' (l.map Rw.e) i = a.e := at_i h hi
  have hlen : l.length = p.length + 1 + 1 + s.length := by rw [h]; simp; omega
  have h1 : updR (l.map Rw.e) j 0 [.int a.k, .int a.v, .int a.w] = (p ++ a :: a :: s).map Rw.e := by
    rw [upd_i (u := p ++ [a]) (v := s) (a := b) (by rw [h]; simp) (by simp; omega)]
    simp
  have h2 : updR ((p ++ a :: a :: s).map Rw.e) i 0 [.int b.k, .int b.v, .int b.w] = (p ++ b :: a :: s).map Rw.e := upd_i rfl hi
  simp only [tn_c, hb, ha, gk, gv, gw, h1, h2]
  rw [in_i (by omega), in_i (by omega), in_i (by simp; omega)]
  exact hK
theorem half_ok (i j : Nat) (h : i + j < 4611686018427387904) : w64 ((Go.IntKind.wrap .u64 (w64 ((i : Int) + (j : Int)))) / (Int.pow 2 (ite ((tn 1) ≤ (Go.IntKind.bits .u64)) (tn 1) 64))) = (((i + j) / 2 : Nat) : Int) := by
  have e1 : (Int.pow 2 (ite ((tn 1) ≤ (Go.IntKind.bits .u64)) (tn 1) 64)) = 2 := rfl
  have e2 : Go.IntKind.wrap .u64 ((i : Int) + (j : Int)) = (i : Int) + (j : Int) := by
    have e : (2 : Int) ^ 64 = 18446744073709551616 := by decide
    simp only [IntKind.wrap, IntKind.signed, IntKind.bits, Bool.false_and, Bool.false_eq_true, if_false, e]
    omega
  rw [e1, w64_id (n := (i : Int) + (j : Int)) ⟨by omega, by omega⟩, e2, w64_id ⟨by omega, by omega⟩]
  omega
abbrev Srt (l : List Rw) : Prop := l.Pairwise Rw.le
theorem srt_unique : ∀ {l l' : List Rw}, l.Perm l' → Srt l → Srt l' → l = l'
  | [], l', h, _, _ => by have := h.length_eq; exact (List.length_eq_zero_iff.mp (by simpa using this.symm)).symm
  | a :: l, [], h, _, _ => by have := h.length_eq; simp at this
  | a :: l, b :: l', h, s, s' => by
    have hab : a = b := by
      have h1 : b ∈ a :: l := h.mem_iff.mpr (by simp)
      have h2 : a ∈ b :: l' := h.mem_iff.mp (by simp)
      rcases List.mem_cons.mp h1 with h1 | h1
      · exact h1.symm
      · rcases List.mem_cons.mp h2 with h2 | h2
        · exact h2
        · exact Rw.le_antisymm ((List.pairwise_cons.mp s).1 b h1) ((List.pairwise_cons.mp s').1 a h2)
    subst hab
    rw [srt_unique (h.cons_inv) (List.pairwise_cons.mp s).2 (List.pairwise_cons.mp s').2]
theorem bs {β : Type} {L : Nat → Nat → β} {K : Nat → β} {t lo hi : Nat} (hs : ∀ i j, lo ≤ i → i < j → j ≤ hi → L i j = if (i + j) / 2 < t then L ((i + j) / 2 + 1) j else L i ((i + j) / 2)) (he : ∀ i, lo ≤ i → i ≤ hi → L i i = K i) :
    ∀ (n i j : Nat), j - i ≤ n → lo ≤ i → i ≤ t → t ≤ j → j ≤ hi → L i j = K t := by
  intro n
  induction n with
  | zero =>
    intro i j h h1 h2 h3 h4
    have e1 : i = t := by omega
    have e2 : j = t := by omega
    rw [e1, e2]
    exact he t (by omega) (by omega)
  | succ n ih =>
    intro i j h h1 h2 h3 h4
    by_cases hij : i < j
    · rw [hs i j h1 hij h4]
      split
      · exact ih _ _ (by omega) (by omega) (by omega) h3 h4
      · exact ih _ _ (by omega) h1 h2 (by omega) (by omega)
    · have e1 : i = t := by omega
      have e2 : j = t := by omega
      rw [e1, e2]
      exact he t (by omega) (by omega)
theorem split_ex (P : Nat → Prop) [DecidablePred P] (lo : Nat) : ∀ (n : Nat), (∀ c d, lo ≤ c → c ≤ d → d < lo + n → P d → P c) → ∃ t, lo ≤ t ∧ t ≤ lo + n ∧ ∀ c, lo ≤ c → c < lo + n → (P c ↔ c < t)
  | 0, _ => ⟨lo, Nat.le_refl _, Nat.le_refl _, fun c h1 h2 => by omega⟩
  | n + 1, hm => by
    obtain ⟨t, h1, h2, h3⟩ := split_ex P lo n (fun c d a b e => hm c d a b (by omega))
    by_cases hp : P (lo + n)
    · refine ⟨lo + n + 1, by omega, by omega, fun c a b => ⟨fun _ => by omega, fun _ => hm c (lo + n) a (by omega) (by omega) hp⟩⟩
    · refine ⟨t, h1, by omega, fun c a b => ?_⟩
      by_cases hc : c < lo + n
      · exact h3 c a hc
      · have : c = lo + n := by omega
        subst this
        exact ⟨fun h => absurd h hp, fun h => by omega⟩
def nth (x : List Rw) (i : Nat) : Rw := x.getD i ⟨0, 0, 0⟩
theorem at_nth {x : List Rw} {i : Nat} (h : i < x.length) : at' (x.map Rw.e) i = (nth x i).e := by
  obtain ⟨u, a, v, rfl, rfl⟩ : ∃ u a v, x = u ++ a :: v ∧ u.length = i := ⟨x.take i, x[i], x.drop (i + 1), by
    have := List.take_append_drop i x
    rw [List.drop_eq_getElem_cons h] at this
    exact this.symm, by simp; omega⟩
  rw [at_m]
  simp [nth, List.getD_eq_getElem?_getD]
theorem nth_app1 (u v : List Rw) {i : Nat} (h : i < u.length) : nth (u ++ v) i = nth u i := by
  simp [nth, List.getD_eq_getElem?_getD, List.getElem?_append_left h]
theorem nth_app2 (u v : List Rw) {i : Nat} (h : u.length ≤ i) : nth (u ++ v) i = nth v (i - u.length) := by
  simp [nth, List.getD_eq_getElem?_getD, List.getElem?_append_right h]
theorem mem_nth {u : List Rw} {a : Rw} (h : a ∈ u) : ∃ i, i < u.length ∧ nth u i = a := by
  obtain ⟨i, hi⟩ := List.getElem?_of_mem h
  obtain ⟨h1, h2⟩ := List.getElem?_eq_some_iff.mp hi
  exact ⟨i, h1, by simp [nth, List.getD_eq_getElem?_getD, hi]⟩
theorem srt_nth {u : List Rw} (h : Srt u) {i j : Nat} (hij : i ≤ j) (hj : j < u.length) : Rw.le (nth u i) (nth u j) := by
  by_cases e : i = j
  · subst e; exact Rw.le_rfl _
  · have := List.pairwise_iff_getElem.mp h i j (by omega) hj (by omega)
    simpa [nth, List.getD_eq_getElem?_getD, hj, show i < u.length by omega] using this
theorem cut_at {u : List Rw} {t : Nat} (h : t ≤ u.length) : ∃ u1 u2, u = u1 ++ u2 ∧ u1.length = t := ⟨u.take t, u.drop t, (List.take_append_drop _ _).symm, by simp; omega⟩
end Go.Proofs.YtceoogjanfbdcaaGreat.Vai
namespace Go.Proofs.YtceoogjanfbdcaaGreat.Vai
open Go
set_option linter.unusedSimpArgs false
set_option linter.unusedVariables false
set_option linter.unnecessarySimpa false
set_option maxRecDepth 10000
theorem cmp_at {x : List Rw} {i j : Nat} (hi : i < x.length) (hj : j < x.length) {X : Option (List Dat)} {K : List Dat → Option (List Dat)} (h : K [.int (cmpR (nth x i) (nth x j))] = X) :
    (callI tE f_impl_CompareRows [.int (gn (at' (x.map Rw.e) (tn (i : Int)))), .int (gn (tk 1 (at' (x.map Rw.e) (tn (i : Int))))), .int (gn (tk 2 (at' (x.map Rw.e) (tn (i : Int))))), .int (gn (at' (x.map Rw.e) (tn (j : Int)))), .int (gn (tk 1 (at' (x.map Rw.e) (tn (j : Int))))), .int (gn (tk 2 (at' (x.map Rw.e) (tn (j : Int)))))]).bind K = X := by
  simp only [tn_c, at_nth hi, at_nth hj, gk, gv, gw]
  rw [iCompare]
  exact h
theorem w64_add (a b : Nat) (h : a + b < 9223372036854775807) : w64 ((a : Int) + (b : Int)) = ((a + b : Nat) : Int) := by rw [w64_id ⟨by omega, by omega⟩]; omega
theorem w64_sub {a b : Nat} (h : b ≤ a) (h2 : a < 9223372036854775807) : w64 ((a : Int) - (b : Int)) = ((a - b : Nat) : Int) := by rw [w64_id ⟨by omega, by omega⟩]; omega
theorem w64_pred {a : Nat} (h : 1 ≤ a) (h2 : a < 9223372036854775807) : w64 ((a : Int) - 1) = ((a - 1 : Nat) : Int) := by rw [w64_id ⟨by omega, by omega⟩]; omega
theorem up_ok (a m b : Int) : ∀ (v : List Rw) (c : Rw) (p s : List Rw) (k t : Nat), (p ++ c :: (v ++ s)).length < 1152921504606846976 → k = p.length → t = p.length + 1 + v.length →
    L_slices_symMergeCmpFunc_Row_3 a m b (t : Nat) (k : Nat) ((p ++ c :: (v ++ s)).map Rw.e) = some [.sl ((p ++ (v ++ c :: s)).map Rw.e)]
  | [], c, p, s, k, t, hl, hk, ht => by
    simp only [List.length_nil, List.length_append, List.length_cons] at ht hl
    rw [L_slices_symMergeCmpFunc_Row_3_eq, w64_pred (by omega) (by omega), ltF (by omega), cond_false]
    rfl
  | d :: v, c, p, s, k, t, hl, hk, ht => by
    have hl' := hl
    simp only [List.length_append, List.length_cons] at hl' ht
    rw [L_slices_symMergeCmpFunc_Row_3_eq, w64_pred (by omega) (by omega), ltT (by omega), cond_true, w64_s (by omega)]
    refine swap_eq (l := p ++ c :: (d :: v ++ s)) (p := p) (q := []) (s := v ++ s) (a := c) (b := d) (by simp) hk.symm (by simp; omega) (by omega) (K := fun X => L_slices_symMergeCmpFunc_Row_3 a m b (t : Nat) ((k + 1 : Nat) : Int) X) ?_
    have ih := up_ok a m b v c (p ++ [d]) s (k + 1) t (by simp only [List.length_append, List.length_cons, List.length_nil]; omega) (by simp; omega) (by simp; omega)
    show L_slices_symMergeCmpFunc_Row_3 _ _ _ _ _ _ = _
    rw [show p ++ d :: ([] ++ c :: (v ++ s)) = p ++ [d] ++ c :: (v ++ s) by simp, ih]
    simp
theorem down_ok (a m b : Int) : ∀ (n : Nat) (u : List Rw) (c : Rw) (p s : List Rw) (k t : Nat), u.length = n → (p ++ (u ++ c :: s)).length < 1152921504606846976 → k = p.length + u.length → t = p.length →
    L_slices_symMergeCmpFunc_Row_4 a m b (t : Nat) (k : Nat) ((p ++ (u ++ c :: s)).map Rw.e) = some [.sl ((p ++ c :: (u ++ s)).map Rw.e)] := by
  intro n
  induction n with
  | zero =>
    intro u c p s k t hn hl hk ht
    have : u = [] := List.length_eq_zero_iff.mp hn
    subst this
    simp only [List.length_nil] at hk
    rw [L_slices_symMergeCmpFunc_Row_4_eq, ltF (by omega), cond_false]
    rfl
  | succ n ih =>
    intro u c p s k t hn hl hk ht
    obtain ⟨u', d, rfl⟩ : ∃ u' d, u = u' ++ [d] := by
      obtain ⟨l', x, e⟩ := snoc_of (n := n) (l := u) hn
      exact ⟨l', x, e⟩
    simp only [List.length_append, List.length_cons, List.length_nil] at hl hk hn
    rw [L_slices_symMergeCmpFunc_Row_4_eq, ltT (by omega), cond_true, w64_pred (by omega) (by omega)]
    refine swap_eq2 (l := p ++ (u' ++ [d] ++ c :: s)) (p := p ++ u') (s := s) (a := d) (b := c) (by simp) (by simp; omega) (by omega) (by simp only [List.length_append, List.length_cons, List.length_nil]; omega) (K := fun X => L_slices_symMergeCmpFunc_Row_4 a m b (t : Nat) ((k - 1 : Nat) : Int) X) ?_
    have := ih u' c p (d :: s) (k - 1) t (by omega) (by simp only [List.length_append, List.length_cons]; omega) (by omega) ht
    show L_slices_symMergeCmpFunc_Row_4 _ _ _ _ _ _ = _
    rw [show p ++ u' ++ c :: d :: s = p ++ (u' ++ c :: (d :: s)) by simp, this]
    simp
def Mg (u v w : List Rw) : Prop := w.Perm (u ++ v) ∧ Srt w
theorem Rw.le_lt {a b c : Rw} (h : Rw.le a b) (h2 : Rw.lt b c) : Rw.lt a c := by unfold Rw.le Rw.lt at *; omega
theorem merge1 (c : Rw) (v p s : List Rw) (hv : Srt v) (hl : (p ++ (c :: (v ++ s))).length < 1152921504606846976) {a m b : Nat} (ha : a = p.length) (hm : m = a + 1) (hb : b = m + v.length) :
    ∃ w, Mg [c] v w ∧ L_slices_symMergeCmpFunc_Row_0 (a : Nat) (m : Nat) (b : Nat) (m : Nat) (b : Nat) ((p ++ c :: (v ++ s)).map Rw.e) = some [.sl ((p ++ (w ++ s)).map Rw.e)] := by
  have hl' := hl
  simp only [List.length_append, List.length_cons] at hl'
  have hxv : ∀ k, k < v.length → nth (p ++ c :: (v ++ s)) (m + k) = nth v k := fun k hk => by
    rw [show p ++ c :: (v ++ s) = (p ++ [c]) ++ (v ++ s) by simp, nth_app2 _ _ (by simp; omega), nth_app1 _ _ (by simp; omega)]
    congr 1
    simp; omega
  have hxa : nth (p ++ c :: (v ++ s)) a = c := by rw [nth_app2 _ _ (by omega), ha]; simp [nth]
  have hxl : (p ++ c :: (v ++ s)).length = p.length + 1 + v.length + s.length := by simp; omega
  obtain ⟨t, t1, t2, t3⟩ := split_ex (fun h => Rw.lt (nth (p ++ c :: (v ++ s)) h) c) m v.length (fun i j h1 h2 h3 h4 => by
    have e1 := hxv (i - m) (by omega)
    have e2 := hxv (j - m) (by omega)
    rw [show m + (i - m) = i by omega] at e1
    rw [show m + (j - m) = j by omega] at e2
    rw [e1]
    rw [e2] at h4
    exact Rw.le_lt (srt_nth hv (by omega) (by omega)) h4)
  have hb2 := bs (L := fun i j : Nat => L_slices_symMergeCmpFunc_Row_0 (a : Nat) (m : Nat) (b : Nat) (i : Nat) (j : Nat) ((p ++ c :: (v ++ s)).map Rw.e)) (K := fun t : Nat => L_slices_symMergeCmpFunc_Row_3 (a : Nat) (m : Nat) (b : Nat) (t : Nat) (a : Nat) ((p ++ c :: (v ++ s)).map Rw.e)) (t := t) (lo := m) (hi := b)
    (fun i j h1 h2 h3 => by
      show L_slices_symMergeCmpFunc_Row_0 _ _ _ _ _ _ = _
      rw [L_slices_symMergeCmpFunc_Row_0_eq, ltT (by omega), cond_true, half_ok i j (by omega), in_i (by omega), in_i (by omega), cond_true, cond_true]
      refine cmp_at (by omega) (by omega) ?_
      rw [gn_c, lt_cmp0, hxa]
      have := t3 ((i + j) / 2) (by omega) (by omega)
      by_cases hc : (i + j) / 2 < t
      · rw [if_pos hc, decide_eq_true (this.mpr hc), cond_true, w64_s (by omega)]
      · rw [if_neg hc, decide_eq_false (fun h => hc (this.mp h)), cond_false])
    (fun i h1 h2 => by
      show L_slices_symMergeCmpFunc_Row_0 _ _ _ _ _ _ = _
      rw [L_slices_symMergeCmpFunc_Row_0_eq, ltF (Int.le_refl _), cond_false])
    (b - m) m b (Nat.le_refl _) (Nat.le_refl _) t1 (by omega) (Nat.le_refl _)
  obtain ⟨v1, v2, rfl, hv1⟩ := cut_at (u := v) (t := t - m) (by omega)
  refine ⟨v1 ++ c :: v2, ⟨List.perm_middle, ?_⟩, ?_⟩
  · obtain ⟨s1, s2, s3⟩ := List.pairwise_append.mp hv
    simp only [List.length_append] at *
    refine List.pairwise_append.mpr ⟨s1, List.pairwise_cons.mpr ⟨fun y hy => ?_, s2⟩, fun x hx y hy => ?_⟩
    · obtain ⟨k, hk, rfl⟩ := mem_nth hy
      have h1 := hxv (v1.length + k) (by omega)
      rw [nth_app2 v1 v2 (by omega), show v1.length + k - v1.length = k by omega] at h1
      have h2 := t3 (m + (v1.length + k)) (by omega) (by omega)
      rw [h1] at h2
      exact fun h => by have := h2.mp h; omega
    · rcases List.mem_cons.mp hy with rfl | hy
      · obtain ⟨k, hk, rfl⟩ := mem_nth hx
        have h1 := hxv k (by omega)
        rw [nth_app1 v1 v2 hk] at h1
        have h2 := t3 (m + k) (by omega) (by omega)
        rw [h1] at h2
        exact Rw.lt_le (h2.mpr (by omega))
      · exact s3 x hx y hy
  · refine hb2.trans ?_
    show L_slices_symMergeCmpFunc_Row_3 _ _ _ _ _ _ = _
    simp only [List.length_append] at *
    rw [show p ++ c :: (v1 ++ v2 ++ s) = p ++ c :: (v1 ++ (v2 ++ s)) by simp, up_ok _ _ _ v1 c p (v2 ++ s) a t (by simp only [List.length_append, List.length_cons]; omega) ha (by omega)]
    simp
theorem merge2 (c : Rw) (u p s : List Rw) (hu : Srt u) (hl : (p ++ (u ++ c :: s)).length < 1152921504606846976) {a m b : Nat} (ha : a = p.length) (hm : m = a + u.length) (hb : b = m + 1) :
    ∃ w, Mg u [c] w ∧ L_slices_symMergeCmpFunc_Row_1 (a : Nat) (m : Nat) (b : Nat) (a : Nat) (m : Nat) ((p ++ (u ++ c :: s)).map Rw.e) = some [.sl ((p ++ (w ++ s)).map Rw.e)] := by
  have hl' := hl
  simp only [List.length_append, List.length_cons] at hl'
  have hxu : ∀ k, k < u.length → nth (p ++ (u ++ c :: s)) (a + k) = nth u k := fun k hk => by
    rw [nth_app2 _ _ (by omega), nth_app1 _ _ (by omega)]
    congr 1
    omega
  have hxm : nth (p ++ (u ++ c :: s)) m = c := by rw [nth_app2 _ _ (by omega), nth_app2 _ _ (by omega), show m - p.length - u.length = 0 by omega]; simp [nth]
  have hxl : (p ++ (u ++ c :: s)).length = p.length + u.length + 1 + s.length := by simp; omega
  obtain ⟨t, t1, t2, t3⟩ := split_ex (fun h => Rw.le (nth (p ++ (u ++ c :: s)) h) c) a u.length (fun i j h1 h2 h3 h4 => by
    have e1 := hxu (i - a) (by omega)
    have e2 := hxu (j - a) (by omega)
    rw [show a + (i - a) = i by omega] at e1
    rw [show a + (j - a) = j by omega] at e2
    rw [e1]
    rw [e2] at h4
    exact Rw.le_tr (srt_nth hu (by omega) (by omega)) h4)
  have hb2 := bs (L := fun i j : Nat => L_slices_symMergeCmpFunc_Row_1 (a : Nat) (m : Nat) (b : Nat) (i : Nat) (j : Nat) ((p ++ (u ++ c :: s)).map Rw.e)) (K := fun t : Nat => L_slices_symMergeCmpFunc_Row_4 (a : Nat) (m : Nat) (b : Nat) (t : Nat) (m : Nat) ((p ++ (u ++ c :: s)).map Rw.e)) (t := t) (lo := a) (hi := m)
    (fun i j h1 h2 h3 => by
      show L_slices_symMergeCmpFunc_Row_1 _ _ _ _ _ _ = _
      rw [L_slices_symMergeCmpFunc_Row_1_eq, ltT (by omega), cond_true, half_ok i j (by omega), in_i (by omega), in_i (by omega), cond_true, cond_true]
      refine cmp_at (by omega) (by omega) ?_
      rw [gn_c, lt_cmp0, hxm]
      have := t3 ((i + j) / 2) (by omega) (by omega)
      by_cases hc : (i + j) / 2 < t
      · rw [if_pos hc, decide_eq_false (this.mpr hc), Bool.not_false, cond_true, w64_s (by omega)]
      · rw [if_neg hc, decide_eq_true (Decidable.not_not.mp fun h => hc (this.mp h)), Bool.not_true, cond_false])
    (fun i h1 h2 => by
      show L_slices_symMergeCmpFunc_Row_1 _ _ _ _ _ _ = _
      rw [L_slices_symMergeCmpFunc_Row_1_eq, ltF (Int.le_refl _), cond_false])
    (m - a) a m (Nat.le_refl _) (Nat.le_refl _) t1 (by omega) (Nat.le_refl _)
  obtain ⟨u1, u2, rfl, hu1⟩ := cut_at (u := u) (t := t - a) (by omega)
  refine ⟨u1 ++ c :: u2, ⟨?_, ?_⟩, ?_⟩
  · rw [List.append_assoc]
    exact List.Perm.append_left u1 (by simpa using (List.perm_append_comm (l₁ := [c]) (l₂ := u2)))
  · obtain ⟨s1, s2, s3⟩ := List.pairwise_append.mp hu
    simp only [List.length_append] at *
    refine List.pairwise_append.mpr ⟨s1, List.pairwise_cons.mpr ⟨fun y hy => ?_, s2⟩, fun x hx y hy => ?_⟩
    · obtain ⟨k, hk, rfl⟩ := mem_nth hy
      have h1 := hxu (u1.length + k) (by omega)
      rw [nth_app2 u1 u2 (by omega), show u1.length + k - u1.length = k by omega] at h1
      have h2 := t3 (a + (u1.length + k)) (by omega) (by omega)
      rw [h1] at h2
      exact Rw.lt_le (Decidable.not_not.mp fun h => by have := h2.mp h; omega)
    · rcases List.mem_cons.mp hy with rfl | hy
      · obtain ⟨k, hk, rfl⟩ := mem_nth hx
        have h1 := hxu k (by omega)
        rw [nth_app1 u1 u2 hk] at h1
        have h2 := t3 (a + k) (by omega) (by omega)
        rw [h1] at h2
        exact h2.mpr (by omega)
      · exact s3 x hx y hy
  · refine hb2.trans ?_
    show L_slices_symMergeCmpFunc_Row_4 _ _ _ _ _ _ = _
    simp only [List.length_append] at *
    rw [show p ++ (u1 ++ u2 ++ c :: s) = p ++ u1 ++ (u2 ++ c :: s) by simp, down_ok _ _ _ u2.length u2 c (p ++ u1) s m t rfl (by simp only [List.length_append, List.length_cons]; omega) (by simp; omega) (by simp; omega)]
    simp
end Go.Proofs.YtceoogjanfbdcaaGreat.Vai
namespace Go.Proofs.YtceoogjanfbdcaaGreat.Vai
open Go
set_option linter.unusedSimpArgs false
set_option linter.unusedVariables false
set_option linter.unnecessarySimpa false
set_option maxRecDepth 10000
noncomputable def mgR (mid e b : Int) (Z : Rows) : Option (List Dat) :=
  bif ltI mid e then (bif ltI e b then ((callI tE f_slices_symMergeCmpFunc_Row [.sl Z, .int mid, .int e, .int b]).bind fun r => some [.sl (gl r)]) else some [.sl Z]) else some [.sl Z]
noncomputable def mgL (a t mid e b : Int) (Z : Rows) : Option (List Dat) :=
  bif ltI a t then (bif ltI t mid then ((callI tE f_slices_symMergeCmpFunc_Row [.sl Z, .int a, .int t, .int mid]).bind fun r => mgR mid e b (gl r)) else mgR mid e b Z) else mgR mid e b Z
theorem exit_eq (a m b mid n t q : Int) (X : Rows) (h : t = t) : L_slices_symMergeCmpFunc_Row_2 a m b mid n t t q X =
    bif ltI t m then (bif ltI m (w64 (n - t)) then ((callI tE f_slices_rotateCmpFunc_Row [.sl X, .int t, .int m, .int (w64 (n - t))]).bind fun r => mgL a t mid (w64 (n - t)) b (gl r)) else mgL a t mid (w64 (n - t)) b X) else mgL a t mid (w64 (n - t)) b X := by
  rw [L_slices_symMergeCmpFunc_Row_2_eq, ltF (Int.le_refl _), cond_false]
  rfl
def MgOk (n : Nat) : Prop := ∀ (u v p s : List Rw), u.length + v.length ≤ n → 0 < u.length → 0 < v.length → Srt u → Srt v → (p ++ (u ++ (v ++ s))).length < 1152921504606846976 → ∃ w, Mg u v w ∧
  ∀ (a m b : Int), a = (p.length : Nat) → m = ((p.length + u.length : Nat) : Int) → b = ((p.length + u.length + v.length : Nat) : Int) →
    callI tE f_slices_symMergeCmpFunc_Row [.sl ((p ++ (u ++ (v ++ s))).map Rw.e), .int a, .int m, .int b] = some [.sl ((p ++ (w ++ s)).map Rw.e)]
theorem mg_nil1 {v : List Rw} (h : Srt v) : Mg [] v ([] ++ v) := ⟨List.Perm.refl _, by simpa using h⟩
theorem mg_nil2 {u : List Rw} (h : Srt u) : Mg u [] (u ++ []) := ⟨List.Perm.refl _, by simpa using h⟩
theorem nil_of {α : Type} {l : List α} (h : ¬ 0 < l.length) : l = [] := List.length_eq_zero_iff.mp (by omega)
theorem mgR_ok {n : Nat} (ih : MgOk n) (u v p s : List Rw) (hn : u.length + v.length ≤ n) (hu : Srt u) (hv : Srt v) (hl : (p ++ (u ++ (v ++ s))).length < 1152921504606846976) {mid e b : Int} (h1 : mid = (p.length : Nat)) (h2 : e = ((p.length + u.length : Nat) : Int)) (h3 : b = ((p.length + u.length + v.length : Nat) : Int)) :
    ∃ w, Mg u v w ∧ mgR mid e b ((p ++ (u ++ (v ++ s))).map Rw.e) = some [.sl ((p ++ (w ++ s)).map Rw.e)] := by
  unfold mgR
  by_cases c1 : 0 < u.length
  · by_cases c2 : 0 < v.length
    · obtain ⟨w, w1, w2⟩ := ih u v p s hn c1 c2 hu hv hl
      refine ⟨w, w1, ?_⟩
      rw [ltT (by omega), cond_true, ltT (by omega), cond_true, w2 mid e b h1 h2 h3]
      rfl
    · have := nil_of c2
      subst this
      refine ⟨_, mg_nil2 hu, ?_⟩
      rw [ltT (by omega), cond_true, ltF (by simp at h3; omega), cond_false]
      simp
  · have := nil_of c1
    subst this
    refine ⟨_, mg_nil1 hv, ?_⟩
    rw [ltF (by simp at h2; omega), cond_false]
    simp
theorem mgL_ok {n : Nat} (ih : MgOk n) (u1 v1 u2 v2 p s : List Rw) (hn1 : u1.length + v1.length ≤ n) (hn2 : u2.length + v2.length ≤ n) (hu1 : Srt u1) (hv1 : Srt v1) (hu2 : Srt u2) (hv2 : Srt v2)
    (hl : (p ++ (u1 ++ (v1 ++ (u2 ++ (v2 ++ s))))).length < 1152921504606846976) {a t mid e b : Int} (h0 : a = (p.length : Nat)) (h1 : t = ((p.length + u1.length : Nat) : Int)) (h2 : mid = ((p.length + u1.length + v1.length : Nat) : Int)) (h3 : e = ((p.length + u1.length + v1.length + u2.length : Nat) : Int)) (h4 : b = ((p.length + u1.length + v1.length + u2.length + v2.length : Nat) : Int)) :
    ∃ w1 w2, Mg u1 v1 w1 ∧ Mg u2 v2 w2 ∧ mgL a t mid e b ((p ++ (u1 ++ (v1 ++ (u2 ++ (v2 ++ s))))).map Rw.e) = some [.sl ((p ++ (w1 ++ w2 ++ s)).map Rw.e)] := by
  have hl' := hl
  simp only [List.length_append] at hl'
  -- the left side
  have left : ∃ w1, Mg u1 v1 w1 ∧ mgL a t mid e b ((p ++ (u1 ++ (v1 ++ (u2 ++ (v2 ++ s))))).map Rw.e) = mgR mid e b ((p ++ (w1 ++ (u2 ++ (v2 ++ s)))).map Rw.e) := by
    unfold mgL
    by_cases c1 : 0 < u1.length
    · by_cases c2 : 0 < v1.length
      · obtain ⟨w, w1, w2⟩ := ih u1 v1 p (u2 ++ (v2 ++ s)) hn1 c1 c2 hu1 hv1 hl
        refine ⟨w, w1, ?_⟩
        rw [ltT (by omega), cond_true, ltT (by omega), cond_true, w2 a t mid h0 h1 h2]
        rfl
      · have := nil_of c2
        subst this
        refine ⟨_, mg_nil2 hu1, ?_⟩
        rw [ltT (by omega), cond_true, ltF (by simp at h2; omega), cond_false]
        simp
    · have := nil_of c1
      subst this
      refine ⟨_, mg_nil1 hv1, ?_⟩
      rw [ltF (by simp at h1; omega), cond_false]
      simp
  obtain ⟨w1, m1, e1⟩ := left
  have hw1 : w1.length = u1.length + v1.length := by have := m1.1.length_eq; simpa using this
  obtain ⟨w2, m2, e2⟩ := mgR_ok ih u2 v2 (p ++ w1) s hn2 hu2 hv2 (by simp only [List.length_append]; omega) (mid := mid) (e := e) (b := b) (by simp only [List.length_append]; omega) (by simp only [List.length_append]; omega) (by simp only [List.length_append]; omega)
  refine ⟨w1, w2, m1, m2, ?_⟩
  rw [e1, show p ++ (w1 ++ (u2 ++ (v2 ++ s))) = p ++ w1 ++ (u2 ++ (v2 ++ s)) by simp, e2]
  simp
theorem mg_join {u1 u2 v1 v2 w1 w2 : List Rw} (hu : Srt (u1 ++ u2)) (hv : Srt (v1 ++ v2)) (m1 : Mg u1 v1 w1) (m2 : Mg u2 v2 w2) (h1 : ∀ x ∈ u1, ∀ y ∈ v2, Rw.le x y) (h2 : ∀ x ∈ v1, ∀ y ∈ u2, Rw.le x y) : Mg (u1 ++ u2) (v1 ++ v2) (w1 ++ w2) := by
  refine ⟨(m1.1.append m2.1).trans ?_, List.pairwise_append.mpr ⟨m1.2, m2.2, fun x hx y hy => ?_⟩⟩
  · rw [List.append_assoc, List.append_assoc]
    refine List.Perm.append_left u1 ?_
    rw [← List.append_assoc, ← List.append_assoc]
    exact List.Perm.append_right v2 List.perm_append_comm
  · obtain ⟨_, _, a3⟩ := List.pairwise_append.mp hu
    obtain ⟨_, _, b3⟩ := List.pairwise_append.mp hv
    have hx := m1.1.mem_iff.mp hx
    have hy := m2.1.mem_iff.mp hy
    rcases List.mem_append.mp hx with hx | hx <;> rcases List.mem_append.mp hy with hy | hy
    · exact a3 x hx y hy
    · exact h1 x hx y hy
    · exact h2 x hx y hy
    · exact b3 x hx y hy
theorem mg_main {n : Nat} (ih : MgOk n) (u v p s : List Rw) (hn : u.length + v.length ≤ n + 1) (hu0 : 0 < u.length) (hv0 : 0 < v.length) (hu : Srt u) (hv : Srt v) (hl : (p ++ (u ++ (v ++ s))).length < 1152921504606846976) {a m b mid lo hi : Nat} (ha : a = p.length) (hm : m = a + u.length) (hb : b = m + v.length) (hmid : mid = (a + b) / 2)
    (c1 : lo ≤ hi) (c2 : a ≤ lo) (c3 : hi ≤ m) (c4 : mid + m ≤ lo + b) (c5 : hi ≤ mid) (c6 : lo = a ∨ lo + b = mid + m) (c7 : hi = m ∨ hi = mid) :
    ∃ w, Mg u v w ∧ L_slices_symMergeCmpFunc_Row_2 (a : Nat) (m : Nat) (b : Nat) (mid : Nat) ((mid + m : Nat) : Int) (lo : Nat) (hi : Nat) ((mid + m - 1 : Nat) : Int) ((p ++ (u ++ (v ++ s))).map Rw.e) = some [.sl ((p ++ (w ++ s)).map Rw.e)] := by
  have hl' := hl
  simp only [List.length_append] at hl'
  have hxl : (p ++ (u ++ (v ++ s))).length = p.length + u.length + v.length + s.length := by simp only [List.length_append]; omega
  have hxu : ∀ k, k < u.length → nth (p ++ (u ++ (v ++ s))) (a + k) = nth u k := fun k hk => by
    rw [nth_app2 p _ (by omega), nth_app1 u _ (by omega)]
    congr 1
    omega
  have hxv : ∀ k, k < v.length → nth (p ++ (u ++ (v ++ s))) (m + k) = nth v k := fun k hk => by
    rw [nth_app2 p _ (by omega), nth_app2 u _ (by omega), nth_app1 v _ (by omega)]
    congr 1
    omega
  have mu' : ∀ i j, a ≤ i → i ≤ j → j < m → Rw.le (nth (p ++ (u ++ (v ++ s))) i) (nth (p ++ (u ++ (v ++ s))) j) := fun i j h1 h2 h3 => by
    have e1 := hxu (i - a) (by omega)
    have e2 := hxu (j - a) (by omega)
    rw [show a + (i - a) = i by omega] at e1
    rw [show a + (j - a) = j by omega] at e2
    rw [e1, e2]
    exact srt_nth hu (by omega) (by omega)
  have mv' : ∀ i j, m ≤ i → i ≤ j → j < b → Rw.le (nth (p ++ (u ++ (v ++ s))) i) (nth (p ++ (u ++ (v ++ s))) j) := fun i j h1 h2 h3 => by
    have e1 := hxv (i - m) (by omega)
    have e2 := hxv (j - m) (by omega)
    rw [show m + (i - m) = i by omega] at e1
    rw [show m + (j - m) = j by omega] at e2
    rw [e1, e2]
    exact srt_nth hv (by omega) (by omega)
  obtain ⟨t, t1, t2, t3⟩ := split_ex (fun c => Rw.le (nth (p ++ (u ++ (v ++ s))) c) (nth (p ++ (u ++ (v ++ s))) (mid + m - 1 - c))) lo (hi - lo) (fun c d h1 h2 h3 h4 =>
    Rw.le_tr (mu' c d (by omega) h2 (by omega)) (Rw.le_tr h4 (mv' _ _ (by omega) (by omega) (by omega))))
  rw [show lo + (hi - lo) = hi by omega] at t2 t3
  have hb2 := bs (L := fun i j : Nat => L_slices_symMergeCmpFunc_Row_2 (a : Nat) (m : Nat) (b : Nat) (mid : Nat) ((mid + m : Nat) : Int) (i : Nat) (j : Nat) ((mid + m - 1 : Nat) : Int) ((p ++ (u ++ (v ++ s))).map Rw.e))
    (K := fun t : Nat => L_slices_symMergeCmpFunc_Row_2 (a : Nat) (m : Nat) (b : Nat) (mid : Nat) ((mid + m : Nat) : Int) (t : Nat) (t : Nat) ((mid + m - 1 : Nat) : Int) ((p ++ (u ++ (v ++ s))).map Rw.e)) (t := t) (lo := lo) (hi := hi)
    (fun i j h1 h2 h3 => by
      show L_slices_symMergeCmpFunc_Row_2 _ _ _ _ _ _ _ _ _ = _
      rw [L_slices_symMergeCmpFunc_Row_2_eq, ltT (by omega), cond_true, half_ok i j (by omega), w64_sub (a := mid + m - 1) (b := (i + j) / 2) (by omega) (by omega), in_i (by omega), in_i (by omega), cond_true, cond_true]
      refine cmp_at (by omega) (by omega) ?_
      rw [gn_c, lt_cmp0]
      have := t3 ((i + j) / 2) (by omega) (by omega)
      by_cases hc : (i + j) / 2 < t
      · rw [if_pos hc, decide_eq_false (this.mpr hc), Bool.not_false, cond_true, w64_s (by omega)]
      · rw [if_neg hc, decide_eq_true (Decidable.not_not.mp fun h => hc (this.mp h)), Bool.not_true, cond_false])
    (fun i h1 h2 => rfl) (hi - lo) lo hi (Nat.le_refl _) (Nat.le_refl _) t1 t2 (Nat.le_refl _)
  obtain ⟨u1, u2, rfl, hu1⟩ := cut_at (u := u) (t := t - a) (by omega)
  obtain ⟨v1, v2, rfl, hv1⟩ := cut_at (u := v) (t := mid - t) (by omega)
  simp only [List.length_append] at hn hu0 hv0 hl' hm hb hxu hxv
  have x1 : ∀ x ∈ u1, ∀ y ∈ v2, Rw.le x y := fun x hx y hy => by
    obtain ⟨i, hi1, rfl⟩ := mem_nth hx
    obtain ⟨j, hj1, rfl⟩ := mem_nth hy
    have e1 := hxu i (by omega)
    have e2 := hxv (v1.length + j) (by omega)
    rw [nth_app1 u1 u2 hi1] at e1
    rw [nth_app2 v1 v2 (by omega), show v1.length + j - v1.length = j by omega] at e2
    rw [← e1, ← e2]
    have hp := (t3 (t - 1) (by omega) (by omega)).mpr (by omega)
    exact Rw.le_tr (mu' _ (t - 1) (by omega) (by omega) (by omega)) (Rw.le_tr hp (mv' _ _ (by omega) (by omega) (by omega)))
  have x2 : ∀ x ∈ v1, ∀ y ∈ u2, Rw.le x y := fun x hx y hy => by
    obtain ⟨i, hi1, rfl⟩ := mem_nth hx
    obtain ⟨j, hj1, rfl⟩ := mem_nth hy
    have e1 := hxv i (by omega)
    have e2 := hxu (u1.length + j) (by omega)
    rw [nth_app1 v1 v2 hi1] at e1
    rw [nth_app2 u1 u2 (by omega), show u1.length + j - u1.length = j by omega] at e2
    rw [← e1, ← e2]
    have hp : ¬ Rw.le _ _ := fun h => by have := (t3 t (by omega) (by omega)).mp h; omega
    exact Rw.le_tr (mv' _ (mid + m - 1 - t) (by omega) (by omega) (by omega)) (Rw.le_tr (Rw.lt_le (Decidable.not_not.mp hp)) (mu' t _ (by omega) (by omega) (by omega)))
  obtain ⟨su1, su2, _⟩ := List.pairwise_append.mp hu
  obtain ⟨sv1, sv2, _⟩ := List.pairwise_append.mp hv
  obtain ⟨w1, w2, m1, m2, hw⟩ := mgL_ok ih u1 v1 u2 v2 p s (by omega) (by omega) su1 sv1 su2 sv2 (by simp only [List.length_append]; omega) (a := (a : Nat)) (t := (t : Nat)) (mid := (mid : Nat)) (e := ((mid + m - t : Nat) : Int)) (b := (b : Nat)) (by omega) (by omega) (by omega) (by omega) (by omega)
  refine ⟨w1 ++ w2, mg_join hu hv m1 m2 x1 x2, hb2.trans ?_⟩
  show L_slices_symMergeCmpFunc_Row_2 _ _ _ _ _ _ _ _ _ = _
  rw [exit_eq _ _ _ _ _ _ _ _ rfl, w64_sub (by omega) (by omega)]
  by_cases d1 : 0 < u2.length
  · by_cases d2 : 0 < v1.length
    · have := rotate (p ++ u1) u2 v1 (v2 ++ s) d1 d2 (by simp only [List.length_append]; omega) (a := (t : Nat)) (m := (m : Nat)) (b := ((mid + m - t : Nat) : Int)) (by simp only [List.length_append]; omega) (by simp only [List.length_append]; omega) (by simp only [List.length_append]; omega)
      rw [ltT (by omega), cond_true, ltT (by omega), cond_true, show p ++ (u1 ++ u2 ++ (v1 ++ v2 ++ s)) = p ++ u1 ++ (u2 ++ (v1 ++ (v2 ++ s))) by simp, this]
      simp only [gn_c, gb_c, gs_c, gl_c, tk_s, tk_0, List.drop_succ_cons, List.drop_zero, List.headD_cons, List.getD_cons_zero, List.getD_cons_succ, bind_s]
      rw [show p ++ u1 ++ (v1 ++ (u2 ++ (v2 ++ s))) = p ++ (u1 ++ (v1 ++ (u2 ++ (v2 ++ s)))) by simp]
      exact hw
    · have := nil_of d2
      subst this
      rw [ltT (by omega), cond_true, ltF (by simp at hv1; omega), cond_false]
      simpa using hw
  · have := nil_of d1
    subst this
    rw [ltF (by simp at hm; omega), cond_false]
    simpa using hw
theorem mg_ok : ∀ n, MgOk n
  | 0 => fun u v p s h h1 => by omega
  | n + 1 => fun u v p s h hu0 hv0 hu hv hl => by
    have ih := mg_ok n
    have hl' := hl
    simp only [List.length_append] at hl'
    by_cases c1 : u.length = 1
    · obtain ⟨c, rfl⟩ := List.length_eq_one_iff.mp c1
      obtain ⟨w, w1, w2⟩ := merge1 c v p s hv hl (a := p.length) (m := p.length + 1) (b := p.length + 1 + v.length) rfl rfl rfl
      refine ⟨w, w1, fun a m b ha hm hb => ?_⟩
      subst ha; subst hm; subst hb
      rw [c_slices_symMergeCmpFunc_Row, w64_sub (by omega) (by omega), eqT (by simp), cond_true]
      exact w2
    · by_cases c2 : v.length = 1
      · obtain ⟨c, rfl⟩ := List.length_eq_one_iff.mp c2
        obtain ⟨w, w1, w2⟩ := merge2 c u p s hu hl (a := p.length) (m := p.length + u.length) (b := p.length + u.length + 1) rfl rfl rfl
        refine ⟨w, w1, fun a m b ha hm hb => ?_⟩
        subst ha; subst hm; subst hb
        rw [c_slices_symMergeCmpFunc_Row, w64_sub (by omega) (by omega), eqF (by omega), cond_false, w64_sub (by omega) (by omega), eqT (by simp), cond_true]
        exact w2
      · by_cases c3 : (p.length + (p.length + u.length + v.length)) / 2 < p.length + u.length
        · obtain ⟨w, w1, w2⟩ := mg_main ih u v p s h hu0 hv0 hu hv hl (a := p.length) (m := p.length + u.length) (b := p.length + u.length + v.length) (mid := (p.length + (p.length + u.length + v.length)) / 2) (lo := (p.length + (p.length + u.length + v.length)) / 2 + (p.length + u.length) - (p.length + u.length + v.length)) (hi := (p.length + (p.length + u.length + v.length)) / 2) rfl rfl rfl rfl (by omega) (by omega) (by omega) (by omega) (by omega) (by omega) (.inr rfl)
          refine ⟨w, w1, fun a m b ha hm hb => ?_⟩
          subst ha; subst hm; subst hb
          rw [c_slices_symMergeCmpFunc_Row, w64_sub (by omega) (by omega), eqF (by omega), cond_false, w64_sub (by omega) (by omega), eqF (by omega), cond_false, half_ok _ _ (by omega), ltT (by omega), cond_true, w64_add _ _ (by omega), w64_sub (by omega) (by omega), w64_pred (by omega) (by omega)]
          exact w2
        · obtain ⟨w, w1, w2⟩ := mg_main ih u v p s h hu0 hv0 hu hv hl (a := p.length) (m := p.length + u.length) (b := p.length + u.length + v.length) (mid := (p.length + (p.length + u.length + v.length)) / 2) (lo := p.length) (hi := p.length + u.length) rfl rfl rfl rfl (by omega) (by omega) (by omega) (by omega) (by omega) (.inl rfl) (.inl rfl)
          refine ⟨w, w1, fun a m b ha hm hb => ?_⟩
          subst ha; subst hm; subst hb
          rw [c_slices_symMergeCmpFunc_Row, w64_sub (by omega) (by omega), eqF (by omega), cond_false, w64_sub (by omega) (by omega), eqF (by omega), cond_false, half_ok _ _ (by omega), ltF (by omega), cond_false, w64_add _ _ (by omega), w64_pred (by omega) (by omega)]
          exact w2
end Go.Proofs.YtceoogjanfbdcaaGreat.Vai
namespace Go.Proofs.YtceoogjanfbdcaaGreat.Vai
open Go
set_option linter.unusedSimpArgs false
set_option linter.unusedVariables false
set_option linter.unnecessarySimpa false
set_option maxRecDepth 10000
theorem swap_eq3 {l p s : List Rw} {a b : Rw} {i j : Nat} (h : l = p ++ a :: b :: s) (hi : p.length = i) (hj : j = i + 1) (hl : l.length < 4611686018427387904) {X : Option (List Dat)} {K : Rows → Option (List Dat)} (hK : K ((p ++ b :: a :: s).map Rw.e) = X) :
    (bif inR (i : Int) (lenI (updR (l.map Rw.e) (tn (j : Int)) 0 [.int (gn (at' (l.map Rw.e) (tn (i : Int)))), .int (gn (tk 1 (at' (l.map Rw.e) (tn (i : Int))))), .int (gn (tk 2 (at' (l.map Rw.e) (tn (i : Int)))))])) then
        K (updR (updR (l.map Rw.e) (tn (j : Int)) 0 [.int (gn (at' (l.map Rw.e) (tn (i : Int)))), .int (gn (tk 1 (at' (l.map Rw.e) (tn (i : Int))))), .int (gn (tk 2 (at' (l.map Rw.e) (tn (i : Int)))))]) (tn (i : Int)) 0 [.int (gn (at' (l.map Rw.e) (tn (j : Int)))), .int (gn (tk 1 (at' (l.map Rw.e) (tn (j : Int))))), .int (gn (tk 2 (at' (l.map Rw.e) (tn (j : Int)))))])
        else none) = X := by
  have hb : at' (l.map Rw.e) j = b.e := at_i (u := p ++ [a]) (v := s) (by rw [h]; simp) (by simp; omega)
  have ha : at' (l.map Rw.e) i = a.e := at_i h hi
  have hlen : l.length = p.length + 1 + 1 + s.length := by rw [h]; simp; omega
  have h1 : updR (l.map Rw.e) j 0 [.int a.k, .int a.v, .int a.w] = (p ++ a :: a :: s).map Rw.e := by
    rw [upd_i (u := p ++ [a]) (v := s) (a := b) (by rw [h]; simp) (by simp; omega)]
    simp
  have h2 : updR ((p ++ a :: a :: s).map Rw.e) i 0 [.int b.k, .int b.v, .int b.w] = (p ++ b :: a :: s).map Rw.e := upd_i rfl hi
  simp only [tn_c, hb, ha, gk, gv, gw, h1, h2]
  rw [in_i (by simp; omega)]
  exact hK
theorem ins1 (a b i : Nat) : ∀ (n : Nat) (w1 w2 p r : List Rw) (c : Rw) (j : Nat), w1.length = n → Srt (w1 ++ w2) → (∀ y ∈ w2, Rw.lt c y) → (p ++ (w1 ++ c :: (w2 ++ r))).length < 1152921504606846976 → i < 1152921504606846976 → a = p.length → j = a + w1.length →
    ∃ w, w.Perm (w1 ++ c :: w2) ∧ Srt w ∧ L_slices_insertionSortCmpFunc_Row_1 (a : Nat) (b : Nat) (i : Nat) (j : Nat) ((p ++ (w1 ++ c :: (w2 ++ r))).map Rw.e) = L_slices_insertionSortCmpFunc_Row_0 (a : Nat) (b : Nat) ((i + 1 : Nat) : Int) ((p ++ (w ++ r)).map Rw.e) := by
  intro n
  induction n with
  | zero =>
    intro w1 w2 p r c j hn hs hc hl hi ha hj
    have : w1 = [] := List.length_eq_zero_iff.mp hn
    subst this
    refine ⟨c :: w2, List.Perm.refl _, List.pairwise_cons.mpr ⟨fun y hy => Rw.lt_le (hc y hy), by simpa using hs⟩, ?_⟩
    simp only [List.length_nil] at hj
    rw [L_slices_insertionSortCmpFunc_Row_1_eq, ltF (by omega), cond_false, w64_s (by omega)]
    simp
  | succ n ih =>
    intro w1 w2 p r c j hn hs hc hl hi ha hj
    obtain ⟨w1, d, rfl⟩ := snoc_of (n := n) (l := w1) hn
    have hl' := hl
    simp only [List.length_append, List.length_cons, List.length_nil] at hl' hn hj
    have hxl : (p ++ (w1 ++ [d] ++ c :: (w2 ++ r))).length = p.length + w1.length + 2 + w2.length + r.length := by simp; omega
    have hc0 : nth (p ++ (w1 ++ [d] ++ c :: (w2 ++ r))) j = c := by
      rw [nth_app2 p _ (by omega), nth_app2 (w1 ++ [d]) _ (by simp; omega)]
      have : j - p.length - (w1 ++ [d]).length = 0 := by simp; omega
      rw [this]; simp [nth]
    have hd0 : nth (p ++ (w1 ++ [d] ++ c :: (w2 ++ r))) (j - 1) = d := by
      rw [nth_app2 p _ (by omega), nth_app1 (w1 ++ [d]) _ (by simp; omega), nth_app2 w1 _ (by omega)]
      have : j - 1 - p.length - w1.length = 0 := by omega
      rw [this]; simp [nth]
    have i1 : inR (j : Int) (lenI ((p ++ (w1 ++ [d] ++ c :: (w2 ++ r))).map Rw.e)) = true := in_i (by omega)
    have i2 : inR ((j - 1 : Nat) : Int) (lenI ((p ++ (w1 ++ [d] ++ c :: (w2 ++ r))).map Rw.e)) = true := in_i (by omega)
    by_cases hcd : Rw.lt c d
    · have hs' : Srt (w1 ++ d :: w2) := by simpa using hs
      obtain ⟨s1, s2, s3⟩ := List.pairwise_append.mp hs'
      obtain ⟨w, q1, q2, q3⟩ := ih w1 (d :: w2) p r c (j - 1) (by omega) hs' (fun y hy => by
        rcases List.mem_cons.mp hy with rfl | hy
        · exact hcd
        · exact hc y hy) (by simp only [List.length_append, List.length_cons] at *; omega) hi ha (by omega)
      refine ⟨w, q1.trans ?_, q2, ?_⟩
      · rw [List.append_assoc]
        exact List.Perm.append_left w1 (List.Perm.swap d c w2)
      · rw [L_slices_insertionSortCmpFunc_Row_1_eq, ltT (by omega), cond_true, w64_pred (by omega) (by omega), i1, i2, cond_true, cond_true]
        refine cmp_at (i := j) (j := j - 1) (by omega) (by omega) ?_
        rw [gn_c, lt_cmp0, hc0, hd0, decide_eq_true hcd, cond_true, cond_true, cond_true, cond_true]
        refine swap_eq3 (i := j - 1) (j := j) (l := p ++ (w1 ++ [d] ++ c :: (w2 ++ r))) (p := p ++ w1) (s := w2 ++ r) (a := d) (b := c) (by simp) (by simp; omega) (by omega) (by omega) (K := fun X => L_slices_insertionSortCmpFunc_Row_1 (a : Nat) (b : Nat) (i : Nat) ((j - 1 : Nat) : Int) X) ?_
        show L_slices_insertionSortCmpFunc_Row_1 _ _ _ _ _ = _
        rw [← q3]
        simp
    · refine ⟨w1 ++ [d] ++ c :: w2, List.Perm.refl _, ?_, ?_⟩
      · obtain ⟨s1, s2, s3⟩ := List.pairwise_append.mp hs
        refine List.pairwise_append.mpr ⟨s1, List.pairwise_cons.mpr ⟨fun y hy => Rw.lt_le (hc y hy), s2⟩, fun x hx y hy => ?_⟩
        rcases List.mem_cons.mp hy with rfl | hy
        · obtain ⟨t1, t2, t3⟩ := List.pairwise_append.mp s1
          rcases List.mem_append.mp hx with hx | hx
          · exact Rw.le_tr (t3 x hx d (by simp)) hcd
          · simp at hx; subst hx; exact hcd
        · exact s3 x hx y hy
      · rw [L_slices_insertionSortCmpFunc_Row_1_eq, ltT (by omega), cond_true, w64_pred (by omega) (by omega), i1, i2, cond_true, cond_true]
        refine cmp_at (i := j) (j := j - 1) (by omega) (by omega) ?_
        rw [gn_c, lt_cmp0, hc0, hd0, decide_eq_false hcd, cond_false, w64_s (by omega)]
        simp
theorem ins0 (a b : Nat) : ∀ (r w p s : List Rw) (i : Nat), Srt w → (p ++ (w ++ (r ++ s))).length < 1152921504606846976 → a = p.length → i = a + w.length → b = i + r.length →
    ∃ w', w'.Perm (w ++ r) ∧ Srt w' ∧ L_slices_insertionSortCmpFunc_Row_0 (a : Nat) (b : Nat) (i : Nat) ((p ++ (w ++ (r ++ s))).map Rw.e) = some [.sl ((p ++ (w' ++ s)).map Rw.e)]
  | [], w, p, s, i, hs, hl, ha, hi, hb => by
    refine ⟨w, by simp, hs, ?_⟩
    rw [L_slices_insertionSortCmpFunc_Row_0_eq, ltF (by simp at hb; omega), cond_false]
    rfl
  | c :: r, w, p, s, i, hs, hl, ha, hi, hb => by
    have hl' := hl
    simp only [List.length_append, List.length_cons] at hl' hb
    obtain ⟨w2, q1, q2, q3⟩ := ins1 a b i w.length w [] p (r ++ s) c i rfl (by simpa using hs) (fun y hy => by cases hy) (by simp only [List.length_append, List.length_cons, List.length_nil]; omega) (by omega) ha hi
    have hw2 : w2.length = w.length + 1 := by have := q1.length_eq; simpa using this
    obtain ⟨w', r1, r2, r3⟩ := ins0 a b r w2 p s (i + 1) q2 (by simp only [List.length_append]; omega) ha (by omega) (by omega)
    refine ⟨w', r1.trans ?_, r2, ?_⟩
    · refine (List.Perm.append_right r q1).trans ?_
      simp
    · rw [L_slices_insertionSortCmpFunc_Row_0_eq, ltT (by omega), cond_true]
      simp only [List.nil_append] at q3
      rw [show p ++ (w ++ (c :: r ++ s)) = p ++ (w ++ c :: (r ++ s)) by simp, q3]
      exact r3
theorem insSort (r p s : List Rw) (hl : (p ++ (r ++ s)).length < 1152921504606846976) {a b : Nat} (ha : a = p.length) (hb : b = a + r.length) :
    ∃ w, w.Perm r ∧ Srt w ∧ callI tE f_slices_insertionSortCmpFunc_Row [.sl ((p ++ (r ++ s)).map Rw.e), .int (a : Nat), .int (b : Nat)] = some [.sl ((p ++ (w ++ s)).map Rw.e)] := by
  have hl' := hl
  simp only [List.length_append] at hl'
  cases r with
  | nil =>
    refine ⟨[], List.Perm.refl _, List.Pairwise.nil, ?_⟩
    rw [c_slices_insertionSortCmpFunc_Row, w64_s (by omega), L_slices_insertionSortCmpFunc_Row_0_eq, ltF (by simp at hb; omega), cond_false]
  | cons c r =>
    simp only [List.length_cons] at hb hl'
    obtain ⟨w, q1, q2, q3⟩ := ins0 a b r [c] p s (a + 1) (List.pairwise_singleton _ _) (by simp only [List.length_append, List.length_cons, List.length_nil]; omega) ha rfl (by omega)
    refine ⟨w, by simpa using q1, q2, ?_⟩
    rw [c_slices_insertionSortCmpFunc_Row, w64_s (by omega)]
    exact q3
def Blk (k : Nat) (l : List Rw) : Prop := ∀ i j, i ≤ j → j < l.length → i / k = j / k → Rw.le (nth l i) (nth l j)
theorem srt_of {l : List Rw} (h : ∀ i j, i ≤ j → j < l.length → Rw.le (nth l i) (nth l j)) : Srt l := by
  refine List.pairwise_iff_getElem.mpr fun i j hi hj hij => ?_
  have := h i j (by omega) hj
  simpa [nth, List.getD_eq_getElem?_getD, hi, hj] using this
theorem Blk.app {k : Nat} (_hk : 0 < k) {p w : List Rw} (hp : Blk k p) (hd : k ∣ p.length) (hw : Srt w) (hl : w.length ≤ k) : Blk k (p ++ w) := fun i j hij hj he => by
  obtain ⟨m, hm⟩ := hd
  simp only [List.length_append] at hj
  by_cases h1 : j < p.length
  · rw [nth_app1 p w (by omega), nth_app1 p w h1]
    exact hp i j hij h1 he
  · have h2 : p.length ≤ i := by
      by_cases h3 : i < p.length
      · exfalso
        have a1 : i / k < m := by rw [Nat.div_lt_iff_lt_mul _hk, Nat.mul_comm]; omega
        have a2 : m ≤ j / k := by rw [Nat.le_div_iff_mul_le _hk, Nat.mul_comm]; omega
        omega
      · omega
    rw [nth_app2 p w h2, nth_app2 p w (by omega)]
    exact srt_nth hw (by omega) (by omega)
theorem Blk.cut {k : Nat} (hk : 0 < k) {u r : List Rw} (h : Blk k (u ++ r)) (hu : u.length = k) : Srt u ∧ Blk k r := by
  refine ⟨srt_of fun i j hij hj => ?_, fun i j hij hj he => ?_⟩
  · have := h i j hij (by simp; omega) (by rw [Nat.div_eq_of_lt (by omega), Nat.div_eq_of_lt (by omega)])
    rwa [nth_app1 u r (by omega), nth_app1 u r hj] at this
  · have := h (u.length + i) (u.length + j) (by omega) (by simp; omega) (by rw [hu, Nat.add_div_left _ hk, Nat.add_div_left _ hk, he])
    rw [nth_app2 u r (by omega), nth_app2 u r (by omega)] at this
    simpa using this
theorem Blk.srt {k : Nat} {l : List Rw} (h : Blk k l) (hl : l.length ≤ k) : Srt l := srt_of fun i j hij hj => h i j hij hj (by rw [Nat.div_eq_of_lt (by omega), Nat.div_eq_of_lt (by omega)])
end Go.Proofs.YtceoogjanfbdcaaGreat.Vai
namespace Go.Proofs.YtceoogjanfbdcaaGreat.Vai
open Go
set_option linter.unusedSimpArgs false
set_option linter.unusedVariables false
set_option linter.unnecessarySimpa false
set_option maxRecDepth 10000
theorem st0 (n : Nat) : ∀ (f : Nat) (r p : List Rw), r.length ≤ f → Blk 20 p → 20 ∣ p.length → n = p.length + r.length → n < 1152921504606846976 →
    ∃ x, x.Perm (p ++ r) ∧ Blk 20 x ∧ L_slices_stableCmpFunc_Row_0 (n : Nat) 20 (p.length : Nat) ((p.length + 20 : Nat) : Int) ((p ++ r).map Rw.e) = L_slices_stableCmpFunc_Row_1 (n : Nat) 20 (x.map Rw.e) := by
  intro f
  induction f with
  | zero =>
    intro r p hf hb hd hn hl
    have : r = [] := List.length_eq_zero_iff.mp (by omega)
    subst this
    simp only [List.length_nil] at hn
    obtain ⟨w, w1, w2, w3⟩ := insSort [] p [] (by simp; omega) (a := p.length) (b := n) rfl (by simp; omega)
    have : w = [] := w1.eq_nil
    subst this
    refine ⟨p, by simp, hb, ?_⟩
    simp only [List.append_nil] at w3 ⊢
    rw [L_slices_stableCmpFunc_Row_0_eq, show leI ((p.length + 20 : Nat) : Int) (n : Nat) = false from leF (by omega), cond_false, w3]
    rfl
  | succ f ih =>
    intro r p hf hb hd hn hl
    by_cases hr : 20 ≤ r.length
    · obtain ⟨r1, r2, rfl, hr1⟩ := cut_at (u := r) (t := 20) hr
      simp only [List.length_append] at hn hf hr
      obtain ⟨w, w1, w2, w3⟩ := insSort r1 p r2 (by simp only [List.length_append]; omega) (a := p.length) (b := p.length + 20) rfl (by omega)
      have hw := w1.length_eq
      obtain ⟨x, x1, x2, x3⟩ := ih r2 (p ++ w) (by omega) (hb.app (by omega) hd w2 (by omega)) (by simp only [List.length_append]; omega) (by simp only [List.length_append]; omega) hl
      refine ⟨x, x1.trans ?_, x2, ?_⟩
      · rw [List.append_assoc]
        exact List.Perm.append_left p (List.Perm.append_right r2 w1)
      · rw [L_slices_stableCmpFunc_Row_0_eq, leT (by omega), cond_true, w3]
        simp only [gn_c, gb_c, gs_c, gl_c, tk_s, tk_0, List.drop_succ_cons, List.drop_zero, List.headD_cons, List.getD_cons_zero, List.getD_cons_succ, bind_s]
        rw [show w64 (((p.length + 20 : Nat) : Int) + 20) = ((p.length + 20 + 20 : Nat) : Int) from w64_add _ 20 (by omega)]
        simp only [List.length_append, hw, hr1, List.append_assoc] at x3
        exact x3
    · obtain ⟨w, w1, w2, w3⟩ := insSort r p [] (by simp; omega) (a := p.length) (b := n) rfl (by omega)
      have hw := w1.length_eq
      refine ⟨p ++ w, List.Perm.append_left p w1, hb.app (by omega) hd w2 (by omega), ?_⟩
      simp only [List.append_nil] at w3
      rw [L_slices_stableCmpFunc_Row_0_eq, leF (by omega), cond_false, w3]
      rfl
theorem w64_dbl (k : Nat) (h : k < 1152921504606846976) : w64 (2 * (k : Int)) = ((2 * k : Nat) : Int) ∧ w64 ((k : Int) * 2) = ((2 * k : Nat) : Int) := by
  constructor <;> (rw [w64_id ⟨by omega, by omega⟩]; omega)
theorem st2 (n k : Nat) (hk : 0 < k) (hk2 : k < 1152921504606846976) : ∀ (f : Nat) (r p : List Rw), r.length ≤ f → Blk (2 * k) p → (2 * k) ∣ p.length → Blk k r → n = p.length + r.length → n < 1152921504606846976 →
    ∃ x, x.Perm (p ++ r) ∧ Blk (2 * k) x ∧ L_slices_stableCmpFunc_Row_2 (n : Nat) (k : Nat) (p.length : Nat) ((p.length + 2 * k : Nat) : Int) ((p ++ r).map Rw.e) = L_slices_stableCmpFunc_Row_1 (n : Nat) ((2 * k : Nat) : Int) (x.map Rw.e) := by
  have small : ∀ (r p : List Rw), r.length ≤ k → Blk (2 * k) p → (2 * k) ∣ p.length → Blk k r → n = p.length + r.length → n < 1152921504606846976 →
      ∃ x, x.Perm (p ++ r) ∧ Blk (2 * k) x ∧ L_slices_stableCmpFunc_Row_2 (n : Nat) (k : Nat) (p.length : Nat) ((p.length + 2 * k : Nat) : Int) ((p ++ r).map Rw.e) = L_slices_stableCmpFunc_Row_1 (n : Nat) ((2 * k : Nat) : Int) (x.map Rw.e) := fun r p h1 hb hd hr hn hl => by
    refine ⟨p ++ r, List.Perm.refl _, hb.app (by omega) hd (hr.srt h1) (by omega), ?_⟩
    rw [L_slices_stableCmpFunc_Row_2_eq, leF (by omega), cond_false, w64_add _ _ (by omega), ltF (by omega), cond_false, (w64_dbl k hk2).2]
  intro f
  induction f with
  | zero => exact fun r p hf hb hd hr hn hl => small r p (by omega) hb hd hr hn hl
  | succ f ih =>
    intro r p hf hb hd hr hn hl
    by_cases h1 : r.length ≤ k
    · exact small r p h1 hb hd hr hn hl
    · obtain ⟨u, r', rfl, hu⟩ := cut_at (u := r) (t := k) (by omega)
      obtain ⟨su, hr'⟩ := hr.cut hk hu
      simp only [List.length_append] at hn hf h1
      by_cases h2 : k ≤ r'.length
      · obtain ⟨v, r2, rfl, hv⟩ := cut_at (u := r') (t := k) h2
        obtain ⟨sv, hr2⟩ := hr'.cut hk hv
        simp only [List.length_append] at hn hf h1 h2
        obtain ⟨w, w1, w2⟩ := mg_ok _ u v p r2 (Nat.le_refl _) (by omega) (by omega) su sv (by simp only [List.length_append]; omega)
        have hw := w1.1.length_eq
        simp only [List.length_append] at hw
        obtain ⟨x, x1, x2, x3⟩ := ih r2 (p ++ w) (by omega) (hb.app (by omega) hd w1.2 (by omega)) (by
          simp only [List.length_append]
          rw [hw, hu, hv, ← Nat.two_mul]
          exact Nat.dvd_add hd (Nat.dvd_refl _)) hr2 (by simp only [List.length_append]; omega) hl
        refine ⟨x, x1.trans ?_, x2, ?_⟩
        · rw [List.append_assoc, ← List.append_assoc u]
          exact List.Perm.append_left p (List.Perm.append_right r2 w1.1)
        · rw [L_slices_stableCmpFunc_Row_2_eq, leT (by omega), cond_true, w64_add _ _ (by omega), w2 _ _ _ rfl (by omega) (by omega)]
          simp only [gn_c, gb_c, gs_c, gl_c, tk_s, tk_0, List.drop_succ_cons, List.drop_zero, List.headD_cons, List.getD_cons_zero, List.getD_cons_succ, bind_s]
          rw [(w64_dbl k hk2).1, w64_add _ _ (by omega)]
          simp only [List.length_append, hw, hu, hv, List.append_assoc, ← Nat.two_mul] at x3
          exact x3
      · have sv := hr'.srt (by omega)
        obtain ⟨w, w1, w2⟩ := mg_ok _ u r' p [] (Nat.le_refl _) (by omega) (by omega) su sv (by simp only [List.length_append, List.length_nil]; omega)
        have hw := w1.1.length_eq
        simp only [List.length_append] at hw
        refine ⟨p ++ w, List.Perm.append_left p w1.1, hb.app (by omega) hd w1.2 (by omega), ?_⟩
        have w2 := w2 (p.length : Nat) ((p.length + k : Nat) : Int) (n : Nat) rfl (by omega) (by omega)
        simp only [List.append_nil] at w2
        rw [L_slices_stableCmpFunc_Row_2_eq, leF (by omega), cond_false, w64_add _ _ (by omega), ltT (by omega), cond_true, w2]
        simp only [gn_c, gb_c, gs_c, gl_c, tk_s, tk_0, List.drop_succ_cons, List.drop_zero, List.headD_cons, List.getD_cons_zero, List.getD_cons_succ, bind_s]
        rw [(w64_dbl k hk2).2]
theorem st1 (n : Nat) (hn : n < 1152921504606846976) : ∀ (f k : Nat) (x : List Rw), 0 < k → n ≤ k + f → k < 1152921504606846976 → Blk k x → x.length = n →
    ∃ y, y.Perm x ∧ Srt y ∧ L_slices_stableCmpFunc_Row_1 (n : Nat) (k : Nat) (x.map Rw.e) = some [.sl (y.map Rw.e)] := by
  intro f
  induction f with
  | zero =>
    intro k x hk hf hk2 hb hx
    refine ⟨x, List.Perm.refl _, hb.srt (by omega), ?_⟩
    rw [L_slices_stableCmpFunc_Row_1_eq, ltF (by omega), cond_false]
  | succ f ih =>
    intro k x hk hf hk2 hb hx
    by_cases h : k < n
    · obtain ⟨y, y1, y2, y3⟩ := st2 n k hk hk2 x.length x [] (Nat.le_refl _) (fun i j hi hj => by simp at hj) (by simp) hb (by simpa using hx.symm) hn
      have hy := y1.length_eq
      simp only [List.nil_append, List.length_nil, Nat.zero_add] at hy y1 y3
      by_cases h3 : 2 * k < 1152921504606846976
      · obtain ⟨z, z1, z2, z3⟩ := ih (2 * k) y (by omega) (by omega) h3 y2 (by omega)
        refine ⟨z, z1.trans y1, z2, ?_⟩
        rw [L_slices_stableCmpFunc_Row_1_eq, ltT (by omega), cond_true, (w64_dbl k hk2).1]
        exact y3.trans z3
      · refine ⟨y, y1, y2.srt (by omega), ?_⟩
        rw [L_slices_stableCmpFunc_Row_1_eq, ltT (by omega), cond_true, (w64_dbl k hk2).1]
        refine y3.trans ?_
        rw [L_slices_stableCmpFunc_Row_1_eq, ltF (by omega), cond_false]
    · refine ⟨x, List.Perm.refl _, hb.srt (by omega), ?_⟩
      rw [L_slices_stableCmpFunc_Row_1_eq, ltF (by omega), cond_false]
theorem sortStable (x : List Rw) (hx : x.length < 1152921504606846976) : ∃ y, y.Perm x ∧ Srt y ∧ callI tE f_slices_SortStableFunc_Row [.sl (x.map Rw.e)] = some [.sl (y.map Rw.e)] := by
  obtain ⟨z, z1, z2, z3⟩ := st0 x.length x.length x [] (Nat.le_refl _) (fun i j hi hj => by simp at hj) (by simp) (by simp) hx
  simp only [List.nil_append, List.length_nil, Nat.zero_add] at z1 z3
  obtain ⟨y, y1, y2, y3⟩ := st1 x.length hx x.length 20 z (by omega) (by omega) (by omega) z2 z1.length_eq
  refine ⟨y, y1.trans z1, y2, ?_⟩
  rw [c_slices_SortStableFunc_Row, lenI_map, c_slices_stableCmpFunc_Row]
  have z3 : L_slices_stableCmpFunc_Row_0 (x.length : Nat) 20 0 20 (x.map Rw.e) = L_slices_stableCmpFunc_Row_1 (x.length : Nat) 20 (z.map Rw.e) := z3
  have y3 : L_slices_stableCmpFunc_Row_1 (x.length : Nat) 20 (z.map Rw.e) = some [.sl (y.map Rw.e)] := y3
  rw [z3, y3]
  rfl
end Go.Proofs.YtceoogjanfbdcaaGreat.Vai
namespace Go.Proofs.YtceoogjanfbdcaaGreat.Vai
open Go
set_option linter.unusedSimpArgs false
set_option linter.unusedVariables false
set_option linter.unnecessarySimpa false
set_option maxRecDepth 100000
theorem c_impl_runCost (a0 : List (List Dat)) (a1 : Int) (a2 : List (List Dat)) (a3 : List (List Dat)) (a4 : List (List Dat)) (a5 : List (List Dat)) (a6 : Int) (a7 : Int) (a8 : Int) (a9 : Int) (a10 : Int) (a11 : Int) : callI tE f_impl_runCost [.sl a0, .int a1, .sl a2, .sl a3, .sl a4, .sl a5, .int a6, .int a7, .int a8, .int a9, .int a10, .int a11] = (bif (leI (lenI a5) a10) then (some [(.int 0)]) else (bif (ltI a11 0) then (some [(.int 0)]) else (bif (inR a10 (lenI a5)) then (bif (leI (lenI (gl (at' a5 (tn a10)))) a11) then (some [(.int 0)]) else (bif (inR a10 (lenI a5)) then (bif (inR a11 (lenI (gl (at' a5 (tn a10))))) then (((callI tE f_impl_RowCost [(.int (gn (at' (gl (at' a5 (tn a10))) (tn a11)))), (.int (gn (tk 1 (at' (gl (at' a5 (tn a10))) (tn a11))))), (.int (gn (tk 2 (at' (gl (at' a5 (tn a10))) (tn a11)))))])).bind (fun r0 => (some [(.int (gn r0))]))) else none) else none)) else none))) := (callI_run rfl (by kernel_rfl)).trans (by kernel_rfl)
theorem c_impl_SorterMemory (a0 : List (List Dat)) (a1 : Int) (a2 : List (List Dat)) (a3 : List (List Dat)) (a4 : List (List Dat)) (a5 : List (List Dat)) (a6 : Int) (a7 : Int) (a8 : Int) (a9 : Int) : callI tE f_impl_SorterMemory [.sl a0, .int a1, .sl a2, .sl a3, .sl a4, .sl a5, .int a6, .int a7, .int a8, .int a9] = (bif (eqI a8 1) then (((callI tE f_impl_TotalCost [(.sl a2)])).bind (fun r0 => (((callI tE f_impl_TotalCost [(.sl a3)])).bind (fun r1 => (some [(.int (w64 ((gn r0) + (gn r1))))]))))) else (bif (eqI a8 2) then (bif (ltI a6 0) then (some [(.int 0)]) else (bif (ltI a7 0) then (some [(.int 0)]) else (((callI tE f_impl_runCost [(.sl a0), (.int a1), (.sl a2), (.sl a3), (.sl a4), (.sl a5), (.int a6), (.int a7), (.int a8), (.int a9), (.int 0), (.int a6)])).bind (fun r0 => (((callI tE f_impl_runCost [(.sl a0), (.int a1), (.sl a2), (.sl a3), (.sl a4), (.sl a5), (.int a6), (.int a7), (.int a8), (.int a9), (.int 1), (.int a7)])).bind (fun r1 => (some [(.int (w64 ((gn r0) + (gn r1))))]))))))) else (bif (eqI a8 3) then (((callI tE f_impl_runCost [(.sl a0), (.int a1), (.sl a2), (.sl a3), (.sl a4), (.sl a5), (.int a6), (.int a7), (.int a8), (.int a9), (.int 0), (.int a6)])).bind (fun r0 => (some [(.int (gn r0))]))) else (some [(.int 0)])))) := (callI_run rfl (by kernel_rfl)).trans (by kernel_rfl)
noncomputable def L_impl_AreValidRuns_0 (x0 : List (List Dat)) (x1 : Int) (x2 : Int) : Option (List Dat) := loopK tE f_impl_AreValidRuns 0 ⟨[(5, (.ro 169 Bool.false x0)), (6, (.i .i64 x1)), (7, (.i .i64 x2))], []⟩
theorem L_impl_AreValidRuns_0_eq (x0 : List (List Dat)) (x1 : Int) (x2 : Int) : L_impl_AreValidRuns_0 x0 x1 x2 = (bif (ltI x2 x1) then (bif (inR x2 (lenI x0)) then (bif (eqI (lenI (gl (at' x0 (tn x2)))) 0) then (some [(.bool Bool.false)]) else (((callI tE f_impl_IsSorted [(.sl (gl (at' x0 (tn x2))))])).bind (fun r0 => (bif (!(gb r0)) then (some [(.bool Bool.false)]) else (((callI tE f_impl_AreValidRows [(.sl (gl (at' x0 (tn x2))))])).bind (fun r1 => (bif (!(gb r1)) then (some [(.bool Bool.false)]) else (L_impl_AreValidRuns_0 x0 x1 (w64 (x2 + 1)))))))))) else none) else (some [(.bool Bool.true)])) := (loopK_run (by kernel_rfl)).trans (by kernel_rfl)
theorem c_impl_AreValidRuns (a0 : List (List Dat)) : callI tE f_impl_AreValidRuns [.sl a0] = (L_impl_AreValidRuns_0 a0 (lenI a0) 0) := (callI_run rfl (by kernel_rfl)).trans (by kernel_rfl)
theorem c_impl_below (a0 : Int) (a1 : Int) (a2 : Int) (a3 : List (List Dat)) : callI tE f_impl_below [.int a0, .int a1, .int a2, .sl a3] = (bif (ltI 0 (lenI a3)) then (bif (inR (w64 ((lenI a3) - 1)) (lenI a3)) then (((callI tE f_impl_CompareRows [(.int a0), (.int a1), (.int a2), (.int (gn (at' a3 (tn (w64 ((lenI a3) - 1)))))), (.int (gn (tk 1 (at' a3 (tn (w64 ((lenI a3) - 1))))))), (.int (gn (tk 2 (at' a3 (tn (w64 ((lenI a3) - 1)))))))])).bind (fun r0 => (some [(.bool (ltI (gn r0) 0))]))) else none) else (some [(.bool Bool.false)])) := (callI_run rfl (by kernel_rfl)).trans (by kernel_rfl)
noncomputable def L_impl_FlattenRuns_0 (x0 : List (List Dat)) (x1 : Int) (x2 : Int) (x3 : List (List Dat)) : Option (List Dat) := loopK tE f_impl_FlattenRuns 0 ⟨[(3, (.own (500000, 0))), (7, (.ro 169 Bool.false x0)), (8, (.i .i64 x1)), (9, (.i .i64 x2))], [((500000, 0), (.row 105 x3 Bool.true 0 []))]⟩
theorem L_impl_FlattenRuns_0_eq (x0 : List (List Dat)) (x1 : Int) (x2 : Int) (x3 : List (List Dat)) : L_impl_FlattenRuns_0 x0 x1 x2 x3 = (bif (ltI x2 x1) then (bif (inR x2 (lenI x0)) then (bif (fitM ((len x3) + (len (gl (at' x0 (tn x2))))) 24) then (L_impl_FlattenRuns_0 x0 x1 (w64 (x2 + 1)) (List.append x3 (gl (at' x0 (tn x2))))) else none) else none) else (some [(.sl x3)])) := (loopK_run (by kernel_rfl)).trans (by kernel_rfl)
theorem c_impl_FlattenRuns (a0 : List (List Dat)) : callI tE f_impl_FlattenRuns [.sl a0] = (L_impl_FlattenRuns_0 a0 (lenI a0) 0 []) := (callI_run rfl (by kernel_rfl)).trans (by kernel_rfl)
noncomputable def L_impl_together_0 (x0 : List (List Dat)) (x1 : Int) (x2 : Int) (x3 : List (List Dat)) : Option (List Dat) := loopK tE f_impl_together 0 ⟨[(3, (.own (500000, 0))), (7, (.ro 24 Bool.false x0)), (8, (.i .i64 x1)), (9, (.i .i64 x2))], [((500000, 0), (.row 105 x3 Bool.true 0 []))]⟩
theorem L_impl_together_0_eq (x0 : List (List Dat)) (x1 : Int) (x2 : Int) (x3 : List (List Dat)) : L_impl_together_0 x0 x1 x2 x3 = (bif (ltI x2 x1) then (bif (inR x2 (lenI x0)) then (bif (fitM ((len x3) + (len (gl (at' x0 (tn x2))))) 24) then (L_impl_together_0 x0 x1 (w64 (x2 + 1)) (List.append x3 (gl (at' x0 (tn x2))))) else none) else none) else (some [(.sl x3)])) := (loopK_run (by kernel_rfl)).trans (by kernel_rfl)
theorem c_impl_together (a0 : List (List Dat)) : callI tE f_impl_together [.sl a0] = (L_impl_together_0 a0 (lenI a0) 0 []) := (callI_run rfl (by kernel_rfl)).trans (by kernel_rfl)
noncomputable def L_impl_MergeSorted_0 (x0 : List (List Dat)) (x1 : List (List Dat)) (x2 : List (List Dat)) : Option (List Dat) := loopK tE f_impl_MergeSorted 0 ⟨[(0, (.ro 105 Bool.false x0)), (1, (.ro 105 Bool.false x1)), (5, (.own (500000, 0)))], [((500000, 0), (.row 105 x2 Bool.true 0 []))]⟩
theorem L_impl_MergeSorted_0_eq (x0 : List (List Dat)) (x1 : List (List Dat)) (x2 : List (List Dat)) : L_impl_MergeSorted_0 x0 x1 x2 = (bif (ltI 0 (lenI x0)) then (bif (eqI (lenI x1) 0) then (bif (inR 0 (lenI x0)) then (bif (fitM (Nat.succ (len x2)) 24) then (bif ((leI 0 1) && (leI 1 (lenI x0))) then (L_impl_MergeSorted_0 (List.take (tn ((lenI x0) - 1)) (List.drop (tn 1) x0)) x1 (List.append x2 [[(.int (gn (at' x0 (tn 0)))), (.int (gn (tk 1 (at' x0 (tn 0))))), (.int (gn (tk 2 (at' x0 (tn 0)))))]])) else none) else none) else none) else (bif (ltI 0 (lenI x0)) then (bif (inR 0 (lenI x0)) then (bif (inR 0 (lenI x1)) then (((callI tE f_impl_CompareRows [(.int (gn (at' x0 (tn 0)))), (.int (gn (tk 1 (at' x0 (tn 0))))), (.int (gn (tk 2 (at' x0 (tn 0))))), (.int (gn (at' x1 (tn 0)))), (.int (gn (tk 1 (at' x1 (tn 0))))), (.int (gn (tk 2 (at' x1 (tn 0)))))])).bind (fun r0 => (bif (leI (gn r0) 0) then (bif (inR 0 (lenI x0)) then (bif (fitM (Nat.succ (len x2)) 24) then (bif ((leI 0 1) && (leI 1 (lenI x0))) then (L_impl_MergeSorted_0 (List.take (tn ((lenI x0) - 1)) (List.drop (tn 1) x0)) x1 (List.append x2 [[(.int (gn (at' x0 (tn 0)))), (.int (gn (tk 1 (at' x0 (tn 0))))), (.int (gn (tk 2 (at' x0 (tn 0)))))]])) else none) else none) else none) else (bif (inR 0 (lenI x1)) then (bif (fitM (Nat.succ (len x2)) 24) then (bif ((leI 0 1) && (leI 1 (lenI x1))) then (L_impl_MergeSorted_0 x0 (List.take (tn ((lenI x1) - 1)) (List.drop (tn 1) x1)) (List.append x2 [[(.int (gn (at' x1 (tn 0)))), (.int (gn (tk 1 (at' x1 (tn 0))))), (.int (gn (tk 2 (at' x1 (tn 0)))))]])) else none) else none) else none)))) else none) else none) else (bif (inR 0 (lenI x1)) then (bif (fitM (Nat.succ (len x2)) 24) then (bif ((leI 0 1) && (leI 1 (lenI x1))) then (L_impl_MergeSorted_0 x0 (List.take (tn ((lenI x1) - 1)) (List.drop (tn 1) x1)) (List.append x2 [[(.int (gn (at' x1 (tn 0)))), (.int (gn (tk 1 (at' x1 (tn 0))))), (.int (gn (tk 2 (at' x1 (tn 0)))))]])) else none) else none) else none))) else (bif (ltI 0 (lenI x1)) then (bif (eqI (lenI x1) 0) then (bif (inR 0 (lenI x0)) then (bif (fitM (Nat.succ (len x2)) 24) then (bif ((leI 0 1) && (leI 1 (lenI x0))) then (L_impl_MergeSorted_0 (List.take (tn ((lenI x0) - 1)) (List.drop (tn 1) x0)) x1 (List.append x2 [[(.int (gn (at' x0 (tn 0)))), (.int (gn (tk 1 (at' x0 (tn 0))))), (.int (gn (tk 2 (at' x0 (tn 0)))))]])) else none) else none) else none) else (bif (ltI 0 (lenI x0)) then (bif (inR 0 (lenI x0)) then (bif (inR 0 (lenI x1)) then (((callI tE f_impl_CompareRows [(.int (gn (at' x0 (tn 0)))), (.int (gn (tk 1 (at' x0 (tn 0))))), (.int (gn (tk 2 (at' x0 (tn 0))))), (.int (gn (at' x1 (tn 0)))), (.int (gn (tk 1 (at' x1 (tn 0))))), (.int (gn (tk 2 (at' x1 (tn 0)))))])).bind (fun r0 => (bif (leI (gn r0) 0) then (bif (inR 0 (lenI x0)) then (bif (fitM (Nat.succ (len x2)) 24) then (bif ((leI 0 1) && (leI 1 (lenI x0))) then (L_impl_MergeSorted_0 (List.take (tn ((lenI x0) - 1)) (List.drop (tn 1) x0)) x1 (List.append x2 [[(.int (gn (at' x0 (tn 0)))), (.int (gn (tk 1 (at' x0 (tn 0))))), (.int (gn (tk 2 (at' x0 (tn 0)))))]])) else none) else none) else none) else (bif (inR 0 (lenI x1)) then (bif (fitM (Nat.succ (len x2)) 24) then (bif ((leI 0 1) && (leI 1 (lenI x1))) then (L_impl_MergeSorted_0 x0 (List.take (tn ((lenI x1) - 1)) (List.drop (tn 1) x1)) (List.append x2 [[(.int (gn (at' x1 (tn 0)))), (.int (gn (tk 1 (at' x1 (tn 0))))), (.int (gn (tk 2 (at' x1 (tn 0)))))]])) else none) else none) else none)))) else none) else none) else (bif (inR 0 (lenI x1)) then (bif (fitM (Nat.succ (len x2)) 24) then (bif ((leI 0 1) && (leI 1 (lenI x1))) then (L_impl_MergeSorted_0 x0 (List.take (tn ((lenI x1) - 1)) (List.drop (tn 1) x1)) (List.append x2 [[(.int (gn (at' x1 (tn 0)))), (.int (gn (tk 1 (at' x1 (tn 0))))), (.int (gn (tk 2 (at' x1 (tn 0)))))]])) else none) else none) else none))) else (some [(.sl x2)]))) := (loopK_run (by kernel_rfl)).trans (by kernel_rfl)
theorem c_impl_MergeSorted (a0 : List (List Dat)) (a1 : List (List Dat)) : callI tE f_impl_MergeSorted [.sl a0, .sl a1] = (L_impl_MergeSorted_0 a0 a1 []) := (callI_run rfl (by kernel_rfl)).trans (by kernel_rfl)
noncomputable def L_impl_IsValidSorter_0 (x0 : Int) (x1 : List (List Dat)) (x2 : Int) (x3 : Int) (x4 : List (List Dat)) (x5 : Int) (x6 : List (List Dat)) (x7 : List (List Dat)) (x8 : List (List Dat)) (x9 : List (List Dat)) (x10 : Int) (x11 : Int) (x12 : Int) (x13 : Int) : Option (List Dat) := loopK tE f_impl_IsValidSorter 0 ⟨[(3, (.ptr (500000, 0) x0 0)), (41, (.ro 105 Bool.false x1)), (42, (.i .i64 x2)), (43, (.i .i64 x3))], [((500000, 0), (.box 40 [(.ro 105 Bool.false x4), (.i .i64 x5), (.ro 105 Bool.false x6), (.ro 105 Bool.false x7), (.ro 105 Bool.false x8), (.ro 169 Bool.false x9), (.i .i64 x10), (.i .i64 x11), (.i .i64 x12), (.i .i64 x13)]))]⟩
theorem L_impl_IsValidSorter_0_eq (x0 : Int) (x1 : List (List Dat)) (x2 : Int) (x3 : Int) (x4 : List (List Dat)) (x5 : Int) (x6 : List (List Dat)) (x7 : List (List Dat)) (x8 : List (List Dat)) (x9 : List (List Dat)) (x10 : Int) (x11 : Int) (x12 : Int) (x13 : Int) : L_impl_IsValidSorter_0 x0 x1 x2 x3 x4 x5 x6 x7 x8 x9 x10 x11 x12 x13 = (bif (ltI x3 x2) then (bif (inR x3 (lenI x1)) then (((callI tE f_impl_below [(.int (gn (at' x1 (tn x3)))), (.int (gn (tk 1 (at' x1 (tn x3))))), (.int (gn (tk 2 (at' x1 (tn x3))))), (.sl x8)])).bind (fun r0 => (bif (gb r0) then (some [(.bool Bool.false)]) else (L_impl_IsValidSorter_0 x0 x1 x2 (w64 (x3 + 1)) x4 x5 x6 x7 x8 x9 x10 x11 x12 x13)))) else none) else (((callI tE f_impl_FlattenRuns [(.sl x9)])).bind (fun r0 => (bif (eqI x12 1) then (bif (eqI x10 0) then (bif (eqI x11 0) then (bif (ltI 0 (lenI x8)) then (((callI tE f_impl_SorterMemory [(.sl x4), (.int x5), (.sl x6), (.sl x7), (.sl x8), (.sl x9), (.int x10), (.int x11), (.int x12), (.int x13)])).bind (fun r1 => (bif (leI (gn r1) 60) then (((callI tE f_impl_together [(.sl [[(.sl (gl r0))], [(.sl x8)], [(.sl x6)], [(.sl x7)]])])).bind (fun r2 => (bif ((leI 0 x5) && (leI x5 (lenI x4))) then (((callI tE f_impl_EqualBags [(.sl (gl r2)), (.sl (List.take (tn (x5 - 0)) (List.drop (tn 0) x4)))])).bind (fun r3 => (some [(.bool (gb r3))]))) else none))) else (some [(.bool Bool.false)])))) else (bif (eqI (lenI x7) 0) then (((callI tE f_impl_SorterMemory [(.sl x4), (.int x5), (.sl x6), (.sl x7), (.sl x8), (.sl x9), (.int x10), (.int x11), (.int x12), (.int x13)])).bind (fun r1 => (bif (leI (gn r1) 60) then (((callI tE f_impl_together [(.sl [[(.sl (gl r0))], [(.sl x8)], [(.sl x6)], [(.sl x7)]])])).bind (fun r2 => (bif ((leI 0 x5) && (leI x5 (lenI x4))) then (((callI tE f_impl_EqualBags [(.sl (gl r2)), (.sl (List.take (tn (x5 - 0)) (List.drop (tn 0) x4)))])).bind (fun r3 => (some [(.bool (gb r3))]))) else none))) else (some [(.bool Bool.false)])))) else (some [(.bool Bool.false)]))) else (some [(.bool Bool.false)])) else (some [(.bool Bool.false)])) else (bif (!(eqI x5 (lenI x4))) then (some [(.bool Bool.false)]) else (bif (ltI 0 (lenI x6)) then (some [(.bool Bool.false)]) else (bif (ltI 0 (lenI x7)) then (some [(.bool Bool.false)]) else (((callI tE f_impl_EqualBags [(.sl (gl r0)), (.sl x4)])).bind (fun r1 => (bif (!(gb r1)) then (some [(.bool Bool.false)]) else (bif (eqI x12 2) then (bif (ltI (lenI x9) 2) then (some [(.bool Bool.false)]) else (bif (inR 0 (lenI x9)) then (bif (inR 1 (lenI x9)) then (((callI tE f_impl_within [(.int x10), (.int 0), (.int (lenI (gl (at' x9 (tn 0)))))])).bind (fun r2 => (bif (!(gb r2)) then (some [(.bool Bool.false)]) else (((callI tE f_impl_within [(.int x11), (.int 0), (.int (lenI (gl (at' x9 (tn 1)))))])).bind (fun r3 => (bif (!(gb r3)) then (some [(.bool Bool.false)]) else (bif ((leI 0 x10) && (leI x10 (lenI (gl (at' x9 (tn 0)))))) then (bif ((leI 0 x11) && (leI x11 (lenI (gl (at' x9 (tn 1)))))) then (((callI tE f_impl_MergeSorted [(.sl (List.take (tn (x10 - 0)) (List.drop (tn 0) (gl (at' x9 (tn 0)))))), (.sl (List.take (tn (x11 - 0)) (List.drop (tn 0) (gl (at' x9 (tn 1))))))])).bind (fun r4 => (((callI tE f_impl_equal [(.sl x8), (.sl (gl r4))])).bind (fun r5 => (bif (gb r5) then (((callI tE f_impl_MergeSorted [(.sl (gl (at' x9 (tn 0)))), (.sl (gl (at' x9 (tn 1))))])).bind (fun r6 => (bif ((leI 0 (w64 (x10 + x11))) && (leI (w64 (x10 + x11)) (lenI (gl r6)))) then (((callI tE f_impl_equal [(.sl x8), (.sl (List.take (tn ((w64 (x10 + x11)) - 0)) (List.drop (tn 0) (gl r6))))])).bind (fun r7 => (some [(.bool (gb r7))]))) else none))) else (some [(.bool Bool.false)])))))) else none) else none))))))) else none) else none)) else (bif (eqI x12 3) then (bif (eqI (lenI x9) 1) then (((callI tE f_impl_within [(.int x10), (.int 0), (.int (w64 ((lenI x4) - 1)))])).bind (fun r2 => (bif (gb r2) then (bif (eqI x11 0) then (some [(.bool (eqI (lenI x8) 0))]) else (some [(.bool Bool.false)])) else (some [(.bool Bool.false)])))) else (some [(.bool Bool.false)])) else (bif (eqI x12 4) then (bif (leI (lenI x9) 1) then (bif (eqI x10 (lenI x4)) then (bif (eqI x11 0) then (some [(.bool (eqI (lenI x8) 0))]) else (some [(.bool Bool.false)])) else (some [(.bool Bool.false)])) else (some [(.bool Bool.false)])) else (some [(.bool Bool.false)])))))))))))))) := (loopK_run (by kernel_rfl)).trans (by kernel_rfl)
theorem c_impl_IsValidSorter (a0 : List (List Dat)) (a1 : Int) (a2 : List (List Dat)) (a3 : List (List Dat)) (a4 : List (List Dat)) (a5 : List (List Dat)) (a6 : Int) (a7 : Int) (a8 : Int) (a9 : Int) : callI tE f_impl_IsValidSorter [.sl a0, .int a1, .sl a2, .sl a3, .sl a4, .sl a5, .int a6, .int a7, .int a8, .int a9] = (((callI tE f_impl_AreValidRows [(.sl a0)])).bind (fun r0 => (bif (!(gb r0)) then (some [(.bool Bool.false)]) else (((callI tE f_impl_within [(.int a1), (.int 0), (.int (lenI a0))])).bind (fun r1 => (bif (!(gb r1)) then (some [(.bool Bool.false)]) else (((callI tE f_impl_AreValidRuns [(.sl a5)])).bind (fun r2 => (bif (!(gb r2)) then (some [(.bool Bool.false)]) else (bif (ltI a9 0) then (some [(.bool Bool.false)]) else (((callI tE f_impl_IsSorted [(.sl a4)])).bind (fun r3 => (bif (!(gb r3)) then (some [(.bool Bool.false)]) else (L_impl_IsValidSorter_0 0 a2 (lenI a2) 0 a0 a1 a2 a3 a4 a5 a6 a7 a8 a9)))))))))))))) := (callI_run rfl (by kernel_rfl)).trans (by kernel_rfl)
theorem c_spec_l13Row (a0 : List (List Dat)) (a1 : Int) (a2 : Int) : callI tE f_spec_l13Row [.sl a0, .int a1, .int a2] = (bif (ltI a1 (lenI a0)) then (bif (inR a1 (lenI a0)) then (bif (ltI a2 (lenI (gl (at' a0 (tn a1))))) then (bif (inR a1 (lenI a0)) then (bif (inR a2 (lenI (gl (at' a0 (tn a1))))) then (some [(.sl [[(.int (gn (at' (gl (at' a0 (tn a1))) (tn a2)))), (.int (gn (tk 1 (at' (gl (at' a0 (tn a1))) (tn a2))))), (.int (gn (tk 2 (at' (gl (at' a0 (tn a1))) (tn a2)))))]])]) else none) else none) else (some [(.sl [])])) else none) else (some [(.sl [])])) := (callI_run rfl (by kernel_rfl)).trans (by kernel_rfl)
theorem c_spec_SorterMemory (a0 : List (List Dat)) (a1 : Int) (a2 : List (List Dat)) (a3 : List (List Dat)) (a4 : List (List Dat)) (a5 : List (List Dat)) (a6 : Int) (a7 : Int) (a8 : Int) (a9 : Int) : callI tE f_spec_SorterMemory [.sl a0, .int a1, .sl a2, .sl a3, .sl a4, .sl a5, .int a6, .int a7, .int a8, .int a9] = (bif (eqI a8 1) then (((callI tE f_spec_TotalCost [(.sl a2)])).bind (fun r0 => (((callI tE f_spec_TotalCost [(.sl a3)])).bind (fun r1 => (some [(.int (w64 ((gn r0) + (gn r1))))]))))) else (bif (eqI a8 2) then (bif (ltI a6 0) then (some [(.int 0)]) else (bif (ltI a7 0) then (some [(.int 0)]) else (((callI tE f_spec_l13Row [(.sl a5), (.int 0), (.int a6)])).bind (fun r0 => (((callI tE f_spec_TotalCost [(.sl (gl r0))])).bind (fun r1 => (((callI tE f_spec_l13Row [(.sl a5), (.int 1), (.int a7)])).bind (fun r2 => (((callI tE f_spec_TotalCost [(.sl (gl r2))])).bind (fun r3 => (some [(.int (w64 ((gn r1) + (gn r3))))]))))))))))) else (bif (eqI a8 3) then (bif (ltI a6 0) then (some [(.int 0)]) else (((callI tE f_spec_l13Row [(.sl a5), (.int 0), (.int a6)])).bind (fun r0 => (((callI tE f_spec_TotalCost [(.sl (gl r0))])).bind (fun r1 => (some [(.int (gn r1))])))))) else (some [(.int 0)])))) := (callI_run rfl (by kernel_rfl)).trans (by kernel_rfl)
noncomputable def L_spec_AreValidRuns_0 (x0 : List (List Dat)) (x1 : Int) : Option (List Dat) := loopK tE f_spec_AreValidRuns 0 ⟨[(0, (.ro 169 Bool.false x0)), (3, (.i .i64 x1))], []⟩
theorem L_spec_AreValidRuns_0_eq (x0 : List (List Dat)) (x1 : Int) : L_spec_AreValidRuns_0 x0 x1 = (bif (ltI x1 (lenI x0)) then (bif (inR x1 (lenI x0)) then (bif (eqI (lenI (gl (at' x0 (tn x1)))) 0) then (some [(.bool Bool.false)]) else (bif (inR x1 (lenI x0)) then (((callI tE f_spec_IsSorted [(.sl (gl (at' x0 (tn x1))))])).bind (fun r0 => (bif (!(gb r0)) then (some [(.bool Bool.false)]) else (bif (inR x1 (lenI x0)) then (((callI tE f_spec_AreValidRows [(.sl (gl (at' x0 (tn x1))))])).bind (fun r1 => (bif (!(gb r1)) then (some [(.bool Bool.false)]) else (L_spec_AreValidRuns_0 x0 (w64 (x1 + 1)))))) else none)))) else none)) else none) else (some [(.bool Bool.true)])) := (loopK_run (by kernel_rfl)).trans (by kernel_rfl)
theorem c_spec_AreValidRuns (a0 : List (List Dat)) : callI tE f_spec_AreValidRuns [.sl a0] = (L_spec_AreValidRuns_0 a0 0) := (callI_run rfl (by kernel_rfl)).trans (by kernel_rfl)
noncomputable def L_spec_FlattenRuns_0 (x0 : List (List Dat)) (x1 : Int) (x2 : List (List Dat)) : Option (List Dat) := loopK tE f_spec_FlattenRuns 0 ⟨[(0, (.ro 169 Bool.false x0)), (3, (.own (500000, 0))), (4, (.i .i64 x1))], [((500000, 0), (.row 105 x2 Bool.true 0 []))]⟩
theorem L_spec_FlattenRuns_0_eq (x0 : List (List Dat)) (x1 : Int) (x2 : List (List Dat)) : L_spec_FlattenRuns_0 x0 x1 x2 = (bif (ltI x1 (lenI x0)) then (bif (inR x1 (lenI x0)) then (bif (fitM ((len x2) + (len (gl (at' x0 (tn x1))))) 24) then (L_spec_FlattenRuns_0 x0 (w64 (x1 + 1)) (List.append x2 (gl (at' x0 (tn x1))))) else none) else none) else (some [(.sl x2)])) := (loopK_run (by kernel_rfl)).trans (by kernel_rfl)
theorem c_spec_FlattenRuns (a0 : List (List Dat)) : callI tE f_spec_FlattenRuns [.sl a0] = (L_spec_FlattenRuns_0 a0 0 []) := (callI_run rfl (by kernel_rfl)).trans (by kernel_rfl)
noncomputable def L_spec_MergeSorted_0 (x0 : List (List Dat)) (x1 : List (List Dat)) (x2 : Int) (x3 : Int) (x4 : List (List Dat)) : Option (List Dat) := loopK tE f_spec_MergeSorted 0 ⟨[(0, (.ro 105 Bool.false x0)), (1, (.ro 105 Bool.false x1)), (5, (.own (500000, 0))), (6, (.i .i64 x2)), (7, (.i .i64 x3))], [((500000, 0), (.row 105 x4 Bool.true 0 []))]⟩
theorem L_spec_MergeSorted_0_eq (x0 : List (List Dat)) (x1 : List (List Dat)) (x2 : Int) (x3 : Int) (x4 : List (List Dat)) : L_spec_MergeSorted_0 x0 x1 x2 x3 x4 = (bif (ltI x2 (lenI x0)) then (bif (eqI x3 (lenI x1)) then (bif (inR x2 (lenI x0)) then (bif (fitM (Nat.succ (len x4)) 24) then (L_spec_MergeSorted_0 x0 x1 (w64 (x2 + 1)) x3 (List.append x4 [[(.int (gn (at' x0 (tn x2)))), (.int (gn (tk 1 (at' x0 (tn x2))))), (.int (gn (tk 2 (at' x0 (tn x2)))))]])) else none) else none) else (bif (ltI x2 (lenI x0)) then (bif (inR x2 (lenI x0)) then (bif (inR x3 (lenI x1)) then (((callI tE f_spec_CompareRows [(.int (gn (at' x0 (tn x2)))), (.int (gn (tk 1 (at' x0 (tn x2))))), (.int (gn (tk 2 (at' x0 (tn x2))))), (.int (gn (at' x1 (tn x3)))), (.int (gn (tk 1 (at' x1 (tn x3))))), (.int (gn (tk 2 (at' x1 (tn x3)))))])).bind (fun r0 => (bif (leI (gn r0) 0) then (bif (inR x2 (lenI x0)) then (bif (fitM (Nat.succ (len x4)) 24) then (L_spec_MergeSorted_0 x0 x1 (w64 (x2 + 1)) x3 (List.append x4 [[(.int (gn (at' x0 (tn x2)))), (.int (gn (tk 1 (at' x0 (tn x2))))), (.int (gn (tk 2 (at' x0 (tn x2)))))]])) else none) else none) else (bif (inR x3 (lenI x1)) then (bif (fitM (Nat.succ (len x4)) 24) then (L_spec_MergeSorted_0 x0 x1 x2 (w64 (x3 + 1)) (List.append x4 [[(.int (gn (at' x1 (tn x3)))), (.int (gn (tk 1 (at' x1 (tn x3))))), (.int (gn (tk 2 (at' x1 (tn x3)))))]])) else none) else none)))) else none) else none) else (bif (inR x3 (lenI x1)) then (bif (fitM (Nat.succ (len x4)) 24) then (L_spec_MergeSorted_0 x0 x1 x2 (w64 (x3 + 1)) (List.append x4 [[(.int (gn (at' x1 (tn x3)))), (.int (gn (tk 1 (at' x1 (tn x3))))), (.int (gn (tk 2 (at' x1 (tn x3)))))]])) else none) else none))) else (bif (ltI x3 (lenI x1)) then (bif (eqI x3 (lenI x1)) then (bif (inR x2 (lenI x0)) then (bif (fitM (Nat.succ (len x4)) 24) then (L_spec_MergeSorted_0 x0 x1 (w64 (x2 + 1)) x3 (List.append x4 [[(.int (gn (at' x0 (tn x2)))), (.int (gn (tk 1 (at' x0 (tn x2))))), (.int (gn (tk 2 (at' x0 (tn x2)))))]])) else none) else none) else (bif (ltI x2 (lenI x0)) then (bif (inR x2 (lenI x0)) then (bif (inR x3 (lenI x1)) then (((callI tE f_spec_CompareRows [(.int (gn (at' x0 (tn x2)))), (.int (gn (tk 1 (at' x0 (tn x2))))), (.int (gn (tk 2 (at' x0 (tn x2))))), (.int (gn (at' x1 (tn x3)))), (.int (gn (tk 1 (at' x1 (tn x3))))), (.int (gn (tk 2 (at' x1 (tn x3)))))])).bind (fun r0 => (bif (leI (gn r0) 0) then (bif (inR x2 (lenI x0)) then (bif (fitM (Nat.succ (len x4)) 24) then (L_spec_MergeSorted_0 x0 x1 (w64 (x2 + 1)) x3 (List.append x4 [[(.int (gn (at' x0 (tn x2)))), (.int (gn (tk 1 (at' x0 (tn x2))))), (.int (gn (tk 2 (at' x0 (tn x2)))))]])) else none) else none) else (bif (inR x3 (lenI x1)) then (bif (fitM (Nat.succ (len x4)) 24) then (L_spec_MergeSorted_0 x0 x1 x2 (w64 (x3 + 1)) (List.append x4 [[(.int (gn (at' x1 (tn x3)))), (.int (gn (tk 1 (at' x1 (tn x3))))), (.int (gn (tk 2 (at' x1 (tn x3)))))]])) else none) else none)))) else none) else none) else (bif (inR x3 (lenI x1)) then (bif (fitM (Nat.succ (len x4)) 24) then (L_spec_MergeSorted_0 x0 x1 x2 (w64 (x3 + 1)) (List.append x4 [[(.int (gn (at' x1 (tn x3)))), (.int (gn (tk 1 (at' x1 (tn x3))))), (.int (gn (tk 2 (at' x1 (tn x3)))))]])) else none) else none))) else (some [(.sl x4)]))) := (loopK_run (by kernel_rfl)).trans (by kernel_rfl)
theorem c_spec_MergeSorted (a0 : List (List Dat)) (a1 : List (List Dat)) : callI tE f_spec_MergeSorted [.sl a0, .sl a1] = (L_spec_MergeSorted_0 a0 a1 0 0 []) := (callI_run rfl (by kernel_rfl)).trans (by kernel_rfl)
noncomputable def L_spec_IsValidSorter_0 (x0 : Int) (x1 : Int) (x2 : Int) (x3 : List (List Dat)) (x4 : Int) (x5 : List (List Dat)) (x6 : List (List Dat)) (x7 : List (List Dat)) (x8 : List (List Dat)) (x9 : Int) (x10 : Int) (x11 : Int) (x12 : Int) : Option (List Dat) := loopK tE f_spec_IsValidSorter 0 ⟨[(1, (.ptr (500000, 0) x0 0)), (3, (.i .i64 x1)), (4, (.i .i64 x2))], [((500000, 0), (.box 40 [(.ro 105 Bool.false x3), (.i .i64 x4), (.ro 105 Bool.false x5), (.ro 105 Bool.false x6), (.ro 105 Bool.false x7), (.ro 169 Bool.false x8), (.i .i64 x9), (.i .i64 x10), (.i .i64 x11), (.i .i64 x12)]))]⟩
theorem L_spec_IsValidSorter_0_eq (x0 : Int) (x1 : Int) (x2 : Int) (x3 : List (List Dat)) (x4 : Int) (x5 : List (List Dat)) (x6 : List (List Dat)) (x7 : List (List Dat)) (x8 : List (List Dat)) (x9 : Int) (x10 : Int) (x11 : Int) (x12 : Int) : L_spec_IsValidSorter_0 x0 x1 x2 x3 x4 x5 x6 x7 x8 x9 x10 x11 x12 = (bif (ltI x2 (lenI x5)) then (bif (leI 0 x1) then (bif (inR x2 (lenI x5)) then (bif (inR x1 (lenI x7)) then (((callI tE f_spec_CompareRows [(.int (gn (at' x5 (tn x2)))), (.int (gn (tk 1 (at' x5 (tn x2))))), (.int (gn (tk 2 (at' x5 (tn x2))))), (.int (gn (at' x7 (tn x1)))), (.int (gn (tk 1 (at' x7 (tn x1))))), (.int (gn (tk 2 (at' x7 (tn x1)))))])).bind (fun r0 => (bif (ltI (gn r0) 0) then (some [(.bool Bool.false)]) else (L_spec_IsValidSorter_0 x0 x1 (w64 (x2 + 1)) x3 x4 x5 x6 x7 x8 x9 x10 x11 x12)))) else none) else none) else (L_spec_IsValidSorter_0 x0 x1 (w64 (x2 + 1)) x3 x4 x5 x6 x7 x8 x9 x10 x11 x12)) else (bif (eqI x11 1) then (((callI tE f_spec_FlattenRuns [(.sl x8)])).bind (fun r0 => (bif (fitM ((len (gl r0)) + (len x7)) 24) then (bif (fitM ((len (List.append (gl r0) x7)) + (len x5)) 24) then (bif (fitM ((len (List.append (List.append (gl r0) x7) x5)) + (len x6)) 24) then (bif (eqI x9 0) then (bif (eqI x10 0) then (bif (eqI (lenI x6) 0) then (((callI tE f_spec_SorterMemory [(.sl x3), (.int x4), (.sl x5), (.sl x6), (.sl x7), (.sl x8), (.int x9), (.int x10), (.int x11), (.int x12)])).bind (fun r1 => (bif (leI (gn r1) 60) then (bif ((leI 0 x4) && (leI x4 (lenI x3))) then (((callI tE f_spec_EqualBags [(.sl (List.append (List.append (List.append (gl r0) x7) x5) x6)), (.sl (List.take (tn (x4 - 0)) (List.drop (tn 0) x3)))])).bind (fun r2 => (some [(.bool (gb r2))]))) else none) else (some [(.bool Bool.false)])))) else (bif (leI 0 x1) then (((callI tE f_spec_SorterMemory [(.sl x3), (.int x4), (.sl x5), (.sl x6), (.sl x7), (.sl x8), (.int x9), (.int x10), (.int x11), (.int x12)])).bind (fun r1 => (bif (leI (gn r1) 60) then (bif ((leI 0 x4) && (leI x4 (lenI x3))) then (((callI tE f_spec_EqualBags [(.sl (List.append (List.append (List.append (gl r0) x7) x5) x6)), (.sl (List.take (tn (x4 - 0)) (List.drop (tn 0) x3)))])).bind (fun r2 => (some [(.bool (gb r2))]))) else none) else (some [(.bool Bool.false)])))) else (some [(.bool Bool.false)]))) else (some [(.bool Bool.false)])) else (some [(.bool Bool.false)])) else none) else none) else none))) else (bif (!(eqI x4 (lenI x3))) then (some [(.bool Bool.false)]) else (bif (ltI 0 (w64 ((lenI x5) + (lenI x6)))) then (some [(.bool Bool.false)]) else (bif (eqI x11 2) then (bif (ltI (lenI x8) 2) then (some [(.bool Bool.false)]) else (bif (inR 0 (lenI x8)) then (((callI tE f_spec_l1In [(.int x9), (.int 0), (.int (lenI (gl (at' x8 (tn 0)))))])).bind (fun r0 => (bif (!(gb r0)) then (some [(.bool Bool.false)]) else (bif (inR 1 (lenI x8)) then (((callI tE f_spec_l1In [(.int x10), (.int 0), (.int (lenI (gl (at' x8 (tn 1)))))])).bind (fun r1 => (bif (!(gb r1)) then (some [(.bool Bool.false)]) else (bif (inR 0 (lenI x8)) then (bif ((leI 0 x9) && (leI x9 (lenI (gl (at' x8 (tn 0)))))) then (bif (inR 1 (lenI x8)) then (bif ((leI 0 x10) && (leI x10 (lenI (gl (at' x8 (tn 1)))))) then (((callI tE f_spec_MergeSorted [(.sl (List.take (tn (x9 - 0)) (List.drop (tn 0) (gl (at' x8 (tn 0)))))), (.sl (List.take (tn (x10 - 0)) (List.drop (tn 0) (gl (at' x8 (tn 1))))))])).bind (fun r2 => (bif (inR 0 (lenI x8)) then (bif (inR 1 (lenI x8)) then (((callI tE f_spec_MergeSorted [(.sl (gl (at' x8 (tn 0)))), (.sl (gl (at' x8 (tn 1))))])).bind (fun r3 => (bif ((leI 0 (w64 (x9 + x10))) && (leI (w64 (x9 + x10)) (lenI (gl r3)))) then (((callI tE f_spec_l6Rows [(.sl x7), (.sl (List.take (tn ((w64 (x9 + x10)) - 0)) (List.drop (tn 0) (gl r3))))])).bind (fun r4 => (bif (gb r4) then (((callI tE f_spec_l6Rows [(.sl (gl r2)), (.sl x7)])).bind (fun r5 => (bif (gb r5) then (((callI tE f_spec_FlattenRuns [(.sl x8)])).bind (fun r6 => (((callI tE f_spec_EqualBags [(.sl (gl r6)), (.sl x3)])).bind (fun r7 => (some [(.bool (gb r7))]))))) else (some [(.bool Bool.false)])))) else (some [(.bool Bool.false)])))) else none))) else none) else none))) else none) else none) else none) else none)))) else none)))) else none)) else (bif (ltI 1 (lenI x8)) then (some [(.bool Bool.false)]) else (bif (!(eqI x10 0)) then (some [(.bool Bool.false)]) else (bif (ltI 0 (lenI x7)) then (some [(.bool Bool.false)]) else (((callI tE f_spec_FlattenRuns [(.sl x8)])).bind (fun r0 => (((callI tE f_spec_EqualBags [(.sl (gl r0)), (.sl x3)])).bind (fun r1 => (bif (!(gb r1)) then (some [(.bool Bool.false)]) else (bif (eqI x11 3) then (bif (eqI (lenI x8) 1) then (((callI tE f_spec_l1In [(.int x9), (.int 0), (.int (w64 ((lenI x3) - 1)))])).bind (fun r2 => (some [(.bool (gb r2))]))) else (some [(.bool Bool.false)])) else (bif (eqI x11 4) then (some [(.bool (eqI x9 (lenI x3)))]) else (some [(.bool Bool.false)])))))))))))))))) := (loopK_run (by kernel_rfl)).trans (by kernel_rfl)
theorem c_spec_IsValidSorter (a0 : List (List Dat)) (a1 : Int) (a2 : List (List Dat)) (a3 : List (List Dat)) (a4 : List (List Dat)) (a5 : List (List Dat)) (a6 : Int) (a7 : Int) (a8 : Int) (a9 : Int) : callI tE f_spec_IsValidSorter [.sl a0, .int a1, .sl a2, .sl a3, .sl a4, .sl a5, .int a6, .int a7, .int a8, .int a9] = (((callI tE f_spec_AreValidRows [(.sl a0)])).bind (fun r0 => (bif (!(gb r0)) then (some [(.bool Bool.false)]) else (((callI tE f_spec_l1In [(.int a1), (.int 0), (.int (lenI a0))])).bind (fun r1 => (bif (!(gb r1)) then (some [(.bool Bool.false)]) else (((callI tE f_spec_AreValidRuns [(.sl a5)])).bind (fun r2 => (bif (!(gb r2)) then (some [(.bool Bool.false)]) else (bif (ltI a9 0) then (some [(.bool Bool.false)]) else (((callI tE f_spec_IsSorted [(.sl a4)])).bind (fun r3 => (bif (!(gb r3)) then (some [(.bool Bool.false)]) else (L_spec_IsValidSorter_0 0 (w64 ((lenI a4) - 1)) 0 a0 a1 a2 a3 a4 a5 a6 a7 a8 a9)))))))))))))) := (callI_run rfl (by kernel_rfl)).trans (by kernel_rfl)
theorem c_laws_szRun (a0 : List (List Dat)) (a1 : Int) : callI tE f_laws_szRun [.sl a0, .int a1] = (((callI tE f_laws_szRowS [(.sl a0), (.int a1)])).bind (fun r0 => (bif (ltI (gn r0) 0) then (some [(.int (-1))]) else (some [(.int (gn r0))])))) := (callI_run rfl (by kernel_rfl)).trans (by kernel_rfl)
noncomputable def L_laws_szRunS_0 (x0 : List (List Dat)) (x1 : Int) (x2 : Int) : Option (List Dat) := loopK tE f_laws_szRunS 0 ⟨[(0, (.ro 287 Bool.false x0)), (1, (.i .i64 x1)), (5, (.i .i64 x2))], []⟩
theorem L_laws_szRunS_0_eq (x0 : List (List Dat)) (x1 : Int) (x2 : Int) : L_laws_szRunS_0 x0 x1 x2 = (bif (ltI x2 (lenI x0)) then (bif (inR x2 (lenI x0)) then (((callI tE f_laws_szRun [(.sl (gl (at' x0 (tn x2)))), (.int x1)])).bind (fun r0 => (bif (ltI (gn r0) 0) then (some [(.int (-1))]) else (L_laws_szRunS_0 x0 (gn r0) (w64 (x2 + 1)))))) else none) else (some [(.int x1)])) := (loopK_run (by kernel_rfl)).trans (by kernel_rfl)
theorem c_laws_szRunS (a0 : List (List Dat)) (a1 : Int) : callI tE f_laws_szRunS [.sl a0, .int a1] = (bif (ltI (w64 (a1 - (lenI a0))) 0) then (some [(.int (-1))]) else (L_laws_szRunS_0 a0 (w64 (a1 - (lenI a0))) 0)) := (callI_run rfl (by kernel_rfl)).trans (by kernel_rfl)
theorem c_laws_szSorter (a0 : List (List Dat)) (a1 : Int) (a2 : List (List Dat)) (a3 : List (List Dat)) (a4 : List (List Dat)) (a5 : List (List Dat)) (a6 : Int) (a7 : Int) (a8 : Int) (a9 : Int) (a10 : Int) : callI tE f_laws_szSorter [.sl a0, .int a1, .sl a2, .sl a3, .sl a4, .sl a5, .int a6, .int a7, .int a8, .int a9, .int a10] = (((callI tE f_laws_szRowS [(.sl a0), (.int a10)])).bind (fun r0 => (bif (ltI (gn r0) 0) then (some [(.int (-1))]) else (((callI tE f_laws_szRowS [(.sl a2), (.int (gn r0))])).bind (fun r1 => (bif (ltI (gn r1) 0) then (some [(.int (-1))]) else (((callI tE f_laws_szRowS [(.sl a3), (.int (gn r1))])).bind (fun r2 => (bif (ltI (gn r2) 0) then (some [(.int (-1))]) else (((callI tE f_laws_szRowS [(.sl a4), (.int (gn r2))])).bind (fun r3 => (bif (ltI (gn r3) 0) then (some [(.int (-1))]) else (((callI tE f_laws_szRunS [(.sl a5), (.int (gn r3))])).bind (fun r4 => (bif (ltI (gn r4) 0) then (some [(.int (-1))]) else (some [(.int (gn r4))])))))))))))))))) := (callI_run rfl (by kernel_rfl)).trans (by kernel_rfl)
theorem c_laws_toRun (a0 : List (List Dat)) : callI tE f_laws_toRun [.sl a0] = (((callI tE f_laws_toRowS [(.sl a0)])).bind (fun r0 => (some [(.sl (gl r0))]))) := (callI_run rfl (by kernel_rfl)).trans (by kernel_rfl)
noncomputable def L_laws_toRunS_0 (x0 : List (List Dat)) (x1 : Int) (x2 : List (List Dat)) : Option (List Dat) := loopK tE f_laws_toRunS 0 ⟨[(0, (.ro 287 Bool.false x0)), (3, (.own (500000, 0))), (4, (.i .i64 x1))], [((500000, 0), (.row 169 x2 Bool.true 0 []))]⟩
theorem L_laws_toRunS_0_eq (x0 : List (List Dat)) (x1 : Int) (x2 : List (List Dat)) : L_laws_toRunS_0 x0 x1 x2 = (bif (ltI x1 (lenI x0)) then (bif (inR x1 (lenI x0)) then (((callI tE f_laws_toRun [(.sl (gl (at' x0 (tn x1))))])).bind (fun r0 => (bif (inR x1 (lenI x2)) then (L_laws_toRunS_0 x0 (w64 (x1 + 1)) (updR x2 (tn x1) 0 [(.sl (gl r0))])) else none))) else none) else (some [(.sl x2)])) := (loopK_run (by kernel_rfl)).trans (by kernel_rfl)
theorem c_laws_toRunS (a0 : List (List Dat)) : callI tE f_laws_toRunS [.sl a0] = (bif ((leI 0 (lenI a0)) && ((eqI (lenI a0) (lenI a0)) && (fitM (tn (lenI a0)) 24))) then (L_laws_toRunS_0 a0 0 (List.replicate (tn (lenI a0)) [(.sl [])])) else none) := (callI_run rfl (by kernel_rfl)).trans (by kernel_rfl)
theorem c_laws_toSorter (a0 : List (List Dat)) (a1 : Int) (a2 : List (List Dat)) (a3 : List (List Dat)) (a4 : List (List Dat)) (a5 : List (List Dat)) (a6 : Int) (a7 : Int) (a8 : Int) (a9 : Int) : callI tE f_laws_toSorter [.sl a0, .int a1, .sl a2, .sl a3, .sl a4, .sl a5, .int a6, .int a7, .int a8, .int a9] = (((callI tE f_laws_toRowS [(.sl a0)])).bind (fun r0 => (((callI tE f_laws_toRowS [(.sl a2)])).bind (fun r1 => (((callI tE f_laws_toRowS [(.sl a3)])).bind (fun r2 => (((callI tE f_laws_toRowS [(.sl a4)])).bind (fun r3 => (((callI tE f_laws_toRunS [(.sl a5)])).bind (fun r4 => (some [(.sl (gl r0)), (.int a1), (.sl (gl r1)), (.sl (gl r2)), (.sl (gl r3)), (.sl (gl r4)), (.int a6), (.int a7), (.int a8), (.int a9)]))))))))))) := (callI_run rfl (by kernel_rfl)).trans (by kernel_rfl)
theorem c_laws_eqRun (a0 : List (List Dat)) (a1 : List (List Dat)) : callI tE f_laws_eqRun [.sl a0, .sl a1] = (((callI tE f_laws_eqRowS [(.sl a0), (.sl a1)])).bind (fun r0 => (bif (!(gb r0)) then (some [(.bool Bool.false)]) else (some [(.bool Bool.true)])))) := (callI_run rfl (by kernel_rfl)).trans (by kernel_rfl)
noncomputable def L_laws_eqRunS_0 (x0 : List (List Dat)) (x1 : List (List Dat)) (x2 : Int) : Option (List Dat) := loopK tE f_laws_eqRunS 0 ⟨[(0, (.ro 169 Bool.false x0)), (1, (.ro 169 Bool.false x1)), (5, (.i .i64 x2))], []⟩
theorem L_laws_eqRunS_0_eq (x0 : List (List Dat)) (x1 : List (List Dat)) (x2 : Int) : L_laws_eqRunS_0 x0 x1 x2 = (bif (ltI x2 (lenI x0)) then (bif (inR x2 (lenI x0)) then (bif (inR x2 (lenI x1)) then (((callI tE f_laws_eqRun [(.sl (gl (at' x0 (tn x2)))), (.sl (gl (at' x1 (tn x2))))])).bind (fun r0 => (bif (!(gb r0)) then (some [(.bool Bool.false)]) else (L_laws_eqRunS_0 x0 x1 (w64 (x2 + 1)))))) else none) else none) else (some [(.bool Bool.true)])) := (loopK_run (by kernel_rfl)).trans (by kernel_rfl)
theorem c_laws_eqRunS (a0 : List (List Dat)) (a1 : List (List Dat)) : callI tE f_laws_eqRunS [.sl a0, .sl a1] = (bif (!(eqI (lenI a0) (lenI a1))) then (some [(.bool Bool.false)]) else (L_laws_eqRunS_0 a0 a1 0)) := (callI_run rfl (by kernel_rfl)).trans (by kernel_rfl)
theorem c_laws_eqSorter (a0 : List (List Dat)) (a1 : Int) (a2 : List (List Dat)) (a3 : List (List Dat)) (a4 : List (List Dat)) (a5 : List (List Dat)) (a6 : Int) (a7 : Int) (a8 : Int) (a9 : Int) (a10 : List (List Dat)) (a11 : Int) (a12 : List (List Dat)) (a13 : List (List Dat)) (a14 : List (List Dat)) (a15 : List (List Dat)) (a16 : Int) (a17 : Int) (a18 : Int) (a19 : Int) : callI tE f_laws_eqSorter [.sl a0, .int a1, .sl a2, .sl a3, .sl a4, .sl a5, .int a6, .int a7, .int a8, .int a9, .sl a10, .int a11, .sl a12, .sl a13, .sl a14, .sl a15, .int a16, .int a17, .int a18, .int a19] = (((callI tE f_laws_eqRowS [(.sl a0), (.sl a10)])).bind (fun r0 => (bif (!(gb r0)) then (some [(.bool Bool.false)]) else (bif (!(eqI a1 a11)) then (some [(.bool Bool.false)]) else (((callI tE f_laws_eqRowS [(.sl a2), (.sl a12)])).bind (fun r1 => (bif (!(gb r1)) then (some [(.bool Bool.false)]) else (((callI tE f_laws_eqRowS [(.sl a3), (.sl a13)])).bind (fun r2 => (bif (!(gb r2)) then (some [(.bool Bool.false)]) else (((callI tE f_laws_eqRowS [(.sl a4), (.sl a14)])).bind (fun r3 => (bif (!(gb r3)) then (some [(.bool Bool.false)]) else (((callI tE f_laws_eqRunS [(.sl a5), (.sl a15)])).bind (fun r4 => (bif (!(gb r4)) then (some [(.bool Bool.false)]) else (bif (!(eqI a6 a16)) then (some [(.bool Bool.false)]) else (bif (!(eqI a7 a17)) then (some [(.bool Bool.false)]) else (bif (!(eqI a8 a18)) then (some [(.bool Bool.false)]) else (bif (!(eqI a9 a19)) then (some [(.bool Bool.false)]) else (some [(.bool Bool.true)]))))))))))))))))))))) := (callI_run rfl (by kernel_rfl)).trans (by kernel_rfl)
noncomputable def L_spec_MergePasses_0 (x0 : Int) (x1 : Int) (x2 : Int) : Option (List Dat) := loopK tE f_spec_MergePasses 0 ⟨[(0, (.i .i64 x0)), (3, (.i .i64 x1)), (4, (.i .i64 x2))], []⟩
theorem L_spec_MergePasses_0_eq (x0 : Int) (x1 : Int) (x2 : Int) : L_spec_MergePasses_0 x0 x1 x2 = (bif (ltI x2 x0) then (bif (ltI x1 40) then (L_spec_MergePasses_0 x0 (w64 (x1 + 1)) (w64 (x2 * 2))) else (some [(.int x1)])) else (some [(.int x1)])) := (loopK_run (by kernel_rfl)).trans (by kernel_rfl)
theorem c_spec_MergePasses (a0 : Int) : callI tE f_spec_MergePasses [.int a0] = (L_spec_MergePasses_0 a0 0 1) := (callI_run rfl (by kernel_rfl)).trans (by kernel_rfl)
theorem c_spec_SortStepBound (a0 : Int) : callI tE f_spec_SortStepBound [.int a0] = (bif (leI a0 0) then (some [(.int 1)]) else (((callI tE f_spec_MergePasses [(.int a0)])).bind (fun r0 => (some [(.int (w64 ((w64 ((w64 (4 * a0)) + 2)) + (w64 ((w64 (a0 + 1)) * (w64 ((gn r0) + 1)))))))])))) := (callI_run rfl (by kernel_rfl)).trans (by kernel_rfl)
noncomputable def L_impl_MergePasses_0 (x0 : Int) (x1 : Int) (x2 : Int) : Option (List Dat) := loopK tE f_impl_MergePasses 0 ⟨[(0, (.i .i64 x0)), (3, (.i .i64 x1)), (4, (.i .i64 x2))], []⟩
theorem L_impl_MergePasses_0_eq (x0 : Int) (x1 : Int) (x2 : Int) : L_impl_MergePasses_0 x0 x1 x2 = (bif (ltI x2 x0) then (bif (ltI x1 40) then (L_impl_MergePasses_0 x0 (w64 (x1 + 1)) (w64 (x2 * 2))) else (some [(.int x1)])) else (some [(.int x1)])) := (loopK_run (by kernel_rfl)).trans (by kernel_rfl)
theorem c_impl_MergePasses (a0 : Int) : callI tE f_impl_MergePasses [.int a0] = (L_impl_MergePasses_0 a0 0 1) := (callI_run rfl (by kernel_rfl)).trans (by kernel_rfl)
theorem c_impl_SortStepBound (a0 : Int) : callI tE f_impl_SortStepBound [.int a0] = (bif (leI a0 0) then (some [(.int 1)]) else (((callI tE f_impl_MergePasses [(.int a0)])).bind (fun r0 => (some [(.int (w64 ((w64 ((w64 (4 * a0)) + 2)) + (w64 ((w64 (a0 + 1)) * (w64 ((gn r0) + 1)))))))])))) := (callI_run rfl (by kernel_rfl)).trans (by kernel_rfl)
end Go.Proofs.YtceoogjanfbdcaaGreat.Vai
namespace Go.Proofs.YtceoogjanfbdcaaGreat.Vai
open Go
set_option linter.unusedSimpArgs false
set_option linter.unusedVariables false
set_option linter.unnecessarySimpa false
set_option maxRecDepth 10000
theorem iSortRows (x : List Rw) (hx : x.length ≤ 1099511627776) : ∃ y, y.Perm x ∧ Srt y ∧ callI tE f_impl_SortRows [.sl (x.map Rw.e)] = some [.sl (y.map Rw.e)] := by
  obtain ⟨y, y1, y2, y3⟩ := sortStable x (by omega)
  refine ⟨y, y1, y2, ?_⟩
  rw [c_impl_SortRows, iClone x hx]
  simp only [gn_c, gb_c, gs_c, gl_c, tk_s, tk_0, List.drop_succ_cons, List.drop_zero, List.headD_cons, List.getD_cons_zero, List.getD_cons_succ, bind_s, y3]
theorem ss_end (l u v w1 w2 : List Rw) (c : Rw) (i k : Nat) (hl : l = u ++ c :: v) (hi : u.length = i) (hk : w1.length = k) (hw : (w1 ++ w2).length ≤ 1099511627776) (hi2 : i < 1152921504606846976) :
    (bif (inR (i : Int) (lenI (l.map Rw.e))) then (bif ((leI 0 (k : Int)) && (leI (k : Int) (lenI ((w1 ++ w2).map Rw.e)))) then (bif (fitM (1 + (len (List.take (tn ((lenI ((w1 ++ w2).map Rw.e)) - (k : Int))) (List.drop (tn (k : Int)) ((w1 ++ w2).map Rw.e))))) 24) then (bif ((leI 0 (k : Int)) && (leI (k : Int) (lenI ((w1 ++ w2).map Rw.e)))) then (bif (fitM (0 + (len (List.take (tn ((k : Int) - 0)) (List.drop (tn 0) ((w1 ++ w2).map Rw.e))))) 24) then (bif (fitM (Nat.succ ((len (List.take (tn ((k : Int) - 0)) (List.drop (tn 0) ((w1 ++ w2).map Rw.e)))) + (len (List.take (tn ((lenI ((w1 ++ w2).map Rw.e)) - (k : Int))) (List.drop (tn (k : Int)) ((w1 ++ w2).map Rw.e)))))) 24) then
      (L_spec_SortRows_0 (l.map Rw.e) (w64 ((i : Int) + 1)) (List.append (List.take (tn ((k : Int) - 0)) (List.drop (tn 0) ((w1 ++ w2).map Rw.e))) ([(.int (gn (at' (l.map Rw.e) (tn (i : Int))))), (.int (gn (tk 1 (at' (l.map Rw.e) (tn (i : Int)))))), (.int (gn (tk 2 (at' (l.map Rw.e) (tn (i : Int))))))] :: (List.take (tn ((lenI ((w1 ++ w2).map Rw.e)) - (k : Int))) (List.drop (tn (k : Int)) ((w1 ++ w2).map Rw.e)))))) else none) else none) else none) else none) else none) else none) =
    L_spec_SortRows_0 (l.map Rw.e) ((i + 1 : Nat) : Int) ((w1 ++ c :: w2).map Rw.e) := by
  have hc : at' (l.map Rw.e) i = c.e := at_i hl hi
  have hll : i < l.length := by rw [hl, ← hi]; simp
  simp only [List.length_append] at hw
  have e1 : List.take (tn ((k : Int) - 0)) (List.drop (tn 0) ((w1 ++ w2).map Rw.e)) = w1.map Rw.e := by
    show List.take ((k : Int) - 0).toNat (List.drop 0 ((w1 ++ w2).map Rw.e)) = _
    rw [show ((k : Int) - 0).toNat = k by omega, List.drop_zero, List.map_append, ← hk]
    simp
  have e2 : List.take (tn ((lenI ((w1 ++ w2).map Rw.e)) - (k : Int))) (List.drop (tn (k : Int)) ((w1 ++ w2).map Rw.e)) = w2.map Rw.e := by
    rw [lenI_map]
    show List.take (((w1 ++ w2).length : Int) - (k : Int)).toNat (List.drop k ((w1 ++ w2).map Rw.e)) = _
    rw [show (((w1 ++ w2).length : Int) - (k : Int)).toNat = w2.length by simp; omega, List.map_append, ← hk]
    simp [List.take_of_length_le]
  rw [in_i hll, e1, e2, len_map, len_map, show leI (k : Int) (lenI ((w1 ++ w2).map Rw.e)) = true by rw [lenI_map]; exact leT (by simp; omega), leT (show (0 : Int) ≤ (k : Int) by omega), show fitM (1 + w2.length) 24 = true from fitT (by omega), show fitM (0 + w1.length) 24 = true from fitT (by omega), show fitM (Nat.succ (w1.length + w2.length)) 24 = true from fitT (by omega), w64_s (by omega)]
  simp only [cond_true, Bool.and_self, tn_c, hc, gk, gv, gw]
  congr 1
  simp [rw_of]
theorem ss1 (l u v : List Rw) (c : Rw) (i : Nat) (hl : l = u ++ c :: v) (hi : u.length = i) (hi2 : i < 1152921504606846976) : ∀ (n : Nat) (w1 w2 : List Rw) (k : Nat), w1.length = n → k = n → Srt (w1 ++ w2) → (∀ y ∈ w2, Rw.le c y) → (w1 ++ w2).length ≤ 1099511627776 →
    ∃ w, w.Perm ((w1 ++ w2) ++ [c]) ∧ Srt w ∧ L_spec_SortRows_1 (l.map Rw.e) (i : Nat) (k : Nat) ((w1 ++ w2).map Rw.e) = L_spec_SortRows_0 (l.map Rw.e) ((i + 1 : Nat) : Int) (w.map Rw.e) := by
  have hll : i < l.length := by rw [hl, ← hi]; simp
  have hc : nth l i = c := by rw [hl, ← hi, nth_app2 _ _ (Nat.le_refl _)]; simp [nth]
  have pm : ∀ w1 w2 : List Rw, (w1 ++ c :: w2).Perm ((w1 ++ w2) ++ [c]) := fun w1 w2 => List.perm_middle.trans (by simpa using (List.perm_append_comm (l₁ := [c]) (l₂ := w1 ++ w2)))
  intro n
  induction n with
  | zero =>
    intro w1 w2 k hn hk hs hw hlen
    have : w1 = [] := List.length_eq_zero_iff.mp hn
    subst this
    refine ⟨c :: w2, pm [] w2, List.pairwise_cons.mpr ⟨hw, by simpa using hs⟩, ?_⟩
    rw [L_spec_SortRows_1_eq, ltF (by omega), cond_false]
    exact ss_end l u v [] w2 c i k hl hi (by simp; omega) hlen hi2
  | succ n ih =>
    intro w1 w2 k hn hk hs hw hlen
    obtain ⟨w1, d, rfl⟩ := snoc_of (n := n) (l := w1) hn
    have hlen' := hlen
    simp only [List.length_append, List.length_cons, List.length_nil] at hlen' hn
    have i1 : inR ((k - 1 : Nat) : Int) (lenI ((w1 ++ [d] ++ w2).map Rw.e)) = true := in_i (by simp; omega)
    have i2 : inR (i : Int) (lenI (l.map Rw.e)) = true := in_i hll
    have hd : nth (w1 ++ [d] ++ w2) (k - 1) = d := by
      rw [nth_app1 (w1 ++ [d]) w2 (by simp; omega), nth_app2 w1 _ (by omega), show k - 1 - w1.length = 0 by omega]
      simp [nth]
    have a1 : at' ((w1 ++ [d] ++ w2).map Rw.e) (k - 1) = d.e := by rw [at_nth (by simp; omega), hd]
    have a2 : at' (l.map Rw.e) i = c.e := by rw [at_nth hll, hc]
    rw [L_spec_SortRows_1_eq, ltT (by omega), cond_true, w64_pred (by omega) (by omega), i1, cond_true]
    rw [show (bif inR (i : Int) (lenI (l.map Rw.e)) then _ else none : Option (List Dat)) = _ from by rw [i2, cond_true]]
    simp only [tn_c, a1, a2, gk, gv, gw]
    rw [sCompare]
    simp only [gn_c, gb_c, gs_c, gl_c, tk_s, tk_0, List.drop_succ_cons, List.drop_zero, List.headD_cons, List.getD_cons_zero, List.getD_cons_succ, bind_s]
    rw [lt_cmp0']
    by_cases hcd : Rw.lt c d
    · rw [decide_eq_true hcd, cond_true]
      have hs' : Srt (w1 ++ d :: w2) := by simpa using hs
      obtain ⟨w, q1, q2, q3⟩ := ih w1 (d :: w2) (k - 1) (by omega) (by omega) hs' (fun y hy => by
        rcases List.mem_cons.mp hy with rfl | hy
        · exact Rw.lt_le hcd
        · exact hw y hy) (by simp; omega)
      refine ⟨w, by simpa using q1, q2, ?_⟩
      rw [← q3]
      simp
    · rw [decide_eq_false hcd, cond_false]
      refine ⟨(w1 ++ [d]) ++ c :: w2, pm _ _, ?_, ?_⟩
      · obtain ⟨s1, s2, s3⟩ := List.pairwise_append.mp hs
        refine List.pairwise_append.mpr ⟨s1, List.pairwise_cons.mpr ⟨hw, s2⟩, fun x hx y hy => ?_⟩
        rcases List.mem_cons.mp hy with rfl | hy
        · obtain ⟨t1, t2, t3⟩ := List.pairwise_append.mp s1
          rcases List.mem_append.mp hx with hx | hx
          · exact Rw.le_tr (t3 x hx d (by simp)) hcd
          · simp at hx; subst hx; exact hcd
        · exact s3 x hx y hy
      · have := ss_end l u v (w1 ++ [d]) w2 c i k hl hi (by simp; omega) hlen hi2
        simp only [tn_c, a2, gk, gv, gw, i2, cond_true] at this ⊢
        exact this
theorem ss0 (l : List Rw) (hll : l.length ≤ 1099511627770) : ∀ (v u w : List Rw) (i : Nat), l = u ++ v → u.length = i → w.Perm u → Srt w → ∃ y, y.Perm l ∧ Srt y ∧ L_spec_SortRows_0 (l.map Rw.e) (i : Nat) (w.map Rw.e) = some [.sl (y.map Rw.e)]
  | [], u, w, i, hl, hi, hw, hs => by
    rw [List.append_nil] at hl
    refine ⟨w, hl ▸ hw, hs, ?_⟩
    rw [L_spec_SortRows_0_eq, lenI_map, ltF (by rw [hl]; omega), cond_false]
  | c :: v, u, w, i, hl, hi, hw, hs => by
    have hwl := hw.length_eq
    have hlen : l.length = u.length + (v.length + 1) := by rw [hl]; simp
    obtain ⟨w', q1, q2, q3⟩ := ss1 l u v c i hl hi (by omega) w.length w [] w.length rfl rfl (by simpa using hs) (fun y hy => by cases hy) (by simp; omega)
    simp only [List.append_nil] at q1 q3
    obtain ⟨y, y1, y2, y3⟩ := ss0 l hll v (u ++ [c]) w' (i + 1) (by simpa using hl) (by simp; omega) (q1.trans (List.Perm.append_right [c] hw)) q2
    refine ⟨y, y1, y2, ?_⟩
    rw [L_spec_SortRows_0_eq, lenI_map, ltT (by omega), cond_true, lenI_map, q3]
    exact y3
theorem sortRows (x : List Rw) (hx : x.length ≤ 1099511627770) : ∃ y, y.Perm x ∧ Srt y ∧ callI tE f_impl_SortRows [.sl (x.map Rw.e)] = some [.sl (y.map Rw.e)] ∧ callI tE f_spec_SortRows [.sl (x.map Rw.e)] = some [.sl (y.map Rw.e)] := by
  obtain ⟨y, y1, y2, y3⟩ := iSortRows x (by omega)
  obtain ⟨z, z1, z2, z3⟩ := ss0 x hx x [] [] 0 rfl rfl (List.Perm.refl _) List.Pairwise.nil
  have : z = y := srt_unique (z1.trans y1.symm) z2 y2
  subst this
  refine ⟨z, y1, y2, y3, ?_⟩
  rw [c_spec_SortRows]
  exact z3
end Go.Proofs.YtceoogjanfbdcaaGreat.Vai
namespace Go.Proofs.YtceoogjanfbdcaaGreat.Vai
open Go
set_option linter.unusedSimpArgs false
set_option linter.unusedVariables false
set_option linter.unnecessarySimpa false
set_option maxRecDepth 10000
def ins (c : Rw) : List Rw → List Rw
  | [] => [c]
  | d :: l => if Rw.lt c d then c :: d :: l else d :: ins c l
def isort : List Rw → List Rw
  | [] => []
  | c :: l => ins c (isort l)
theorem ins_perm (c : Rw) : ∀ l, (ins c l).Perm (c :: l)
  | [] => List.Perm.refl _
  | d :: l => by
    unfold ins
    split
    · exact List.Perm.refl _
    · exact ((ins_perm c l).cons d).trans (List.Perm.swap c d l)
theorem ins_srt (c : Rw) : ∀ {l : List Rw}, Srt l → Srt (ins c l)
  | [], _ => List.pairwise_singleton _ _
  | d :: l, h => by
    unfold ins
    obtain ⟨h1, h2⟩ := List.pairwise_cons.mp h
    split
    · rename_i hc
      refine List.pairwise_cons.mpr ⟨fun y hy => ?_, h⟩
      rcases List.mem_cons.mp hy with rfl | hy
      · exact Rw.lt_le hc
      · exact Rw.le_tr (Rw.lt_le hc) (h1 y hy)
    · rename_i hc
      refine List.pairwise_cons.mpr ⟨fun y hy => ?_, ins_srt c h2⟩
      rcases List.mem_cons.mp ((ins_perm c l).mem_iff.mp hy) with rfl | hy
      · exact hc
      · exact h1 y hy
theorem isort_perm : ∀ l, (isort l).Perm l
  | [] => List.Perm.refl _
  | c :: l => (ins_perm c _).trans ((isort_perm l).cons c)
theorem isort_srt : ∀ l, Srt (isort l)
  | [] => List.Pairwise.nil
  | c :: l => ins_srt c (isort_srt l)
theorem iSort (x : List Rw) (hx : x.length ≤ 1099511627770) : callI tE f_impl_SortRows [.sl (x.map Rw.e)] = some [.sl ((isort x).map Rw.e)] := by
  obtain ⟨y, y1, y2, y3, _⟩ := sortRows x hx
  rw [y3, srt_unique (y1.trans (isort_perm x).symm) y2 (isort_srt x)]
theorem sSort (x : List Rw) (hx : x.length ≤ 1099511627770) : callI tE f_spec_SortRows [.sl (x.map Rw.e)] = some [.sl ((isort x).map Rw.e)] := by
  obtain ⟨y, y1, y2, _, y3⟩ := sortRows x hx
  rw [y3, srt_unique (y1.trans (isort_perm x).symm) y2 (isort_srt x)]
theorem isort_len (l : List Rw) : (isort l).length = l.length := (isort_perm l).length_eq
end Go.Proofs.YtceoogjanfbdcaaGreat.Vai
namespace Go.Proofs.YtceoogjanfbdcaaGreat.Vai
open Go
set_option linter.unusedSimpArgs false
set_option linter.unusedVariables false
set_option linter.unnecessarySimpa false
set_option maxRecDepth 10000
theorem split_at {α : Type} {l : List α} {n : Nat} (h : n < l.length) : ∃ u a v, l = u ++ a :: v ∧ u.length = n :=
  ⟨l.take n, l[n], l.drop (n + 1), by
    have := List.take_append_drop n l
    rw [List.drop_eq_getElem_cons h] at this
    exact this.symm, by simp; omega⟩
theorem cut_tail (r : Rw) (p : List Rw) : List.take (tn (lenI ((r :: p).map Rw.e) - 1)) (List.drop (tn 1) ((r :: p).map Rw.e)) = p.map Rw.e := by
  rw [lenI_map]
  show List.take ((((r :: p).length : Nat) : Int) - 1).toNat (List.drop 1 (Rw.e r :: p.map Rw.e)) = _
  simp [List.take_of_length_le]
theorem szL_mem' {l : List (List Rw)} {a : List Rw} (h : a ∈ l) : a.length ≤ szL List.length l := szL_mem h
def Xc.B (x : Xc) : Prop := x.sz ≤ 1073741824
theorem Xc.B.p {x : Xc} (h : x.B) : szL List.length x.pend ≤ 1073741824 ∧ szL List.length x.que ≤ 1073741824 ∧ szL List.length x.got ≤ 1073741824 := by
  simp only [Xc.B, Xc.sz] at h; omega
theorem iTogether (l : List (List Rw)) (h : szL List.length l ≤ 1073741824) : callI tE f_impl_together [.sl (l.map rsE)] = some [.sl (l.flatten.map Rw.e)] := by
  have hl := szL_len List.length l
  have hfl : ∀ m : List (List Rw), m.flatten.length ≤ szL List.length m := fun m => by
    induction m with
    | nil => simp
    | cons a m ih => simp only [List.flatten_cons, List.length_append, szL]; omega
  rw [c_impl_together]
  have := zip_loop (l := l) (L := fun (s : List Rw) i => L_impl_together_0 (l.map rsE) (lenI (l.map rsE)) i (s.map Rw.e)) (F := fun _ _ => some [.sl (l.flatten.map Rw.e)]) (I := fun s u _ => s = u.flatten) (by omega) (fun u a v s e hI => by
    have h1 := hfl (u ++ [a])
    have h2 : szL List.length (u ++ [a]) ≤ szL List.length l := by have := szL_split List.length (u ++ [a]) v; rw [e, show u ++ a :: v = (u ++ [a]) ++ v by simp, this]; omega
    refine .inl ⟨(u ++ [a]).flatten, ?_, rfl, rfl⟩
    show L_impl_together_0 _ _ _ _ = L_impl_together_0 _ _ _ _
    subst e
    rw [L_impl_together_0_eq, hI]
    simp only [lt_m, in_m, tn_c, at_m, cond_true, rsE, gn_c, gb_c, gs_c, gl_c, tk_s, tk_0, List.drop_succ_cons, List.drop_zero, List.headD_cons, List.getD_cons_zero, List.getD_cons_succ, bind_s, len_map, app_map2]
    have h3 : (u ++ [a]).flatten.length = u.flatten.length + a.length := by rw [List.flatten_append, List.length_append]; simp
    rw [show fitM (u.flatten.length + a.length) 24 = true from fitT (by omega)]
    simp) (fun s hs => by
    show L_impl_together_0 _ _ _ _ = _
    rw [L_impl_together_0_eq, lt_e, cond_false, hs]) [] rfl
  exact this
def Xc.B2 (x : Xc) : Prop := x.sz ≤ 1073741800
theorem Xc.B2.b {x : Xc} (h : x.B2) : x.B := by simp only [Xc.B2, Xc.B] at *; omega
end Go.Proofs.YtceoogjanfbdcaaGreat.Vai
namespace Go.Proofs.YtceoogjanfbdcaaGreat.Vai
open Go
set_option linter.unusedSimpArgs false
set_option linter.unusedVariables false
set_option linter.unnecessarySimpa false
theorem S_size (l : List UInt8) : (S l).size = l.length := by simp [S, ByteArray.size]
theorem szI_S (l : List UInt8) : szI (S l) = (l.length : Int) := by show ((S l).size : Int) = _; rw [S_size]
end Go.Proofs.YtceoogjanfbdcaaGreat.Vai
namespace Go.Proofs.YtceoogjanfbdcaaGreat.Vai
open Go
set_option linter.unusedSimpArgs false
set_option linter.unusedVariables false
set_option linter.unnecessarySimpa false
set_option maxRecDepth 10000
theorem win_len {i : Int} {n : Nat} (hn : n ≤ 1073741824) : win i 0 (w64 ((n : Int) - 1)) = decide (0 ≤ i ∧ i < n) := by
  rw [w64_id ⟨by omega, by omega⟩, Bool.eq_iff_iff, win_iff, decide_eq_true_eq]
  constructor <;> (intro h; omega)
theorem head_at (r : Rw) (p : List Rw) : at' ((r :: p).map Rw.e) (tn 0) = r.e := rfl
theorem in_0 (r : Rw) (p : List Rw) : inR 0 (lenI ((r :: p).map Rw.e)) = true := by rw [lenI_map]; exact inRT (by omega) (by (first | omega | (simp only [List.length_append, List.length_cons, List.length_nil, List.length_map, List.length_take, List.length_drop, List.length_replicate, szI_S] at * <;> omega)))
theorem le_1 (r : Rw) (p : List Rw) : leI 1 (lenI ((r :: p).map Rw.e)) = true := by rw [lenI_map]; exact leT (by (first | omega | (simp only [List.length_append, List.length_cons, List.length_nil, List.length_map, List.length_take, List.length_drop, List.length_replicate, szI_S] at * <;> omega)))
theorem ne_0 (r : Rw) (p : List Rw) : eqI (lenI ((r :: p).map Rw.e)) 0 = false := by rw [lenI_map]; exact eqF (by (first | omega | (simp only [List.length_append, List.length_cons, List.length_nil, List.length_map, List.length_take, List.length_drop, List.length_replicate, szI_S] at * <;> omega)))
end Go.Proofs.YtceoogjanfbdcaaGreat.Vai
namespace Go.Proofs.YtceoogjanfbdcaaGreat.Vai
open Go
set_option linter.unusedSimpArgs false
set_option linter.unusedVariables false
set_option linter.unnecessarySimpa false
set_option maxRecDepth 10000
def isS : List Rw → Bool
  | [] => true
  | a :: l => (match l with
    | [] => true
    | b :: _ => !decide (Rw.lt b a)) && isS l
theorem isS_cc (a b : Rw) (l : List Rw) : isS (a :: b :: l) = (!decide (Rw.lt b a) && isS (b :: l)) := rfl
theorem isS_1 (a : Rw) : isS [a] = true := rfl
theorem iIsS_loop (l : List Rw) (hl : l.length < 4611686018427387904) : ∀ (v u : List Rw) (a : Rw), l = u ++ a :: v → L_impl_IsSorted_0 (l.map Rw.e) ((u.length + 1 : Nat) : Int) = some [.bool (isS (a :: v))]
  | [], u, a, h => by
    rw [L_impl_IsSorted_0_eq, lenI_map, ltF (by rw [h]; simp), cond_false, isS_1]
  | b :: v, u, a, h => by
    have hlen : l.length = u.length + 1 + 1 + v.length := by rw [h]; simp; omega
    have a1 : at' (l.map Rw.e) u.length = a.e := at_i h rfl
    have a2 : at' (l.map Rw.e) (u.length + 1) = b.e := at_i (u := u ++ [a]) (v := v) (by rw [h]; simp) (by simp)
    have i1 : inR ((u.length + 1 : Nat) : Int) (lenI (l.map Rw.e)) = true := in_i (by omega)
    have i2 : inR ((u.length : Nat) : Int) (lenI (l.map Rw.e)) = true := in_i (by omega)
    have e1 : w64 (((u.length + 1 : Nat) : Int) - 1) = (u.length : Int) := by rw [w64_id ⟨by omega, by omega⟩]; omega
    have ih := iIsS_loop l hl v (u ++ [a]) b (by rw [h]; simp)
    rw [List.length_append, List.length_singleton] at ih
    rw [L_impl_IsSorted_0_eq, show ltI ((u.length + 1 : Nat) : Int) (lenI (l.map Rw.e)) = true by rw [lenI_map]; exact ltT (by omega), i1, e1, i2, w64_s (by omega), ih]
    simp only [cond_true, tn_c, a1, a2, gk, gv, gw, iCompare, gn_c, gb_c, gs_c, gl_c, tk_s, tk_0, List.drop_succ_cons, List.drop_zero, List.headD_cons, List.getD_cons_zero, List.getD_cons_succ, bind_s, lt_cmp0, isS_cc]
    cases decide (Rw.lt b a) <;> rfl
theorem iIsSorted (l : List Rw) (hl : l.length < 4611686018427387904) : callI tE f_impl_IsSorted [.sl (l.map Rw.e)] = some [.bool (isS l)] := by
  rw [c_impl_IsSorted]
  cases l with
  | nil => rw [L_impl_IsSorted_0_eq]; rfl
  | cons a v => exact iIsS_loop (a :: v) hl v [] a rfl
theorem sIsS_loop (l : List Rw) (hl : l.length < 4611686018427387904) : ∀ (v u : List Rw) (a : Rw), l = u ++ a :: v → L_spec_IsSorted_0 (l.map Rw.e) ((u.length + 1 : Nat) : Int) = some [.bool (isS (a :: v))]
  | [], u, a, h => by
    rw [L_spec_IsSorted_0_eq, lenI_map, ltF (by rw [h]; simp), cond_false, isS_1]
  | b :: v, u, a, h => by
    have hlen : l.length = u.length + 1 + 1 + v.length := by rw [h]; simp; omega
    have a1 : at' (l.map Rw.e) u.length = a.e := at_i h rfl
    have a2 : at' (l.map Rw.e) (u.length + 1) = b.e := at_i (u := u ++ [a]) (v := v) (by rw [h]; simp) (by simp)
    have i1 : inR ((u.length + 1 : Nat) : Int) (lenI (l.map Rw.e)) = true := in_i (by omega)
    have i2 : inR ((u.length : Nat) : Int) (lenI (l.map Rw.e)) = true := in_i (by omega)
    have e1 : w64 (((u.length + 1 : Nat) : Int) - 1) = (u.length : Int) := by rw [w64_id ⟨by omega, by omega⟩]; omega
    have ih := sIsS_loop l hl v (u ++ [a]) b (by rw [h]; simp)
    rw [List.length_append, List.length_singleton] at ih
    rw [L_spec_IsSorted_0_eq, show ltI ((u.length + 1 : Nat) : Int) (lenI (l.map Rw.e)) = true by rw [lenI_map]; exact ltT (by omega), i1, e1, i2, w64_s (by omega), ih]
    simp only [cond_true, tn_c, a1, a2, gk, gv, gw, sCompare, gn_c, gb_c, gs_c, gl_c, tk_s, tk_0, List.drop_succ_cons, List.drop_zero, List.headD_cons, List.getD_cons_zero, List.getD_cons_succ, bind_s, lt_cmp0', isS_cc]
    cases decide (Rw.lt b a) <;> rfl
theorem sIsSorted (l : List Rw) (hl : l.length < 4611686018427387904) : callI tE f_spec_IsSorted [.sl (l.map Rw.e)] = some [.bool (isS l)] := by
  rw [c_spec_IsSorted]
  cases l with
  | nil => rw [L_spec_IsSorted_0_eq]; rfl
  | cons a v => exact sIsS_loop (a :: v) hl v [] a rfl
def belowB (r : Rw) (l : List Rw) : Bool := match l.getLast? with
  | none => false
  | some x => decide (Rw.lt r x)
theorem belowB_nil (r : Rw) : belowB r [] = false := rfl
theorem belowB_snoc (r : Rw) (u : List Rw) (x : Rw) : belowB r (u ++ [x]) = decide (Rw.lt r x) := by simp [belowB]
theorem snoc_or (l : List Rw) : l = [] ∨ ∃ u x, l = u ++ [x] := by
  cases l.eq_nil_or_concat with
  | inl h => exact .inl h
  | inr h => obtain ⟨u, x, h⟩ := h; exact .inr ⟨u, x, by simpa using h⟩
theorem iBelow (r : Rw) (l : List Rw) (hl : l.length < 4611686018427387904) : callI tE f_impl_below [.int r.k, .int r.v, .int r.w, .sl (l.map Rw.e)] = some [.bool (belowB r l)] := by
  rw [c_impl_below]
  rcases snoc_or l with rfl | ⟨u, x, rfl⟩
  · rfl
  · simp only [List.length_append, List.length_cons, List.length_nil] at hl
    have a1 : at' ((u ++ [x]).map Rw.e) u.length = x.e := at_i (u := u) (v := []) (by simp) rfl
    have e1 : w64 (lenI ((u ++ [x]).map Rw.e) - 1) = (u.length : Int) := by rw [lenI_map, w64_id ⟨by (first | omega | (simp only [List.length_append, List.length_cons, List.length_nil, List.length_map, List.length_take, List.length_drop, List.length_replicate, szI_S] at * <;> omega)), by (first | omega | (simp only [List.length_append, List.length_cons, List.length_nil, List.length_map, List.length_take, List.length_drop, List.length_replicate, szI_S] at * <;> omega))⟩]; simp
    rw [show ltI 0 (lenI ((u ++ [x]).map Rw.e)) = true by rw [lenI_map]; exact ltT (by (first | omega | (simp only [List.length_append, List.length_cons, List.length_nil, List.length_map, List.length_take, List.length_drop, List.length_replicate, szI_S] at * <;> omega))), e1, in_i (by simp)]
    simp only [cond_true, tn_c, a1, gk, gv, gw, iCompare, gn_c, gb_c, gs_c, gl_c, tk_s, tk_0, List.drop_succ_cons, List.drop_zero, List.headD_cons, List.getD_cons_zero, List.getD_cons_succ, bind_s, lt_cmp0, belowB_snoc]
def runOk (r : List Rw) : Bool := decide (0 < r.length) && (isS r && aok r)
def runSz (l : List (List Rw)) : Prop := szL List.length l ≤ 1073741824
theorem iValidRuns (l : List (List Rw)) (h : runSz l) : callI tE f_impl_AreValidRuns [.sl (l.map rsE)] = some [.bool (l.all runOk)] := by
  have hl := szL_len List.length l
  unfold runSz at h
  rw [c_impl_AreValidRuns]
  have := all_loop (l := l) (L := L_impl_AreValidRuns_0 (l.map rsE) (lenI (l.map rsE))) (p := runOk) (no := some [.bool false]) (yes := some [.bool true]) (by omega) (fun u a v e => by
    have ha : a.length ≤ 1073741824 := Nat.le_trans (szL_mem' (by rw [e]; simp)) h
    subst e
    rw [L_impl_AreValidRuns_0_eq]
    simp only [lt_m, in_m, tn_c, at_m, cond_true, rsE, gn_c, gb_c, gs_c, gl_c, tk_s, tk_0, List.drop_succ_cons, List.drop_zero, List.headD_cons, List.getD_cons_zero, List.getD_cons_succ, bind_s, iIsSorted a (show a.length < 4611686018427387904 by omega), iAreValid]
    rw [lenI_map Rw.e a]
    unfold runOk
    by_cases h0 : a.length = 0
    · rw [eqT (by omega), h0]; rfl
    · rw [eqF (by omega), decide_eq_true (show 0 < a.length by omega)]
      cases isS a
      · rfl
      · cases aok a <;> rfl) (by rw [L_impl_AreValidRuns_0_eq, lt_e, cond_false])
  exact this.trans (bif_bo _)
theorem sValidRuns (l : List (List Rw)) (h : runSz l) : callI tE f_spec_AreValidRuns [.sl (l.map rsE)] = some [.bool (l.all runOk)] := by
  have hl := szL_len List.length l
  unfold runSz at h
  rw [c_spec_AreValidRuns]
  have := all_loop (l := l) (L := L_spec_AreValidRuns_0 (l.map rsE)) (p := runOk) (no := some [.bool false]) (yes := some [.bool true]) (by omega) (fun u a v e => by
    have ha : a.length ≤ 1073741824 := Nat.le_trans (szL_mem' (by rw [e]; simp)) h
    subst e
    rw [L_spec_AreValidRuns_0_eq]
    simp only [lt_m, in_m, tn_c, at_m, cond_true, rsE, gn_c, gb_c, gs_c, gl_c, tk_s, tk_0, List.drop_succ_cons, List.drop_zero, List.headD_cons, List.getD_cons_zero, List.getD_cons_succ, bind_s, sIsSorted a (show a.length < 4611686018427387904 by omega), sAreValid a (show a.length < 4611686018427387904 by omega)]
    rw [lenI_map Rw.e a]
    unfold runOk
    by_cases h0 : a.length = 0
    · rw [eqT (by omega), h0]; rfl
    · rw [eqF (by omega), decide_eq_true (show 0 < a.length by omega)]
      cases isS a
      · rfl
      · cases aok a <;> rfl) (by rw [L_spec_AreValidRuns_0_eq, lt_e, cond_false])
  exact this.trans (bif_bo _)
theorem flat_le (m : List (List Rw)) : m.flatten.length ≤ szL List.length m := by
  induction m with
  | nil => simp
  | cons a m ih => simp only [List.flatten_cons, List.length_append, szL]; omega
theorem iFlatten (l : List (List Rw)) (h : runSz l) : callI tE f_impl_FlattenRuns [.sl (l.map rsE)] = some [.sl (l.flatten.map Rw.e)] := by
  have hl := szL_len List.length l
  unfold runSz at h
  rw [c_impl_FlattenRuns]
  have := zip_loop (l := l) (L := fun (s : List Rw) i => L_impl_FlattenRuns_0 (l.map rsE) (lenI (l.map rsE)) i (s.map Rw.e)) (F := fun _ _ => some [.sl (l.flatten.map Rw.e)]) (I := fun s u _ => s = u.flatten) (by omega) (fun u a v s e hI => by
    have h1 := flat_le (u ++ [a])
    have h2 : szL List.length (u ++ [a]) ≤ szL List.length l := by have := szL_split List.length (u ++ [a]) v; rw [e, show u ++ a :: v = (u ++ [a]) ++ v by simp, this]; omega
    refine .inl ⟨(u ++ [a]).flatten, ?_, rfl, rfl⟩
    show L_impl_FlattenRuns_0 _ _ _ _ = L_impl_FlattenRuns_0 _ _ _ _
    subst e
    rw [L_impl_FlattenRuns_0_eq, hI]
    simp only [lt_m, in_m, tn_c, at_m, cond_true, rsE, gn_c, gb_c, gs_c, gl_c, tk_s, tk_0, List.drop_succ_cons, List.drop_zero, List.headD_cons, List.getD_cons_zero, List.getD_cons_succ, bind_s, len_map, app_map2]
    have h3 : (u ++ [a]).flatten.length = u.flatten.length + a.length := by rw [List.flatten_append, List.length_append]; simp
    rw [show fitM (u.flatten.length + a.length) 24 = true from fitT (by omega)]
    simp) (fun s hs => by
    show L_impl_FlattenRuns_0 _ _ _ _ = _
    rw [L_impl_FlattenRuns_0_eq, lt_e, cond_false, hs]) [] rfl
  exact this
theorem sFlatten (l : List (List Rw)) (h : runSz l) : callI tE f_spec_FlattenRuns [.sl (l.map rsE)] = some [.sl (l.flatten.map Rw.e)] := by
  have hl := szL_len List.length l
  unfold runSz at h
  rw [c_spec_FlattenRuns]
  have := zip_loop (l := l) (L := fun (s : List Rw) i => L_spec_FlattenRuns_0 (l.map rsE) i (s.map Rw.e)) (F := fun _ _ => some [.sl (l.flatten.map Rw.e)]) (I := fun s u _ => s = u.flatten) (by omega) (fun u a v s e hI => by
    have h1 := flat_le (u ++ [a])
    have h2 : szL List.length (u ++ [a]) ≤ szL List.length l := by have := szL_split List.length (u ++ [a]) v; rw [e, show u ++ a :: v = (u ++ [a]) ++ v by simp, this]; omega
    refine .inl ⟨(u ++ [a]).flatten, ?_, rfl, rfl⟩
    show L_spec_FlattenRuns_0 _ _ _ = L_spec_FlattenRuns_0 _ _ _
    subst e
    rw [L_spec_FlattenRuns_0_eq, hI]
    simp only [lt_m, in_m, tn_c, at_m, cond_true, rsE, gn_c, gb_c, gs_c, gl_c, tk_s, tk_0, List.drop_succ_cons, List.drop_zero, List.headD_cons, List.getD_cons_zero, List.getD_cons_succ, bind_s, len_map, app_map2]
    have h3 : (u ++ [a]).flatten.length = u.flatten.length + a.length := by rw [List.flatten_append, List.length_append]; simp
    rw [show fitM (u.flatten.length + a.length) 24 = true from fitT (by omega)]
    simp) (fun s hs => by
    show L_spec_FlattenRuns_0 _ _ _ = _
    rw [L_spec_FlattenRuns_0_eq, lt_e, cond_false, hs]) [] rfl
  exact this
def mrgF : Nat → List Rw → List Rw → List Rw
  | 0, _, _ => []
  | _ + 1, [], b => b
  | _ + 1, a, [] => a
  | n + 1, x :: a, y :: b => if Rw.le x y then x :: mrgF n a (y :: b) else y :: mrgF n (x :: a) b
def mrg (a b : List Rw) : List Rw := mrgF (a.length + b.length) a b
theorem mrgF_enough : ∀ (n m : Nat) (a b : List Rw), a.length + b.length ≤ n → a.length + b.length ≤ m → mrgF n a b = mrgF m a b
  | 0, 0, _, _, _, _ => rfl
  | 0, m + 1, a, b, h, _ => by
    have h1 : a = [] := List.length_eq_zero_iff.mp (by omega)
    have h2 : b = [] := List.length_eq_zero_iff.mp (by omega)
    subst h1; subst h2; rfl
  | n + 1, 0, a, b, _, h => by
    have h1 : a = [] := List.length_eq_zero_iff.mp (by omega)
    have h2 : b = [] := List.length_eq_zero_iff.mp (by omega)
    subst h1; subst h2; rfl
  | n + 1, m + 1, [], b, _, _ => rfl
  | n + 1, m + 1, x :: a, [], _, _ => rfl
  | n + 1, m + 1, x :: a, y :: b, h, h2 => by
    simp only [List.length_cons] at h h2
    simp only [mrgF]
    rw [mrgF_enough n m a (y :: b) (by simp; omega) (by simp; omega), mrgF_enough n m (x :: a) b (by simp; omega) (by simp; omega)]
theorem mrg_nil (b : List Rw) : mrg [] b = b := by
  cases b <;> rfl
theorem mrg_nil' (a : List Rw) : mrg a [] = a := by
  cases a <;> rfl
theorem mrg_cc (x y : Rw) (a b : List Rw) : mrg (x :: a) (y :: b) = if Rw.le x y then x :: mrg a (y :: b) else y :: mrg (x :: a) b := by
  unfold mrg
  rw [show (x :: a).length + (y :: b).length = (a.length + b.length + 1) + 1 by simp; omega]
  simp only [mrgF]
  rw [mrgF_enough _ (a.length + (y :: b).length) a (y :: b) (by simp; omega) (by simp), mrgF_enough _ ((x :: a).length + b.length) (x :: a) b (by simp; omega) (by simp)]
theorem mrg_len : ∀ (n : Nat) (a b : List Rw), a.length + b.length = n → (mrg a b).length = n
  | _, [], b, h => by rw [mrg_nil]; simpa using h
  | _, x :: a, [], h => by rw [mrg_nil']; simpa using h
  | 0, x :: a, y :: b, h => by simp at h
  | n + 1, x :: a, y :: b, h => by
    simp only [List.length_cons] at h
    rw [mrg_cc]
    split
    · rw [List.length_cons, mrg_len n a (y :: b) (by simp; omega)]
    · rw [List.length_cons, mrg_len n (x :: a) b (by simp; omega)]
theorem mrg_length (a b : List Rw) : (mrg a b).length = a.length + b.length := mrg_len _ a b rfl
theorem ne_nil0 (r : Rw) (p : List Rw) : ltI 0 (lenI ((r :: p).map Rw.e)) = true := by rw [lenI_map]; exact ltT (by (first | omega | (simp only [List.length_append, List.length_cons, List.length_nil, List.length_map, List.length_take, List.length_drop, List.length_replicate, szI_S] at * <;> omega)))
theorem iMrg_loop : ∀ (n : Nat) (a b acc : List Rw), a.length + b.length = n → acc.length + n ≤ 2147483648 → L_impl_MergeSorted_0 (a.map Rw.e) (b.map Rw.e) (acc.map Rw.e) = some [.sl ((acc ++ mrg a b).map Rw.e)]
  | 0, a, b, acc, h, _ => by
    have h1 : a = [] := List.length_eq_zero_iff.mp (by omega)
    have h2 : b = [] := List.length_eq_zero_iff.mp (by omega)
    subst h1; subst h2
    rw [L_impl_MergeSorted_0_eq]
    rw [mrg_nil, List.append_nil]; rfl
  | n + 1, [], y :: b, acc, h, hl => by
    have ih := iMrg_loop n [] b (acc ++ [y]) (by simp at h ⊢; omega) (by simp; omega)
    have f1 : fitM (Nat.succ (len (acc.map Rw.e))) 24 = true := by rw [len_map]; exact fitT (by omega)
    have a1 : ([[Dat.int y.k, .int y.v, .int y.w]] : Rows) = [y.e] := rfl
    have z1 : lenI (([] : List Rw).map Rw.e) = 0 := rfl
    have le01 : leI 0 1 = true := rfl
    rw [L_impl_MergeSorted_0_eq, z1, ltF (show (0 : Int) ≤ 0 by omega)]
    simp only [cond_false, cond_true, ne_nil0, ne_0, in_0, head_at, gk, gv, gw, f1, le_1, le01, Bool.and_self, cut_tail, a1, app_map]
    rw [ih, mrg_nil, mrg_nil]
    simp
  | n + 1, x :: a, [], acc, h, hl => by
    have ih := iMrg_loop n a [] (acc ++ [x]) (by simp at h ⊢; omega) (by simp; omega)
    have f1 : fitM (Nat.succ (len (acc.map Rw.e))) 24 = true := by rw [len_map]; exact fitT (by omega)
    have a1 : ([[Dat.int x.k, .int x.v, .int x.w]] : Rows) = [x.e] := rfl
    have z1 : lenI (([] : List Rw).map Rw.e) = 0 := rfl
    have le01 : leI 0 1 = true := rfl
    rw [L_impl_MergeSorted_0_eq, z1, eqT (show (0 : Int) = 0 by omega)]
    simp only [cond_false, cond_true, ne_nil0, ne_0, in_0, head_at, gk, gv, gw, f1, le_1, le01, Bool.and_self, cut_tail, a1, app_map]
    rw [ih, mrg_nil', mrg_nil']
    simp
  | n + 1, x :: a, y :: b, acc, h, hl => by
    have f1 : fitM (Nat.succ (len (acc.map Rw.e))) 24 = true := by rw [len_map]; exact fitT (by omega)
    have a1 : ([[Dat.int x.k, .int x.v, .int x.w]] : Rows) = [x.e] := rfl
    have a2 : ([[Dat.int y.k, .int y.v, .int y.w]] : Rows) = [y.e] := rfl
    have le01 : leI 0 1 = true := rfl
    rw [L_impl_MergeSorted_0_eq]
    simp only [cond_false, cond_true, ne_nil0, ne_0, in_0, head_at, gk, gv, gw, f1, le_1, le01, Bool.and_self, cut_tail, a1, a2, app_map, iCompare, gn_c, gb_c, gs_c, gl_c, tk_s, tk_0, List.drop_succ_cons, List.drop_zero, List.headD_cons, List.getD_cons_zero, List.getD_cons_succ, bind_s, le_cmp0]
    rw [mrg_cc]
    by_cases hxy : Rw.le x y
    · rw [decide_eq_true hxy, if_pos hxy, cond_true, iMrg_loop n a (y :: b) (acc ++ [x]) (by simp at h ⊢; omega) (by simp; omega)]
      simp
    · rw [decide_eq_false hxy, if_neg hxy, cond_false, iMrg_loop n (x :: a) b (acc ++ [y]) (by simp at h ⊢; omega) (by simp; omega)]
      simp
theorem iMrg (a b : List Rw) (h : a.length + b.length ≤ 2147483648) : callI tE f_impl_MergeSorted [.sl (a.map Rw.e), .sl (b.map Rw.e)] = some [.sl ((mrg a b).map Rw.e)] := by
  rw [c_impl_MergeSorted]
  have := iMrg_loop _ a b [] rfl (by simpa using h)
  simpa using this
theorem sMrg_loop (A B : List Rw) (hA : A.length + B.length ≤ 2147483648) : ∀ (n : Nat) (a b ua ub acc : List Rw), A = ua ++ a → B = ub ++ b → a.length + b.length = n → acc.length + n ≤ 2147483648 →
    L_spec_MergeSorted_0 (A.map Rw.e) (B.map Rw.e) (ua.length : Nat) (ub.length : Nat) (acc.map Rw.e) = some [.sl ((acc ++ mrg a b).map Rw.e)]
  | 0, a, b, ua, ub, acc, ha, hb, h, _ => by
    have h1 : a = [] := List.length_eq_zero_iff.mp (by omega)
    have h2 : b = [] := List.length_eq_zero_iff.mp (by omega)
    subst h1; subst h2
    rw [List.append_nil] at ha hb
    rw [L_spec_MergeSorted_0_eq, lenI_map, lenI_map, ltF (by rw [ha]; omega), ltF (by rw [hb]; omega), mrg_nil, List.append_nil]; rfl
  | n + 1, [], y :: b, ua, ub, acc, ha, hb, h, hl => by
    rw [List.append_nil] at ha
    have hBl : B.length = ub.length + (b.length + 1) := by rw [hb]; simp
    have ih := sMrg_loop A B hA n [] b ua (ub ++ [y]) (acc ++ [y]) (by simpa using ha) (by rw [hb]; simp) (by simp at h ⊢; omega) (by simp; omega)
    rw [List.length_append, List.length_singleton] at ih
    have f1 : fitM (Nat.succ (len (acc.map Rw.e))) 24 = true := by rw [len_map]; exact fitT (by omega)
    have a1 : ([[Dat.int y.k, .int y.v, .int y.w]] : Rows) = [y.e] := rfl
    have b1 : at' (B.map Rw.e) ub.length = y.e := at_i hb rfl
    have b2 : inR (ub.length : Int) (lenI (B.map Rw.e)) = true := in_i (by omega)
    rw [L_spec_MergeSorted_0_eq, b2]
    simp only [lenI_map, tn_c, b1, gk, gv, gw, a1, app_map, f1]
    rw [ltF (show (A.length : Int) ≤ (ua.length : Int) by rw [ha]; omega), ltT (show (ub.length : Int) < (B.length : Int) by omega), eqF (show (ub.length : Int) ≠ (B.length : Int) by omega), w64_s (show ub.length < 9223372036854775807 by omega)]
    simp only [cond_true, cond_false]
    rw [ih, mrg_nil, mrg_nil]
    simp
  | n + 1, x :: a, [], ua, ub, acc, ha, hb, h, hl => by
    rw [List.append_nil] at hb
    have hAl : A.length = ua.length + (a.length + 1) := by rw [ha]; simp
    have ih := sMrg_loop A B hA n a [] (ua ++ [x]) ub (acc ++ [x]) (by rw [ha]; simp) (by simpa using hb) (by simp at h ⊢; omega) (by simp; omega)
    rw [List.length_append, List.length_singleton] at ih
    have f1 : fitM (Nat.succ (len (acc.map Rw.e))) 24 = true := by rw [len_map]; exact fitT (by omega)
    have a1 : ([[Dat.int x.k, .int x.v, .int x.w]] : Rows) = [x.e] := rfl
    have b1 : at' (A.map Rw.e) ua.length = x.e := at_i ha rfl
    have b2 : inR (ua.length : Int) (lenI (A.map Rw.e)) = true := in_i (by omega)
    rw [L_spec_MergeSorted_0_eq, b2]
    simp only [lenI_map, tn_c, b1, gk, gv, gw, a1, app_map, f1]
    rw [ltT (show (ua.length : Int) < (A.length : Int) by omega), eqT (show (ub.length : Int) = (B.length : Int) by rw [hb]), w64_s (show ua.length < 9223372036854775807 by omega)]
    simp only [cond_true, cond_false]
    rw [ih, mrg_nil', mrg_nil']
    simp
  | n + 1, x :: a, y :: b, ua, ub, acc, ha, hb, h, hl => by
    have hAl : A.length = ua.length + (a.length + 1) := by rw [ha]; simp
    have hBl : B.length = ub.length + (b.length + 1) := by rw [hb]; simp
    have f1 : fitM (Nat.succ (len (acc.map Rw.e))) 24 = true := by rw [len_map]; exact fitT (by omega)
    have a1 : ([[Dat.int x.k, .int x.v, .int x.w]] : Rows) = [x.e] := rfl
    have a2 : ([[Dat.int y.k, .int y.v, .int y.w]] : Rows) = [y.e] := rfl
    have b1 : at' (A.map Rw.e) ua.length = x.e := at_i ha rfl
    have b2 : inR (ua.length : Int) (lenI (A.map Rw.e)) = true := in_i (by omega)
    have b3 : at' (B.map Rw.e) ub.length = y.e := at_i hb rfl
    have b4 : inR (ub.length : Int) (lenI (B.map Rw.e)) = true := in_i (by omega)
    rw [L_spec_MergeSorted_0_eq, b2, b4]
    simp only [lenI_map, tn_c, b1, b3, gk, gv, gw, a1, a2, app_map, f1, sCompare, gn_c, gb_c, gs_c, gl_c, tk_s, tk_0, List.drop_succ_cons, List.drop_zero, List.headD_cons, List.getD_cons_zero, List.getD_cons_succ, bind_s, le_cmp0]
    rw [ltT (show (ua.length : Int) < (A.length : Int) by omega), eqF (show (ub.length : Int) ≠ (B.length : Int) by omega), w64_s (show ua.length < 9223372036854775807 by omega), w64_s (show ub.length < 9223372036854775807 by omega)]
    simp only [cond_true, cond_false]
    rw [mrg_cc]
    by_cases hxy : Rw.le x y
    · have ih := sMrg_loop A B hA n a (y :: b) (ua ++ [x]) ub (acc ++ [x]) (by rw [ha]; simp) hb (by simp at h ⊢; omega) (by simp; omega)
      rw [List.length_append, List.length_singleton] at ih
      rw [decide_eq_true hxy, if_pos hxy, cond_true, ih]
      simp
    · have ih := sMrg_loop A B hA n (x :: a) b ua (ub ++ [y]) (acc ++ [y]) ha (by rw [hb]; simp) (by simp at h ⊢; omega) (by simp; omega)
      rw [List.length_append, List.length_singleton] at ih
      rw [decide_eq_false hxy, if_neg hxy, cond_false, ih]
      simp
theorem sMrg (a b : List Rw) (h : a.length + b.length ≤ 2147483648) : callI tE f_spec_MergeSorted [.sl (a.map Rw.e), .sl (b.map Rw.e)] = some [.sl ((mrg a b).map Rw.e)] := by
  rw [c_spec_MergeSorted]
  have := sMrg_loop a b h _ a b [] [] [] rfl rfl rfl (by simpa using h)
  simpa using this
def bagEq (a b : List Rw) : Bool := decide (isort a = isort b)
theorem bagEq_iff {a b : List Rw} : bagEq a b = true ↔ a.Perm b := by
  simp only [bagEq, decide_eq_true_eq]
  constructor
  · intro h
    exact (isort_perm a).symm.trans (h ▸ isort_perm b)
  · intro h
    exact srt_unique ((isort_perm a).trans (h.trans (isort_perm b).symm)) (isort_srt a) (isort_srt b)
theorem bagEq_len {a b : List Rw} (h : ¬ a.length = b.length) : bagEq a b = false := by
  rw [← Bool.not_eq_true, bagEq_iff]
  exact fun hh => h hh.length_eq
theorem iBags (a b : List Rw) (ha : a.length ≤ 1099511627770) (hb : b.length ≤ 1099511627770) : callI tE f_impl_EqualBags [.sl (a.map Rw.e), .sl (b.map Rw.e)] = some [.bool (bagEq a b)] := by
  rw [c_impl_EqualBags]
  by_cases h : a.length = b.length
  · rw [eq_len h, cond_true]
    simp only [iSort a ha, iSort b hb, gn_c, gb_c, gs_c, gl_c, tk_s, tk_0, List.drop_succ_cons, List.drop_zero, List.headD_cons, List.getD_cons_zero, List.getD_cons_succ, bind_s]
    rw [iEqual _ _ (by rw [isort_len]; omega)]
    rfl
  · rw [ne_len h, cond_false, bagEq_len h]
theorem sBags (a b : List Rw) (ha : a.length ≤ 1099511627770) (hb : b.length ≤ 1099511627770) : callI tE f_spec_EqualBags [.sl (a.map Rw.e), .sl (b.map Rw.e)] = some [.bool (bagEq a b)] := by
  rw [c_spec_EqualBags]
  simp only [sSort a ha, sSort b hb, gn_c, gb_c, gs_c, gl_c, tk_s, tk_0, List.drop_succ_cons, List.drop_zero, List.headD_cons, List.getD_cons_zero, List.getD_cons_succ, bind_s]
  by_cases h : a.length = b.length
  · rw [eq_len (by rw [isort_len, isort_len, h]), Bool.not_true, cond_false]
    have := eq_loop (L := fun x y i => L_spec_EqualBags_0 i x y) (e := Rw.e) (P := fun _ => True) (fun p q p' q' a b _ hpl hlt => by
      rw [L_spec_EqualBags_0_eq]
      simp only [lt_mid, in_mid, tn_c, at_mid, cond_true, cond_false, gn_c, gb_c, gs_c, gl_c, tk_s, tk_0, List.drop_succ_cons, List.drop_zero, List.headD_cons, List.getD_cons_zero, List.getD_cons_succ, bind_s, in_mid' hpl, at_mid' hpl, Rw.e, eq_Rw3, bifn]) (fun p p' hpl => by
      rw [L_spec_EqualBags_0_eq, lt_end, cond_false]) (isort a) (isort b) [] [] rfl (by rw [isort_len, isort_len, h]) (fun a ha => trivial) (by simp [isort_len]; omega)
    simpa [bagEq] using this
  · rw [ne_len (by rw [isort_len, isort_len]; exact h), Bool.not_false, cond_true, bagEq_len h]
def rc (l : List (List Rw)) (n : Nat) (p : Int) : Nat := match l[n]? with
  | none => 0
  | some r => if p < 0 then 0 else match r[p.toNat]? with
    | none => 0
    | some x => x.cost
theorem rc_le (l : List (List Rw)) (n : Nat) (p : Int) : rc l n p ≤ 4 := by
  unfold rc
  split
  · omega
  · split
    · omega
    · split
      · omega
      · exact cost_le _
def memS (s : So) : Nat := if s.ph = 1 then tcost s.heap + tcost s.dfd else if s.ph = 2 then (if s.lp < 0 ∨ s.rp < 0 then 0 else rc s.runs 0 s.lp + rc s.runs 1 s.rp) else if s.ph = 3 then rc s.runs 0 s.lp else 0
def So.B (s : So) : Prop := s.sz ≤ 1073741824
theorem So.B.p {s : So} (h : s.B) : s.inp.length ≤ 1073741824 ∧ s.heap.length ≤ 1073741824 ∧ s.dfd.length ≤ 1073741824 ∧ s.out.length ≤ 1073741824 ∧ runSz s.runs := by
  simp only [So.B, So.sz] at h
  unfold runSz
  omega
theorem iRunCost (s : So) (n : Nat) (p : Int) (h : s.B) : callI tE f_impl_runCost [.sl (s.inp.map Rw.e), .int s.pos, .sl (s.heap.map Rw.e), .sl (s.dfd.map Rw.e), .sl (s.out.map Rw.e), .sl (s.runs.map rsE), .int s.lp, .int s.rp, .int s.ph, .int s.wr, .int (n : Int), .int p] = some [.int (rc s.runs n p : Nat)] := by
  have hl := szL_len List.length s.runs
  have hb := h.p.2.2.2.2
  unfold runSz at hb
  rw [c_impl_runCost, lenI_map]
  unfold rc
  by_cases hn : n < s.runs.length
  · obtain ⟨u, a, v, hr, rfl⟩ := split_at hn
    have ha : a.length ≤ 1073741824 := Nat.le_trans (szL_mem' (by rw [hr]; simp)) hb
    have e1 : s.runs[u.length]? = some a := by rw [hr]; simp
    have e2 : at' (s.runs.map rsE) u.length = rsE a := at_i hr rfl
    rw [leF (by omega), cond_false, e1]
    simp only [tn_c, e2, rsE, gn_c, gb_c, gs_c, gl_c, tk_s, tk_0, List.drop_succ_cons, List.drop_zero, List.headD_cons, List.getD_cons_zero, List.getD_cons_succ, bind_s, lenI_map]
    by_cases hp : p < 0
    · rw [ltT hp, cond_true, if_pos hp]; rfl
    · rw [ltF (by omega), cond_false, if_neg hp, inRT (by omega) (by omega), cond_true]
      by_cases hpa : p.toNat < a.length
      · obtain ⟨u2, x, v2, hx, hu2⟩ := split_at hpa
        have e3 : a[p.toNat]? = some x := by rw [hx, ← hu2]; simp
        have e4 : at' (a.map Rw.e) (tn p) = x.e := at_i hx hu2
        rw [leF (by omega), cond_false, e3, inRT (by omega) (by omega), cond_true, cond_true]
        simp only [e4, gk, gv, gw, iRowCost, gn_c, gb_c, gs_c, gl_c, tk_s, tk_0, List.drop_succ_cons, List.drop_zero, List.headD_cons, List.getD_cons_zero, List.getD_cons_succ, bind_s]
      · rw [leT (by omega), cond_true, List.getElem?_eq_none (by omega)]; rfl
  · rw [leT (by omega), cond_true, List.getElem?_eq_none (by omega)]; rfl
theorem sRowAt (l : List (List Rw)) (n : Nat) (p : Int) (h : runSz l) (hp : 0 ≤ p) : ∃ q : List Rw, callI tE f_spec_l13Row [.sl (l.map rsE), .int (n : Int), .int p] = some [.sl (q.map Rw.e)] ∧ tcost q = rc l n p ∧ q.length ≤ 1 ∧ q = (match l[n]? with
    | none => []
    | some r => (match r[p.toNat]? with
      | none => []
      | some x => [x])) := by
  have hl := szL_len List.length l
  unfold runSz at h
  rw [c_spec_l13Row, lenI_map]
  unfold rc
  by_cases hn : n < l.length
  · obtain ⟨u, a, v, hr, rfl⟩ := split_at hn
    have ha : a.length ≤ 1073741824 := Nat.le_trans (szL_mem' (by rw [hr]; simp)) h
    have e1 : l[u.length]? = some a := by rw [hr]; simp
    have e2 : at' (l.map rsE) u.length = rsE a := at_i hr rfl
    rw [ltT (by omega), cond_true, inRT (by omega) (by omega), e1]
    simp only [tn_c, e2, rsE, gn_c, gb_c, gs_c, gl_c, tk_s, tk_0, List.drop_succ_cons, List.drop_zero, List.headD_cons, List.getD_cons_zero, List.getD_cons_succ, bind_s, lenI_map, cond_true]
    rw [if_neg (by omega)]
    by_cases hpa : p.toNat < a.length
    · obtain ⟨u2, x, v2, hx, hu2⟩ := split_at hpa
      have e3 : a[p.toNat]? = some x := by rw [hx, ← hu2]; simp
      have e4 : at' (a.map Rw.e) (tn p) = x.e := at_i hx hu2
      rw [ltT (by omega), cond_true, e3, inRT (by omega) (by omega), cond_true]
      exact ⟨[x], by simp only [e4, gk, gv, gw]; rfl, by simp [tcost], by simp, rfl⟩
    · rw [ltF (by omega), cond_false, List.getElem?_eq_none (by omega)]
      exact ⟨[], rfl, rfl, by simp, rfl⟩
  · rw [ltF (by omega), cond_false, List.getElem?_eq_none (by omega)]
    exact ⟨[], rfl, rfl, by simp, rfl⟩
theorem iMem (s : So) (h : s.B) : callI tE f_impl_SorterMemory [.sl (s.inp.map Rw.e), .int s.pos, .sl (s.heap.map Rw.e), .sl (s.dfd.map Rw.e), .sl (s.out.map Rw.e), .sl (s.runs.map rsE), .int s.lp, .int s.rp, .int s.ph, .int s.wr] = some [.int (memS s : Nat)] := by
  obtain ⟨h1, h2, h3, h4, h5⟩ := h.p
  have r0 := iRunCost s 0 s.lp h
  have r1 := iRunCost s 1 s.rp h
  have e0 : ((0 : Nat) : Int) = 0 := rfl
  have e1 : ((1 : Nat) : Int) = 1 := rfl
  rw [e0] at r0
  rw [e1] at r1
  have t1 := tcost_le s.heap
  have t2 := tcost_le s.dfd
  have q1 := rc_le s.runs 0 s.lp
  have q2 := rc_le s.runs 1 s.rp
  rw [c_impl_SorterMemory]
  simp only [iTotalCost s.heap (by omega), iTotalCost s.dfd (by omega), r0, r1, gn_c, gb_c, gs_c, gl_c, tk_s, tk_0, List.drop_succ_cons, List.drop_zero, List.headD_cons, List.getD_cons_zero, List.getD_cons_succ, bind_s]
  unfold memS
  by_cases p1 : s.ph = 1
  · rw [eqT p1, cond_true, if_pos p1, w64_id ⟨by omega, by omega⟩]
    simp
  · rw [eqF p1, cond_false, if_neg p1]
    by_cases p2 : s.ph = 2
    · rw [eqT p2, cond_true, if_pos p2]
      by_cases p3 : s.lp < 0
      · rw [ltT p3, if_pos (.inl p3)]; rfl
      · rw [ltF (by omega), cond_false]
        by_cases p4 : s.rp < 0
        · rw [ltT p4, if_pos (.inr p4)]; rfl
        · rw [ltF (by omega), cond_false, if_neg (by omega), w64_id ⟨by omega, by omega⟩]
          simp
    · rw [eqF p2, cond_false, if_neg p2]
      by_cases p3 : s.ph = 3
      · rw [eqT p3, cond_true, if_pos p3]
      · rw [eqF p3, cond_false, if_neg p3]; rfl
theorem sMem (s : So) (h : s.B) : callI tE f_spec_SorterMemory [.sl (s.inp.map Rw.e), .int s.pos, .sl (s.heap.map Rw.e), .sl (s.dfd.map Rw.e), .sl (s.out.map Rw.e), .sl (s.runs.map rsE), .int s.lp, .int s.rp, .int s.ph, .int s.wr] = some [.int (memS s : Nat)] := by
  obtain ⟨h1, h2, h3, h4, h5⟩ := h.p
  have t1 := tcost_le s.heap
  have t2 := tcost_le s.dfd
  have q1 := rc_le s.runs 0 s.lp
  have q2 := rc_le s.runs 1 s.rp
  rw [c_spec_SorterMemory]
  simp only [sTotalCost s.heap (by omega), sTotalCost s.dfd (by omega), gn_c, gb_c, gs_c, gl_c, tk_s, tk_0, List.drop_succ_cons, List.drop_zero, List.headD_cons, List.getD_cons_zero, List.getD_cons_succ, bind_s]
  unfold memS
  by_cases p1 : s.ph = 1
  · rw [eqT p1, cond_true, if_pos p1, w64_id ⟨by omega, by omega⟩]
    simp
  · rw [eqF p1, cond_false, if_neg p1]
    by_cases p2 : s.ph = 2
    · rw [eqT p2, cond_true, if_pos p2]
      by_cases p3 : s.lp < 0
      · rw [ltT p3, if_pos (.inl p3)]; rfl
      · rw [ltF (by omega), cond_false]
        by_cases p4 : s.rp < 0
        · rw [ltT p4, if_pos (.inr p4)]; rfl
        · obtain ⟨a, a1, a2, a3, _⟩ := sRowAt s.runs 0 s.lp h5 (by omega)
          obtain ⟨b, b1, b2, b3, _⟩ := sRowAt s.runs 1 s.rp h5 (by omega)
          rw [show ((0 : Nat) : Int) = 0 from rfl] at a1
          rw [show ((1 : Nat) : Int) = 1 from rfl] at b1
          rw [ltF (by omega), cond_false, if_neg (by omega)]
          simp only [a1, b1, gn_c, gb_c, gs_c, gl_c, tk_s, tk_0, List.drop_succ_cons, List.drop_zero, List.headD_cons, List.getD_cons_zero, List.getD_cons_succ, bind_s, sTotalCost a (by omega), sTotalCost b (by omega), a2, b2]
          rw [w64_id ⟨by omega, by omega⟩]
          simp
    · rw [eqF p2, cond_false, if_neg p2]
      by_cases p3 : s.ph = 3
      · rw [eqT p3, cond_true, if_pos p3]
        by_cases p4 : s.lp < 0
        · rw [ltT p4, cond_true]
          unfold rc
          cases s.runs[0]? <;> simp [p4]
        · obtain ⟨a, a1, a2, a3, _⟩ := sRowAt s.runs 0 s.lp h5 (by omega)
          rw [show ((0 : Nat) : Int) = 0 from rfl] at a1
          rw [ltF (by omega), cond_false]
          simp only [a1, gn_c, gb_c, gs_c, gl_c, tk_s, tk_0, List.drop_succ_cons, List.drop_zero, List.headD_cons, List.getD_cons_zero, List.getD_cons_succ, bind_s, sTotalCost a (by omega), a2]
      · rw [eqF p3, cond_false, if_neg p3]; rfl
end Go.Proofs.YtceoogjanfbdcaaGreat.Vai
namespace Go.Proofs.YtceoogjanfbdcaaGreat.Vai
open Go
set_option linter.unusedSimpArgs false
set_option linter.unusedVariables false
set_option linter.unnecessarySimpa false
set_option maxRecDepth 10000
def mergeOk (s : So) : Bool := match s.runs with
  | a :: b :: _ => win s.lp 0 a.length && (win s.rp 0 b.length && (decide (s.out = mrg (a.take s.lp.toNat) (b.take s.rp.toNat)) && decide (s.out = (mrg a b).take (s.lp.toNat + s.rp.toNat))))
  | _ => false
def soLate (s : So) : Bool :=
  if s.ph = 2 then mergeOk s
  else if s.ph = 3 then decide (s.runs.length = 1) && (decide (0 ≤ s.lp ∧ s.lp < s.inp.length) && (decide (s.rp = 0) && decide (s.out = [])))
  else if s.ph = 4 then decide (s.runs.length ≤ 1) && (decide (s.lp = s.inp.length) && (decide (s.rp = 0) && decide (s.out = [])))
  else false
def soTail (s : So) : Bool :=
  if s.ph = 1 then decide (s.lp = 0) && (decide (s.rp = 0) && (decide (s.out ≠ [] ∨ s.dfd = []) && (decide (memS s ≤ 60) && bagEq (s.runs.flatten ++ (s.out ++ (s.heap ++ s.dfd))) (s.inp.take s.pos.toNat))))
  else decide (s.pos = s.inp.length) && (decide (s.heap = []) && (decide (s.dfd = []) && (bagEq s.runs.flatten s.inp && soLate s)))
def soOk (s : So) : Bool := aok s.inp && (win s.pos 0 s.inp.length && (s.runs.all runOk && (decide (0 ≤ s.wr) && (isS s.out && ((s.heap.all fun r => !belowB r s.out) && soTail s)))))
def So.B2 (s : So) : Prop := s.sz ≤ 1073741800
theorem So.B2.b {s : So} (h : s.B2) : s.B := by simp only [So.B2, So.B] at *; omega
theorem take_p (l : List Rw) (p : Int) : List.take (tn (p - 0)) (List.drop (tn 0) (l.map Rw.e)) = (l.take p.toNat).map Rw.e := by
  show List.take (p - 0).toNat (List.drop 0 (l.map Rw.e)) = _
  rw [Int.sub_zero, List.drop_zero, List.map_take]
theorem nil_len {α : Type} (l : List α) : decide (l = []) = decide (l.length = 0) := by
  cases l <;> simp
theorem dec_le60 (n : Nat) : leI (n : Int) 60 = decide (n ≤ 60) := by
  unfold leI; congr 1; apply propext; omega
theorem iTail (s : So) (h : s.B2) (hp : win s.pos 0 s.inp.length = true) (x0 : Int) (x1 : Rows) (n : Int) :
    L_impl_IsValidSorter_0 x0 x1 n n (s.inp.map Rw.e) s.pos (s.heap.map Rw.e) (s.dfd.map Rw.e) (s.out.map Rw.e) (s.runs.map rsE) s.lp s.rp s.ph s.wr = some [.bool (soTail s)] := by
  obtain ⟨h1, h2, h3, h4, h5⟩ := h.b.p
  have hpp := win_iff.mp hp
  have hfl := flat_le s.runs
  have hsz : s.inp.length + (s.heap.length + (s.dfd.length + (s.out.length + s.runs.flatten.length))) ≤ 1073741800 := by
    simp only [So.B2, So.sz] at h; omega
  have ht : callI tE f_impl_together [.sl [[.sl (s.runs.flatten.map Rw.e)], [.sl (s.out.map Rw.e)], [.sl (s.heap.map Rw.e)], [.sl (s.dfd.map Rw.e)]]] = some [.sl ((s.runs.flatten ++ (s.out ++ (s.heap ++ s.dfd))).map Rw.e)] := by
    have := iTogether [s.runs.flatten, s.out, s.heap, s.dfd] (by simp only [szL]; omega)
    simpa [rsE] using this
  have hb1 := iBags (s.runs.flatten ++ (s.out ++ (s.heap ++ s.dfd))) (s.inp.take s.pos.toNat) (by (first | omega | (simp only [List.length_append, List.length_cons, List.length_nil, List.length_map, List.length_take, List.length_drop, List.length_replicate, szI_S] at * <;> omega))) (by (first | omega | (simp only [List.length_append, List.length_cons, List.length_nil, List.length_map, List.length_take, List.length_drop, List.length_replicate, szI_S] at * <;> omega)))
  have hb2 := iBags s.runs.flatten s.inp (by omega) (by omega)
  rw [L_impl_IsValidSorter_0_eq, ltF (Int.le_refl n), cond_false]
  simp only [iFlatten s.runs h5, iMem s h.b, gn_c, gb_c, gs_c, gl_c, tk_s, tk_0, List.drop_succ_cons, List.drop_zero, List.headD_cons, List.getD_cons_zero, List.getD_cons_succ, bind_s, ht, hb2, take_p, hb1]
  unfold soTail
  by_cases p1 : s.ph = 1
  · rw [eqT p1, cond_true, if_pos p1]
    by_cases q1 : s.lp = 0
    · rw [eqT q1, cond_true, decide_eq_true q1]
      by_cases q2 : s.rp = 0
      · rw [eqT q2, cond_true, decide_eq_true q2, leT (show 0 ≤ s.pos by omega), show leI s.pos (lenI (s.inp.map Rw.e)) = true by rw [lenI_map]; exact leT (by omega)]
        simp only [Bool.and_self, cond_true, dec_le60, lenI_map]
        by_cases q3 : 0 < s.out.length
        · rw [ltT (by omega), cond_true, decide_eq_true (show s.out ≠ [] ∨ s.dfd = [] from .inl (fun e => by rw [e] at q3; simp at q3))]
          cases decide (memS s ≤ 60) <;> rfl
        · rw [ltF (by omega), cond_false]
          have qo : s.out = [] := List.length_eq_zero_iff.mp (by omega)
          by_cases q4 : s.dfd.length = 0
          · rw [eqT (by omega), cond_true, decide_eq_true (show s.out ≠ [] ∨ s.dfd = [] from .inr (List.length_eq_zero_iff.mp q4))]
            cases decide (memS s ≤ 60) <;> rfl
          · rw [eqF (by omega), cond_false, decide_eq_false (show ¬ (s.out ≠ [] ∨ s.dfd = []) from fun e => e.elim (fun e => e qo) (fun e => q4 (by rw [e]; rfl)))]
            rfl
      · rw [eqF q2, decide_eq_false q2]; rfl
    · rw [eqF q1, decide_eq_false q1]; rfl
  · rw [eqF p1, cond_false, if_neg p1]
    simp only [lenI_map]
    by_cases q1 : s.pos = s.inp.length
    · rw [eqT q1, Bool.not_true, cond_false, decide_eq_true q1]
      by_cases q2 : s.heap.length = 0
      · rw [ltF (by omega), cond_false, nil_len s.heap, decide_eq_true q2]
        by_cases q3 : s.dfd.length = 0
        · rw [ltF (by omega), cond_false, nil_len s.dfd, decide_eq_true q3]
          simp only [Bool.true_and]
          cases bagEq s.runs.flatten s.inp
          · rfl
          · simp only [Bool.not_true, cond_false, Bool.true_and]
            unfold soLate
            by_cases p2 : s.ph = 2
            · rw [eqT p2, cond_true, if_pos p2]
              unfold mergeOk
              cases hr : s.runs with
              | nil => rfl
              | cons a r =>
                cases r with
                | nil => rfl
                | cons b r =>
                  have ha : a.length ≤ 1073741824 := Nat.le_trans (szL_mem' (by rw [hr]; simp)) h5
                  have hb : b.length ≤ 1073741824 := Nat.le_trans (szL_mem' (by rw [hr]; simp)) h5
                  have g0 : at' ((a :: b :: r).map rsE) (tn 0) = rsE a := rfl
                  have g1 : at' ((a :: b :: r).map rsE) (tn 1) = rsE b := rfl
                  have l0 : ltI ((a :: b :: r).length : Int) 2 = false := ltF (by simp; omega)
                  have l1 : inR 0 ((a :: b :: r).length : Int) = true := inRT (by omega) (by simp; omega)
                  have l2 : inR 1 ((a :: b :: r).length : Int) = true := inRT (by omega) (by simp; omega)
                  simp only [l0, l1, l2, cond_true, cond_false, g0, g1, rsE, gn_c, gb_c, gs_c, gl_c, tk_s, tk_0, List.drop_succ_cons, List.drop_zero, List.headD_cons, List.getD_cons_zero, List.getD_cons_succ, bind_s, lenI_map, within_ok]
                  by_cases w1 : win s.lp 0 a.length = true
                  · by_cases w2 : win s.rp 0 b.length = true
                    · have w3 := win_iff.mp w1
                      have w4 := win_iff.mp w2
                      have m1 := iMrg (a.take s.lp.toNat) (b.take s.rp.toNat) (by simp; omega)
                      have m2 := iMrg a b (by omega)
                      have ml := mrg_length a b
                      have e1 := iEqual s.out (mrg (a.take s.lp.toNat) (b.take s.rp.toNat)) (by omega)
                      have e2 := iEqual s.out ((mrg a b).take (s.lp.toNat + s.rp.toNat)) (by omega)
                      have e3 : w64 (s.lp + s.rp) = s.lp + s.rp := w64_id ⟨by omega, by omega⟩
                      have e4 : (s.lp + s.rp).toNat = s.lp.toNat + s.rp.toNat := by omega
                      rw [w1, w2, leT w3.1, leT w3.2, leT w4.1, leT w4.2]
                      simp only [Bool.not_true, cond_false, Bool.and_self, cond_true, take_p, m1, m2, e1, gn_c, gb_c, gs_c, gl_c, tk_s, tk_0, List.drop_succ_cons, List.drop_zero, List.headD_cons, List.getD_cons_zero, List.getD_cons_succ, bind_s, e3, e4, lenI_map, e2]
                      rw [leT (by omega), leT (by rw [ml]; omega)]
                      simp only [Bool.and_self, cond_true, Bool.true_and]
                      cases decide (s.out = mrg (a.take s.lp.toNat) (b.take s.rp.toNat)) <;> rfl
                    · rw [w1, (Bool.not_eq_true _).mp w2]; rfl
                  · rw [(Bool.not_eq_true _).mp w1]; rfl
            · rw [eqF p2, cond_false, if_neg p2]
              by_cases p3 : s.ph = 3
              · rw [eqT p3, cond_true, if_pos p3]
                by_cases w1 : s.runs.length = 1
                · rw [eqT (by omega), cond_true, decide_eq_true w1]
                  simp only [within_ok, win_len (show s.inp.length ≤ 1073741824 by omega), gn_c, gb_c, gs_c, gl_c, tk_s, tk_0, List.drop_succ_cons, List.drop_zero, List.headD_cons, List.getD_cons_zero, List.getD_cons_succ, bind_s, Bool.true_and]
                  by_cases w2 : 0 ≤ s.lp ∧ s.lp < s.inp.length
                  · rw [decide_eq_true w2, cond_true]
                    by_cases w3 : s.rp = 0
                    · rw [eqT w3, cond_true, decide_eq_true w3, nil_len]
                      unfold eqI
                      simp
                    · rw [eqF w3, decide_eq_false w3]; rfl
                  · rw [decide_eq_false w2]; rfl
                · rw [eqF (by omega), decide_eq_false w1]; rfl
              · rw [eqF p3, cond_false, if_neg p3]
                by_cases p4 : s.ph = 4
                · rw [eqT p4, cond_true, if_pos p4]
                  by_cases w1 : s.runs.length ≤ 1
                  · rw [leT (by omega), cond_true, decide_eq_true w1]
                    by_cases w2 : s.lp = s.inp.length
                    · rw [eqT w2, cond_true, decide_eq_true w2]
                      by_cases w3 : s.rp = 0
                      · rw [eqT w3, cond_true, decide_eq_true w3, nil_len]
                        unfold eqI
                        simp
                      · rw [eqF w3, decide_eq_false w3]; rfl
                    · rw [eqF w2, decide_eq_false w2]; rfl
                  · rw [leF (by omega), decide_eq_false w1]; rfl
                · rw [eqF p4, if_neg p4]; rfl
        · rw [ltT (by omega), nil_len s.dfd, decide_eq_false q3]; simp
      · rw [ltT (by omega), nil_len s.heap, decide_eq_false q2]; rfl
    · rw [eqF q1, decide_eq_false q1]; rfl
theorem iValidSo (s : So) (h : s.B2) : callI tE f_impl_IsValidSorter [.sl (s.inp.map Rw.e), .int s.pos, .sl (s.heap.map Rw.e), .sl (s.dfd.map Rw.e), .sl (s.out.map Rw.e), .sl (s.runs.map rsE), .int s.lp, .int s.rp, .int s.ph, .int s.wr] = some [.bool (soOk s)] := by
  obtain ⟨h1, h2, h3, h4, h5⟩ := h.b.p
  rw [c_impl_IsValidSorter]
  simp only [iAreValid, within_ok, lenI_map, iValidRuns s.runs h5, iIsSorted s.out (by omega), gn_c, gb_c, gs_c, gl_c, tk_s, tk_0, List.drop_succ_cons, List.drop_zero, List.headD_cons, List.getD_cons_zero, List.getD_cons_succ, bind_s]
  unfold soOk
  cases aok s.inp
  · rfl
  · by_cases hp : win s.pos 0 s.inp.length = true
    · rw [hp]
      cases s.runs.all runOk
      · rfl
      · by_cases hw : 0 ≤ s.wr
        · rw [ltF hw, decide_eq_true hw]
          cases isS s.out
          · rfl
          · have := all_loop (l := s.heap) (L := fun i => L_impl_IsValidSorter_0 0 (s.heap.map Rw.e) (s.heap.length : Nat) i (s.inp.map Rw.e) s.pos (s.heap.map Rw.e) (s.dfd.map Rw.e) (s.out.map Rw.e) (s.runs.map rsE) s.lp s.rp s.ph s.wr) (p := fun r => !belowB r s.out) (no := some [.bool false]) (yes := some [.bool (soTail s)]) (by omega) (fun u a v e => by
              have hu : u.length < s.heap.length := by rw [e]; simp
              have ha : at' (s.heap.map Rw.e) u.length = a.e := at_i e rfl
              rw [L_impl_IsValidSorter_0_eq, ltT (by omega), cond_true, in_i hu, cond_true]
              simp only [tn_c, ha, gk, gv, gw, iBelow a s.out (by omega), gn_c, gb_c, gs_c, gl_c, tk_s, tk_0, List.drop_succ_cons, List.drop_zero, List.headD_cons, List.getD_cons_zero, List.getD_cons_succ, bind_s]
              cases belowB a s.out <;> rfl) (iTail s h hp 0 _ _)
            refine this.trans ?_
            cases s.heap.all fun r => !belowB r s.out <;> rfl
        · rw [ltT (by omega), decide_eq_false hw]; rfl
    · rw [(Bool.not_eq_true _).mp hp]; rfl
theorem sTail (s : So) (h : s.B2) (hp : win s.pos 0 s.inp.length = true) (x0 : Int) :
    L_spec_IsValidSorter_0 x0 (w64 ((s.out.length : Int) - 1)) (s.heap.length : Nat) (s.inp.map Rw.e) s.pos (s.heap.map Rw.e) (s.dfd.map Rw.e) (s.out.map Rw.e) (s.runs.map rsE) s.lp s.rp s.ph s.wr = some [.bool (soTail s)] := by
  obtain ⟨h1, h2, h3, h4, h5⟩ := h.b.p
  have hpp := win_iff.mp hp
  have hfl := flat_le s.runs
  have hsz : s.inp.length + (s.heap.length + (s.dfd.length + (s.out.length + s.runs.flatten.length))) ≤ 1073741800 := by
    simp only [So.B2, So.sz] at h; omega
  have hb1 := sBags (s.runs.flatten ++ (s.out ++ (s.heap ++ s.dfd))) (s.inp.take s.pos.toNat) (by (first | omega | (simp only [List.length_append, List.length_cons, List.length_nil, List.length_map, List.length_take, List.length_drop, List.length_replicate, szI_S] at * <;> omega))) (by (first | omega | (simp only [List.length_append, List.length_cons, List.length_nil, List.length_map, List.length_take, List.length_drop, List.length_replicate, szI_S] at * <;> omega)))
  have hb2 := sBags s.runs.flatten s.inp (by omega) (by omega)
  have f1 : fitM (s.runs.flatten.length + s.out.length) 24 = true := fitT (by omega)
  have f2 : fitM ((s.runs.flatten ++ s.out).length + s.heap.length) 24 = true := fitT (by (first | omega | (simp only [List.length_append, List.length_cons, List.length_nil, List.length_map, List.length_take, List.length_drop, List.length_replicate, szI_S] at * <;> omega)))
  have f3 : fitM ((s.runs.flatten ++ s.out ++ s.heap).length + s.dfd.length) 24 = true := fitT (by (first | omega | (simp only [List.length_append, List.length_cons, List.length_nil, List.length_map, List.length_take, List.length_drop, List.length_replicate, szI_S] at * <;> omega)))
  have hass : s.runs.flatten ++ s.out ++ s.heap ++ s.dfd = s.runs.flatten ++ (s.out ++ (s.heap ++ s.dfd)) := by simp
  have hlast : leI 0 (w64 ((s.out.length : Int) - 1)) = decide (0 < s.out.length) := by
    rw [w64_id ⟨by omega, by omega⟩]; unfold leI; congr 1; apply propext; omega
  rw [L_spec_IsValidSorter_0_eq, lenI_map, ltF (Int.le_refl _), cond_false]
  simp only [sFlatten s.runs h5, sMem s h.b, gn_c, gb_c, gs_c, gl_c, tk_s, tk_0, List.drop_succ_cons, List.drop_zero, List.headD_cons, List.getD_cons_zero, List.getD_cons_succ, bind_s, hb2, take_p, len_map, app_map2, f1, f2, f3, cond_true, hass, hb1, hlast, lenI_map]
  unfold soTail
  by_cases p1 : s.ph = 1
  · rw [eqT p1, cond_true, if_pos p1]
    by_cases q1 : s.lp = 0
    · rw [eqT q1, cond_true, decide_eq_true q1]
      by_cases q2 : s.rp = 0
      · rw [eqT q2, cond_true, decide_eq_true q2, leT (show 0 ≤ s.pos by omega), leT (show s.pos ≤ s.inp.length by omega)]
        simp only [Bool.and_self, cond_true, dec_le60]
        by_cases q4 : s.dfd.length = 0
        · rw [eqT (by omega), cond_true, decide_eq_true (show s.out ≠ [] ∨ s.dfd = [] from .inr (List.length_eq_zero_iff.mp q4))]
          cases decide (memS s ≤ 60) <;> rfl
        · rw [eqF (by omega), cond_false]
          by_cases q3 : 0 < s.out.length
          · rw [decide_eq_true q3, cond_true, decide_eq_true (show s.out ≠ [] ∨ s.dfd = [] from .inl (fun e => by rw [e] at q3; simp at q3))]
            cases decide (memS s ≤ 60) <;> rfl
          · have qo : s.out = [] := List.length_eq_zero_iff.mp (by omega)
            rw [decide_eq_false q3, cond_false, decide_eq_false (show ¬ (s.out ≠ [] ∨ s.dfd = []) from fun e => e.elim (fun e => e qo) (fun e => q4 (by rw [e]; rfl)))]
            rfl
      · rw [eqF q2, decide_eq_false q2]; rfl
    · rw [eqF q1, decide_eq_false q1]; rfl
  · rw [eqF p1, cond_false, if_neg p1]
    by_cases q1 : s.pos = s.inp.length
    · rw [eqT q1, Bool.not_true, cond_false, decide_eq_true q1, w64_id (n := (s.heap.length : Int) + (s.dfd.length : Int)) ⟨by omega, by omega⟩]
      by_cases q2 : s.heap.length = 0
      · by_cases q3 : s.dfd.length = 0
        · rw [ltF (by omega), cond_false, nil_len s.heap, decide_eq_true q2, nil_len s.dfd, decide_eq_true q3]
          simp only [Bool.true_and]
          unfold soLate
          by_cases p2 : s.ph = 2
          · rw [eqT p2, cond_true, if_pos p2]
            unfold mergeOk
            cases hr : s.runs with
            | nil => simp [ltI]
            | cons a r =>
              cases r with
              | nil => simp [ltI]
              | cons b r =>
                have ha : a.length ≤ 1073741824 := Nat.le_trans (szL_mem' (by rw [hr]; simp)) h5
                have hb : b.length ≤ 1073741824 := Nat.le_trans (szL_mem' (by rw [hr]; simp)) h5
                have g0 : at' ((a :: b :: r).map rsE) (tn 0) = rsE a := rfl
                have g1 : at' ((a :: b :: r).map rsE) (tn 1) = rsE b := rfl
                have l0 : ltI ((a :: b :: r).length : Int) 2 = false := ltF (by simp; omega)
                have l1 : inR 0 ((a :: b :: r).length : Int) = true := inRT (by omega) (by simp; omega)
                have l2 : inR 1 ((a :: b :: r).length : Int) = true := inRT (by omega) (by simp; omega)
                simp only [l0, l1, l2, cond_true, cond_false, g0, g1, rsE, gn_c, gb_c, gs_c, gl_c, tk_s, tk_0, List.drop_succ_cons, List.drop_zero, List.headD_cons, List.getD_cons_zero, List.getD_cons_succ, bind_s, lenI_map, l1In_ok]
                by_cases w1 : win s.lp 0 a.length = true
                · by_cases w2 : win s.rp 0 b.length = true
                  · have w3 := win_iff.mp w1
                    have w4 := win_iff.mp w2
                    have m1 := sMrg (a.take s.lp.toNat) (b.take s.rp.toNat) (by simp; omega)
                    have m2 := sMrg a b (by omega)
                    have ml := mrg_length a b
                    have ml2 := mrg_length (a.take s.lp.toNat) (b.take s.rp.toNat)
                    simp only [List.length_take] at ml2
                    have e1 := sEqual (mrg (a.take s.lp.toNat) (b.take s.rp.toNat)) s.out (by omega)
                    have e2 := sEqual s.out ((mrg a b).take (s.lp.toNat + s.rp.toNat)) (by omega)
                    have e3 : w64 (s.lp + s.rp) = s.lp + s.rp := w64_id ⟨by omega, by omega⟩
                    have e4 : (s.lp + s.rp).toNat = s.lp.toNat + s.rp.toNat := by omega
                    have e5 : decide (mrg (a.take s.lp.toNat) (b.take s.rp.toNat) = s.out) = decide (s.out = mrg (a.take s.lp.toNat) (b.take s.rp.toNat)) := by
                      congr 1; exact propext ⟨fun e => e.symm, fun e => e.symm⟩
                    rw [w1, w2, leT w3.1, leT w3.2, leT w4.1, leT w4.2]
                    simp only [Bool.not_true, cond_false, Bool.and_self, cond_true, take_p, m1, m2, gn_c, gb_c, gs_c, gl_c, tk_s, tk_0, List.drop_succ_cons, List.drop_zero, List.headD_cons, List.getD_cons_zero, List.getD_cons_succ, bind_s, e3, e4, lenI_map, e2, e1]
                    rw [leT (by omega), leT (by rw [ml]; omega), e5]
                    simp only [Bool.and_self, cond_true, Bool.true_and]
                    cases decide (s.out = (mrg a b).take (s.lp.toNat + s.rp.toNat)) <;> cases decide (s.out = mrg (a.take s.lp.toNat) (b.take s.rp.toNat)) <;> simp
                  · rw [w1, (Bool.not_eq_true _).mp w2]; simp
                · rw [(Bool.not_eq_true _).mp w1]; simp
          · rw [eqF p2, cond_false, if_neg p2]
            by_cases w1 : s.runs.length ≤ 1
            · rw [ltF (by omega), cond_false]
              by_cases w2 : s.rp = 0
              · rw [eqT w2, Bool.not_true, cond_false, decide_eq_true w2]
                by_cases w3 : s.out.length = 0
                · rw [ltF (by omega), cond_false, nil_len s.out, decide_eq_true w3]
                  cases bagEq s.runs.flatten s.inp
                  · rfl
                  · simp only [Bool.not_true, cond_false, Bool.true_and, Bool.and_true]
                    by_cases p3 : s.ph = 3
                    · rw [eqT p3, cond_true, if_pos p3]
                      by_cases w4 : s.runs.length = 1
                      · rw [eqT (by omega), cond_true, decide_eq_true w4]
                        simp only [l1In_ok, win_len (show s.inp.length ≤ 1073741824 by omega), gn_c, gb_c, gs_c, gl_c, tk_s, tk_0, List.drop_succ_cons, List.drop_zero, List.headD_cons, List.getD_cons_zero, List.getD_cons_succ, bind_s, Bool.true_and]
                      · rw [eqF (by omega), decide_eq_false w4]; rfl
                    · rw [eqF p3, cond_false, if_neg p3]
                      by_cases p4 : s.ph = 4
                      · rw [eqT p4, cond_true, if_pos p4, decide_eq_true w1]
                        unfold eqI
                        simp
                      · rw [eqF p4, if_neg p4]; rfl
                · rw [ltT (by omega), nil_len s.out, decide_eq_false w3]
                  simp
              · rw [eqF w2, decide_eq_false w2]
                simp
            · rw [ltT (by omega), decide_eq_false w1, decide_eq_false (show ¬ s.runs.length = 1 by omega)]
              simp
        · rw [ltT (by omega), nil_len s.dfd, decide_eq_false q3]; simp
      · rw [ltT (by omega), nil_len s.heap, decide_eq_false q2]; simp
    · rw [eqF q1, decide_eq_false q1]; rfl
theorem sValidSo (s : So) (h : s.B2) : callI tE f_spec_IsValidSorter [.sl (s.inp.map Rw.e), .int s.pos, .sl (s.heap.map Rw.e), .sl (s.dfd.map Rw.e), .sl (s.out.map Rw.e), .sl (s.runs.map rsE), .int s.lp, .int s.rp, .int s.ph, .int s.wr] = some [.bool (soOk s)] := by
  obtain ⟨h1, h2, h3, h4, h5⟩ := h.b.p
  rw [c_spec_IsValidSorter]
  simp only [sAreValid s.inp (by omega), l1In_ok, lenI_map, sValidRuns s.runs h5, sIsSorted s.out (by omega), gn_c, gb_c, gs_c, gl_c, tk_s, tk_0, List.drop_succ_cons, List.drop_zero, List.headD_cons, List.getD_cons_zero, List.getD_cons_succ, bind_s]
  unfold soOk
  cases aok s.inp
  · rfl
  · by_cases hp : win s.pos 0 s.inp.length = true
    · rw [hp]
      cases s.runs.all runOk
      · rfl
      · by_cases hw : 0 ≤ s.wr
        · rw [ltF hw, decide_eq_true hw]
          cases isS s.out
          · rfl
          · have hlast : leI 0 (w64 ((s.out.length : Int) - 1)) = decide (0 < s.out.length) := by
              rw [w64_id ⟨by omega, by omega⟩]; unfold leI; congr 1; apply propext; omega
            have := all_loop (l := s.heap) (L := fun i => L_spec_IsValidSorter_0 0 (w64 ((s.out.length : Int) - 1)) i (s.inp.map Rw.e) s.pos (s.heap.map Rw.e) (s.dfd.map Rw.e) (s.out.map Rw.e) (s.runs.map rsE) s.lp s.rp s.ph s.wr) (p := fun r => !belowB r s.out) (no := some [.bool false]) (yes := some [.bool (soTail s)]) (by omega) (fun u a v e => by
              have hu : u.length < s.heap.length := by rw [e]; simp
              have ha : at' (s.heap.map Rw.e) u.length = a.e := at_i e rfl
              rw [L_spec_IsValidSorter_0_eq, lenI_map, ltT (by omega), cond_true, hlast]
              rcases snoc_or s.out with ho | ⟨q, x, ho⟩
              · rw [ho, belowB_nil]; rfl
              · have hx : at' (s.out.map Rw.e) q.length = x.e := at_i (u := q) (v := []) (by rw [ho]) rfl
                have hql : s.out.length = q.length + 1 := by rw [ho]; simp
                have hl2 : w64 ((s.out.length : Int) - 1) = (q.length : Int) := by rw [w64_id ⟨by omega, by omega⟩]; omega
                rw [decide_eq_true (by omega : 0 < s.out.length), cond_true, hl2, inRT (by omega) (by omega), in_i (by omega)]
                simp only [cond_true, tn_c, ha, hx, gk, gv, gw, sCompare, gn_c, gb_c, gs_c, gl_c, tk_s, tk_0, List.drop_succ_cons, List.drop_zero, List.headD_cons, List.getD_cons_zero, List.getD_cons_succ, bind_s, lt_cmp0]
                rw [show belowB a s.out = decide (Rw.lt a x) by rw [ho, belowB_snoc]]
                cases decide (Rw.lt a x) <;> rfl) (sTail s h hp 0)
            refine this.trans ?_
            cases s.heap.all fun r => !belowB r s.out <;> rfl
        · rw [ltT (by omega), decide_eq_false hw]; rfl
    · rw [(Bool.not_eq_true _).mp hp]; rfl
def Ck.B2 (c : Ck) : Prop := c.sz ≤ 1073741800
end Go.Proofs.YtceoogjanfbdcaaGreat.Vai
