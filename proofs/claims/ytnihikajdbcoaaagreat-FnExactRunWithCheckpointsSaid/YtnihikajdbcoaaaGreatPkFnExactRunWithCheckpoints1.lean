/- What the law of this claim leans on; no condition. -/
import Derived.Test.YtnihikajdbcoaaaGreatEnv
import Derived.Test.YtnihikajdbcoaaaGreatVaiD
namespace Go.Proofs.YtnihikajdbcoaaaGreat.Vai
open Go
set_option linter.unusedSimpArgs false
set_option linter.unusedVariables false
set_option linter.unnecessarySimpa false
abbrev Rows:=List (List Dat)
abbrev ZAH:FuncId:=102
abbrev Z6Z:FuncId:=169
abbrev Z79:FuncId:=218
abbrev Z5r:FuncId:=84
abbrev Z6F:FuncId:=289
abbrev Z5m:FuncId:=286
abbrev Z6K:FuncId:=290
abbrev Z6i:FuncId:=141
abbrev Z5f:FuncId:=219
abbrev Z7l:FuncId:=232
abbrev Z7g:FuncId:=370
abbrev Z7K:FuncId:=369
abbrev Z6Y:FuncId:=371
abbrev Z6V:FuncId:=88
abbrev Z6a:FuncId:=372
abbrev Z6q:FuncId:=373
abbrev Z61:FuncId:=230
abbrev Z91:FuncId:=391
abbrev Z9w:FuncId:=257
abbrev ZAU:FuncId:=242
abbrev Z7m:FuncId:=104
abbrev Z6G:FuncId:=166
abbrev Z7A:FuncId:=411
abbrev Z5O:FuncId:=301
abbrev Z7Q:FuncId:=308
abbrev Z87:FuncId:=309
abbrev Z6j:FuncId:=145
abbrev Z8S:FuncId:=380
abbrev Z68:FuncId:=234
abbrev Z7h:FuncId:=236
abbrev Z94:FuncId:=412
abbrev Z5Q:FuncId:=307
abbrev Z9l:FuncId:=302
abbrev Z7i:FuncId:=375
abbrev Z7L:FuncId:=374
abbrev Z7Z:FuncId:=376
abbrev Z6h:FuncId:=341
abbrev Z5Z:FuncId:=445
abbrev Z5h:FuncId:=464
abbrev Z5z:FuncId:=453
abbrev Za:FuncId:=446
abbrev Z60:FuncId:=428
abbrev Z6k:FuncId:=381
abbrev Z6l:FuncId:=237
abbrev Z7R:FuncId:=377
abbrev Z7B:FuncId:=378
abbrev Z6r:FuncId:=379
abbrev Z62:FuncId:=233
abbrev Z92:FuncId:=268
abbrev Z8C:FuncId:=399
abbrev Z8T:FuncId:=270
abbrev ZAV:FuncId:=247
abbrev Z9Q:FuncId:=107
abbrev Z7n:FuncId:=407
abbrev Z9x:FuncId:=408
abbrev Z9R:FuncId:=287
abbrev Z6E:FuncId:=288
abbrev Z8s:FuncId:=140
abbrev Z5v:FuncId:=303
abbrev Z5w:FuncId:=304
abbrev Z7J:FuncId:=305
abbrev Z5X:FuncId:=306
abbrev Z8t:FuncId:=144
abbrev Z9D:FuncId:=239
abbrev Z5N:FuncId:=330
abbrev Z8D:FuncId:=333
abbrev Z5n:FuncId:=175
abbrev Z7o:FuncId:=331
abbrev Z8H:FuncId:=172
abbrev Z7S:FuncId:=426
abbrev Z5Y:FuncId:=357
abbrev Z9E:FuncId:=343
abbrev Z7p:FuncId:=344
abbrev Z6m:FuncId:=342
abbrev Z7C:FuncId:=185
abbrev Z7q:FuncId:=358
abbrev Z8I:FuncId:=203
abbrev Z7D:FuncId:=352
abbrev Z7E:FuncId:=355
abbrev Z9F:FuncId:=216
abbrev Z80:FuncId:=235
abbrev Z7F:FuncId:=100
abbrev Z6d:FuncId:=96
abbrev Z81:FuncId:=231
abbrev Z7G:FuncId:=99
abbrev Z6e:FuncId:=227
abbrev Z8E:FuncId:=240
abbrev Z7r:FuncId:=430
abbrev Z7s:FuncId:=383
abbrev Z9S:FuncId:=429
abbrev Z7a:FuncId:=382
abbrev Z7M:FuncId:=241
abbrev Z6U:FuncId:=103
abbrev Z7t:FuncId:=105
abbrev Z8F:FuncId:=243
abbrev Z7H:FuncId:=385
abbrev Z6W:FuncId:=447
abbrev Z8U:FuncId:=431
abbrev Z7b:FuncId:=384
abbrev Z7N:FuncId:=244
abbrev ZAI:FuncId:=245
abbrev Z75:FuncId:=106
abbrev Z9T:FuncId:=108
abbrev Z76:FuncId:=13
abbrev Z7j:FuncId:=246
set_option maxRecDepth 100000
noncomputable def Z5V (x0 x1 x2:Int) (x3:Rows):Option (List Dat):=loopK tE Z5Z 0 ⟨[(0,(.own (1000000,0))),(1,(.i .i64 x0)),(2,(.i .i64 x1)),(3,(.fn 307 [])),(8,(.i .i64 x2))],[((1000000,0),(.row 224 x3 Bool.true 0 []))]⟩
noncomputable def Z5W (x0 x1 x2 x3:Int) (x4:Rows):Option (List Dat):=loopK tE Z5Z 1 ⟨[(0,(.own (1000000,0))),(1,(.i .i64 x0)),(2,(.i .i64 x1)),(3,(.fn 307 [])),(8,(.i .i64 x2)),(9,(.i .i64 x3))],[((1000000,0),(.row 224 x4 Bool.true 0 []))]⟩
theorem Z5x (x0 x1 x2:Int) (x3:Rows):Z5V x0 x1 x2 x3=(bif(ltI x2 x1)then(Z5W x0 x1 x2 x2 x3)else(some [(.sl x3)])):=(loopK_run (by kernel_rfl)).trans (by kernel_rfl)
theorem Z5y (x0 x1 x2 x3:Int) (x4:Rows):Z5W x0 x1 x2 x3 x4=(bif(ltI x0 x3)then(bif(inR x3 (lenI x4))then(bif(inR (w64 (x3-1)) (lenI x4))then(((callI tE Z5Q [(.int (gn (at' x4 (tn x3)))),(.int (gn (tk 1 (at' x4 (tn x3))))),(.int (gn (tk 2 (at' x4 (tn x3))))),(.int (gn (at' x4 (tn (w64 (x3-1)))))),(.int (gn (tk 1 (at' x4 (tn (w64 (x3-1))))))),(.int (gn (tk 2 (at' x4 (tn (w64 (x3-1)))))))])).bind (fun r0=>(bif(ltI (gn r0) 0)then(bif(inR (w64 (x3-1)) (lenI x4))then(bif(inR x3 (lenI x4))then(bif(inR x3 (lenI x4))then(bif(inR (w64 (x3-1)) (lenI (updR x4 (tn x3) 0 [(.int (gn (at' x4 (tn (w64 (x3-1)))))),(.int (gn (tk 1 (at' x4 (tn (w64 (x3-1))))))),(.int (gn (tk 2 (at' x4 (tn (w64 (x3-1)))))))])))then(Z5W x0 x1 x2 (w64 (x3-1)) (updR (updR x4 (tn x3) 0 [(.int (gn (at' x4 (tn (w64 (x3-1)))))),(.int (gn (tk 1 (at' x4 (tn (w64 (x3-1))))))),(.int (gn (tk 2 (at' x4 (tn (w64 (x3-1)))))))]) (tn (w64 (x3-1))) 0 [(.int (gn (at' x4 (tn x3)))),(.int (gn (tk 1 (at' x4 (tn x3))))),(.int (gn (tk 2 (at' x4 (tn x3)))))]))else none)else none)else none)else none)else(Z5V x0 x1 (w64 (x2+1)) x4))))else none)else none)else(Z5V x0 x1 (w64 (x2+1)) x4)):=(loopK_run (by kernel_rfl)).trans (by kernel_rfl)
theorem Z6s (a0:Rows) (a1 a2:Int):callI tE Z5Z [.sl a0,.int a1,.int a2]=(Z5V a1 a2 (w64 (a1+1)) a0):=(callI_run rfl (by kernel_rfl)).trans (by kernel_rfl)
noncomputable def Z5c (x0 x1 x2 x3:Int) (x4:Rows):Option (List Dat):=loopK tE Z5h 0 ⟨[(0,(.own (1000000,0))),(1,(.i .i64 x0)),(2,(.i .i64 x1)),(3,(.i .i64 x2)),(10,(.i .i64 x3))],[((1000000,0),(.row 224 x4 Bool.true 0 []))]⟩
theorem Z6p (x0 x1 x2 x3:Int) (x4:Rows):Z5c x0 x1 x2 x3 x4=(bif(ltI x3 x2)then(bif(inR (w64 (x1+x3)) (lenI x4))then(bif(inR (w64 (x0+x3)) (lenI x4))then(bif(inR (w64 (x0+x3)) (lenI x4))then(bif(inR (w64 (x1+x3)) (lenI (updR x4 (tn (w64 (x0+x3))) 0 [(.int (gn (at' x4 (tn (w64 (x1+x3)))))),(.int (gn (tk 1 (at' x4 (tn (w64 (x1+x3))))))),(.int (gn (tk 2 (at' x4 (tn (w64 (x1+x3)))))))])))then(Z5c x0 x1 x2 (w64 (x3+1)) (updR (updR x4 (tn (w64 (x0+x3))) 0 [(.int (gn (at' x4 (tn (w64 (x1+x3)))))),(.int (gn (tk 1 (at' x4 (tn (w64 (x1+x3))))))),(.int (gn (tk 2 (at' x4 (tn (w64 (x1+x3)))))))]) (tn (w64 (x1+x3))) 0 [(.int (gn (at' x4 (tn (w64 (x0+x3)))))),(.int (gn (tk 1 (at' x4 (tn (w64 (x0+x3))))))),(.int (gn (tk 2 (at' x4 (tn (w64 (x0+x3)))))))]))else none)else none)else none)else none)else(some [(.sl x4)])):=(loopK_run (by kernel_rfl)).trans (by kernel_rfl)
theorem Z9G (a0:Rows) (a1 a2 a3:Int):callI tE Z5h [.sl a0,.int a1,.int a2,.int a3]=(Z5c a1 a2 a3 0 a0):=(callI_run rfl (by kernel_rfl)).trans (by kernel_rfl)
noncomputable def Z5o (x0 x1 x2 x3 x4:Int) (x5:Rows):Option (List Dat):=loopK tE Z5z 0 ⟨[(0,(.own (1000000,0))),(1,(.i .i64 x0)),(2,(.i .i64 x1)),(3,(.i .i64 x2)),(4,(.fn 307 [])),(10,(.i .i64 x3)),(11,(.i .i64 x4))],[((1000000,0),(.row 224 x5 Bool.true 0 []))]⟩
theorem Z8u (x0 x1 x2 x3 x4:Int) (x5:Rows):Z5o x0 x1 x2 x3 x4 x5=(bif(!(eqI x3 x4))then(bif(ltI x4 x3)then(((callI tE Z5h [(.sl x5),(.int (w64 (x1-x3))),(.int x1),(.int x4)])).bind (fun r0=>(Z5o x0 x1 x2 (w64 (x3-x4)) x4 (gl r0))))else(((callI tE Z5h [(.sl x5),(.int (w64 (x1-x3))),(.int (w64 ((w64 (x1+x4))-x3))),(.int x3)])).bind (fun r0=>(Z5o x0 x1 x2 x3 (w64 (x4-x3)) (gl r0)))))else(((callI tE Z5h [(.sl x5),(.int (w64 (x1-x3))),(.int x1),(.int x3)])).bind (fun r0=>(some [(.sl (gl r0))])))):=(loopK_run (by kernel_rfl)).trans (by kernel_rfl)
theorem Z9j (a0:Rows) (a1 a2 a3:Int):callI tE Z5z [.sl a0,.int a1,.int a2,.int a3]=(Z5o a1 a2 a3 (w64 (a2-a1)) (w64 (a3-a2)) a0):=(callI_run rfl (by kernel_rfl)).trans (by kernel_rfl)
noncomputable def Z5R (x0 x1 x2 x3 x4:Int) (x5:Rows):Option (List Dat):=loopK tE Za 0 ⟨[(0,(.own (1000000,0))),(1,(.i .i64 x0)),(2,(.i .i64 x1)),(3,(.i .i64 x2)),(4,(.fn 307 [])),(10,(.i .i64 x3)),(11,(.i .i64 x4))],[((1000000,0),(.row 224 x5 Bool.true 0 []))]⟩
noncomputable def Z5S (x0 x1 x2 x3 x4:Int) (x5:Rows):Option (List Dat):=loopK tE Za 2 ⟨[(0,(.own (1000000,0))),(1,(.i .i64 x0)),(2,(.i .i64 x1)),(3,(.i .i64 x2)),(4,(.fn 307 [])),(14,(.i .i64 x3)),(15,(.i .i64 x4))],[((1000000,0),(.row 224 x5 Bool.true 0 []))]⟩
noncomputable def Z5M (x0 x1 x2 x3 x4 x5 x6 x7:Int) (x8:Rows):Option (List Dat):=loopK tE Za 4 ⟨[(0,(.own (1000000,0))),(1,(.i .i64 x0)),(2,(.i .i64 x1)),(3,(.i .i64 x2)),(4,(.fn 307 [])),(18,(.i .i64 x3)),(19,(.i .i64 x4)),(20,(.i .i64 x5)),(21,(.i .i64 x6)),(22,(.i .i64 x7))],[((1000000,0),(.row 224 x8 Bool.true 0 []))]⟩
noncomputable def Z5T (x0 x1 x2 x3 x4:Int) (x5:Rows):Option (List Dat):=loopK tE Za 1 ⟨[(0,(.own (1000000,0))),(1,(.i .i64 x0)),(2,(.i .i64 x1)),(3,(.i .i64 x2)),(10,(.i .i64 x3)),(13,(.i .i64 x4))],[((1000000,0),(.row 224 x5 Bool.true 0 []))]⟩
noncomputable def Z5U (x0 x1 x2 x3 x4:Int) (x5:Rows):Option (List Dat):=loopK tE Za 3 ⟨[(0,(.own (1000000,0))),(1,(.i .i64 x0)),(2,(.i .i64 x1)),(3,(.i .i64 x2)),(14,(.i .i64 x3)),(17,(.i .i64 x4))],[((1000000,0),(.row 224 x5 Bool.true 0 []))]⟩
theorem Z6t (x0 x1 x2 x3 x4:Int) (x5:Rows):Z5R x0 x1 x2 x3 x4 x5=(bif(ltI x3 x4)then(bif(inR (w64 ((Go.IntKind.wrap .u64 (w64 (x3+x4)))/(Int.pow 2 (ite ((tn 1)≤(Go.IntKind.bits .u64)) (tn 1) 64)))) (lenI x5))then(bif(inR x0 (lenI x5))then(((callI tE Z5Q [(.int (gn (at' x5 (tn (w64 ((Go.IntKind.wrap .u64 (w64 (x3+x4)))/(Int.pow 2 (ite ((tn 1)≤(Go.IntKind.bits .u64)) (tn 1) 64)))))))),(.int (gn (tk 1 (at' x5 (tn (w64 ((Go.IntKind.wrap .u64 (w64 (x3+x4)))/(Int.pow 2 (ite ((tn 1)≤(Go.IntKind.bits .u64)) (tn 1) 64))))))))),(.int (gn (tk 2 (at' x5 (tn (w64 ((Go.IntKind.wrap .u64 (w64 (x3+x4)))/(Int.pow 2 (ite ((tn 1)≤(Go.IntKind.bits .u64)) (tn 1) 64))))))))),(.int (gn (at' x5 (tn x0)))),(.int (gn (tk 1 (at' x5 (tn x0))))),(.int (gn (tk 2 (at' x5 (tn x0)))))])).bind (fun r0=>(bif(ltI (gn r0) 0)then(Z5R x0 x1 x2 (w64 ((w64 ((Go.IntKind.wrap .u64 (w64 (x3+x4)))/(Int.pow 2 (ite ((tn 1)≤(Go.IntKind.bits .u64)) (tn 1) 64))))+1)) x4 x5)else(Z5R x0 x1 x2 x3 (w64 ((Go.IntKind.wrap .u64 (w64 (x3+x4)))/(Int.pow 2 (ite ((tn 1)≤(Go.IntKind.bits .u64)) (tn 1) 64)))) x5))))else none)else none)else(Z5T x0 x1 x2 x3 x0 x5)):=(loopK_run (by kernel_rfl)).trans (by kernel_rfl)
theorem Z6u (x0 x1 x2 x3 x4:Int) (x5:Rows):Z5S x0 x1 x2 x3 x4 x5=(bif(ltI x3 x4)then(bif(inR x1 (lenI x5))then(bif(inR (w64 ((Go.IntKind.wrap .u64 (w64 (x3+x4)))/(Int.pow 2 (ite ((tn 1)≤(Go.IntKind.bits .u64)) (tn 1) 64)))) (lenI x5))then(((callI tE Z5Q [(.int (gn (at' x5 (tn x1)))),(.int (gn (tk 1 (at' x5 (tn x1))))),(.int (gn (tk 2 (at' x5 (tn x1))))),(.int (gn (at' x5 (tn (w64 ((Go.IntKind.wrap .u64 (w64 (x3+x4)))/(Int.pow 2 (ite ((tn 1)≤(Go.IntKind.bits .u64)) (tn 1) 64)))))))),(.int (gn (tk 1 (at' x5 (tn (w64 ((Go.IntKind.wrap .u64 (w64 (x3+x4)))/(Int.pow 2 (ite ((tn 1)≤(Go.IntKind.bits .u64)) (tn 1) 64))))))))),(.int (gn (tk 2 (at' x5 (tn (w64 ((Go.IntKind.wrap .u64 (w64 (x3+x4)))/(Int.pow 2 (ite ((tn 1)≤(Go.IntKind.bits .u64)) (tn 1) 64)))))))))])).bind (fun r0=>(bif(!(ltI (gn r0) 0))then(Z5S x0 x1 x2 (w64 ((w64 ((Go.IntKind.wrap .u64 (w64 (x3+x4)))/(Int.pow 2 (ite ((tn 1)≤(Go.IntKind.bits .u64)) (tn 1) 64))))+1)) x4 x5)else(Z5S x0 x1 x2 x3 (w64 ((Go.IntKind.wrap .u64 (w64 (x3+x4)))/(Int.pow 2 (ite ((tn 1)≤(Go.IntKind.bits .u64)) (tn 1) 64)))) x5))))else none)else none)else(Z5U x0 x1 x2 x3 x1 x5)):=(loopK_run (by kernel_rfl)).trans (by kernel_rfl)
theorem Z6v (x0 x1 x2 x3 x4 x5 x6 x7:Int) (x8:Rows):Z5M x0 x1 x2 x3 x4 x5 x6 x7 x8=(bif(ltI x5 x6)then(bif(inR (w64 (x7-(w64 ((Go.IntKind.wrap .u64 (w64 (x5+x6)))/(Int.pow 2 (ite ((tn 1)≤(Go.IntKind.bits .u64)) (tn 1) 64)))))) (lenI x8))then(bif(inR (w64 ((Go.IntKind.wrap .u64 (w64 (x5+x6)))/(Int.pow 2 (ite ((tn 1)≤(Go.IntKind.bits .u64)) (tn 1) 64)))) (lenI x8))then(((callI tE Z5Q [(.int (gn (at' x8 (tn (w64 (x7-(w64 ((Go.IntKind.wrap .u64 (w64 (x5+x6)))/(Int.pow 2 (ite ((tn 1)≤(Go.IntKind.bits .u64)) (tn 1) 64)))))))))),(.int (gn (tk 1 (at' x8 (tn (w64 (x7-(w64 ((Go.IntKind.wrap .u64 (w64 (x5+x6)))/(Int.pow 2 (ite ((tn 1)≤(Go.IntKind.bits .u64)) (tn 1) 64))))))))))),(.int (gn (tk 2 (at' x8 (tn (w64 (x7-(w64 ((Go.IntKind.wrap .u64 (w64 (x5+x6)))/(Int.pow 2 (ite ((tn 1)≤(Go.IntKind.bits .u64)) (tn 1) 64))))))))))),(.int (gn (at' x8 (tn (w64 ((Go.IntKind.wrap .u64 (w64 (x5+x6)))/(Int.pow 2 (ite ((tn 1)≤(Go.IntKind.bits .u64)) (tn 1) 64)))))))),(.int (gn (tk 1 (at' x8 (tn (w64 ((Go.IntKind.wrap .u64 (w64 (x5+x6)))/(Int.pow 2 (ite ((tn 1)≤(Go.IntKind.bits .u64)) (tn 1) 64))))))))),(.int (gn (tk 2 (at' x8 (tn (w64 ((Go.IntKind.wrap .u64 (w64 (x5+x6)))/(Int.pow 2 (ite ((tn 1)≤(Go.IntKind.bits .u64)) (tn 1) 64)))))))))])).bind (fun r0=>(bif(!(ltI (gn r0) 0))then(Z5M x0 x1 x2 x3 x4 (w64 ((w64 ((Go.IntKind.wrap .u64 (w64 (x5+x6)))/(Int.pow 2 (ite ((tn 1)≤(Go.IntKind.bits .u64)) (tn 1) 64))))+1)) x6 x7 x8)else(Z5M x0 x1 x2 x3 x4 x5 (w64 ((Go.IntKind.wrap .u64 (w64 (x5+x6)))/(Int.pow 2 (ite ((tn 1)≤(Go.IntKind.bits .u64)) (tn 1) 64)))) x7 x8))))else none)else none)else(bif(ltI x5 x1)then(bif(ltI x1 (w64 (x4-x5)))then(((callI tE Z5z [(.sl x8),(.int x5),(.int x1),(.int (w64 (x4-x5)))])).bind (fun r0=>(bif(ltI x0 x5)then(bif(ltI x5 x3)then(((callI tE Za [(.sl (gl r0)),(.int x0),(.int x5),(.int x3)])).bind (fun r1=>(bif(ltI x3 (w64 (x4-x5)))then(bif(ltI (w64 (x4-x5)) x2)then(((callI tE Za [(.sl (gl r1)),(.int x3),(.int (w64 (x4-x5))),(.int x2)])).bind (fun r2=>(some [(.sl (gl r2))])))else(some [(.sl (gl r1))]))else(some [(.sl (gl r1))]))))else(bif(ltI x3 (w64 (x4-x5)))then(bif(ltI (w64 (x4-x5)) x2)then(((callI tE Za [(.sl (gl r0)),(.int x3),(.int (w64 (x4-x5))),(.int x2)])).bind (fun r1=>(some [(.sl (gl r1))])))else(some [(.sl (gl r0))]))else(some [(.sl (gl r0))])))else(bif(ltI x3 (w64 (x4-x5)))then(bif(ltI (w64 (x4-x5)) x2)then(((callI tE Za [(.sl (gl r0)),(.int x3),(.int (w64 (x4-x5))),(.int x2)])).bind (fun r1=>(some [(.sl (gl r1))])))else(some [(.sl (gl r0))]))else(some [(.sl (gl r0))])))))else(bif(ltI x0 x5)then(bif(ltI x5 x3)then(((callI tE Za [(.sl x8),(.int x0),(.int x5),(.int x3)])).bind (fun r0=>(bif(ltI x3 (w64 (x4-x5)))then(bif(ltI (w64 (x4-x5)) x2)then(((callI tE Za [(.sl (gl r0)),(.int x3),(.int (w64 (x4-x5))),(.int x2)])).bind (fun r1=>(some [(.sl (gl r1))])))else(some [(.sl (gl r0))]))else(some [(.sl (gl r0))]))))else(bif(ltI x3 (w64 (x4-x5)))then(bif(ltI (w64 (x4-x5)) x2)then(((callI tE Za [(.sl x8),(.int x3),(.int (w64 (x4-x5))),(.int x2)])).bind (fun r0=>(some [(.sl (gl r0))])))else(some [(.sl x8)]))else(some [(.sl x8)])))else(bif(ltI x3 (w64 (x4-x5)))then(bif(ltI (w64 (x4-x5)) x2)then(((callI tE Za [(.sl x8),(.int x3),(.int (w64 (x4-x5))),(.int x2)])).bind (fun r0=>(some [(.sl (gl r0))])))else(some [(.sl x8)]))else(some [(.sl x8)]))))else(bif(ltI x0 x5)then(bif(ltI x5 x3)then(((callI tE Za [(.sl x8),(.int x0),(.int x5),(.int x3)])).bind (fun r0=>(bif(ltI x3 (w64 (x4-x5)))then(bif(ltI (w64 (x4-x5)) x2)then(((callI tE Za [(.sl (gl r0)),(.int x3),(.int (w64 (x4-x5))),(.int x2)])).bind (fun r1=>(some [(.sl (gl r1))])))else(some [(.sl (gl r0))]))else(some [(.sl (gl r0))]))))else(bif(ltI x3 (w64 (x4-x5)))then(bif(ltI (w64 (x4-x5)) x2)then(((callI tE Za [(.sl x8),(.int x3),(.int (w64 (x4-x5))),(.int x2)])).bind (fun r0=>(some [(.sl (gl r0))])))else(some [(.sl x8)]))else(some [(.sl x8)])))else(bif(ltI x3 (w64 (x4-x5)))then(bif(ltI (w64 (x4-x5)) x2)then(((callI tE Za [(.sl x8),(.int x3),(.int (w64 (x4-x5))),(.int x2)])).bind (fun r0=>(some [(.sl (gl r0))])))else(some [(.sl x8)]))else(some [(.sl x8)]))))):=(loopK_run (by kernel_rfl)).trans (by kernel_rfl)
theorem Z6w (x0 x1 x2 x3 x4:Int) (x5:Rows):Z5T x0 x1 x2 x3 x4 x5=(bif(ltI x4 (w64 (x3-1)))then(bif(inR (w64 (x4+1)) (lenI x5))then(bif(inR x4 (lenI x5))then(bif(inR x4 (lenI x5))then(bif(inR (w64 (x4+1)) (lenI (updR x5 (tn x4) 0 [(.int (gn (at' x5 (tn (w64 (x4+1)))))),(.int (gn (tk 1 (at' x5 (tn (w64 (x4+1))))))),(.int (gn (tk 2 (at' x5 (tn (w64 (x4+1)))))))])))then(Z5T x0 x1 x2 x3 (w64 (x4+1)) (updR (updR x5 (tn x4) 0 [(.int (gn (at' x5 (tn (w64 (x4+1)))))),(.int (gn (tk 1 (at' x5 (tn (w64 (x4+1))))))),(.int (gn (tk 2 (at' x5 (tn (w64 (x4+1)))))))]) (tn (w64 (x4+1))) 0 [(.int (gn (at' x5 (tn x4)))),(.int (gn (tk 1 (at' x5 (tn x4))))),(.int (gn (tk 2 (at' x5 (tn x4)))))]))else none)else none)else none)else none)else(some [(.sl x5)])):=(loopK_run (by kernel_rfl)).trans (by kernel_rfl)
theorem Z6x (x0 x1 x2 x3 x4:Int) (x5:Rows):Z5U x0 x1 x2 x3 x4 x5=(bif(ltI x3 x4)then(bif(inR (w64 (x4-1)) (lenI x5))then(bif(inR x4 (lenI x5))then(bif(inR x4 (lenI x5))then(bif(inR (w64 (x4-1)) (lenI (updR x5 (tn x4) 0 [(.int (gn (at' x5 (tn (w64 (x4-1)))))),(.int (gn (tk 1 (at' x5 (tn (w64 (x4-1))))))),(.int (gn (tk 2 (at' x5 (tn (w64 (x4-1)))))))])))then(Z5U x0 x1 x2 x3 (w64 (x4-1)) (updR (updR x5 (tn x4) 0 [(.int (gn (at' x5 (tn (w64 (x4-1)))))),(.int (gn (tk 1 (at' x5 (tn (w64 (x4-1))))))),(.int (gn (tk 2 (at' x5 (tn (w64 (x4-1)))))))]) (tn (w64 (x4-1))) 0 [(.int (gn (at' x5 (tn x4)))),(.int (gn (tk 1 (at' x5 (tn x4))))),(.int (gn (tk 2 (at' x5 (tn x4)))))]))else none)else none)else none)else none)else(some [(.sl x5)])):=(loopK_run (by kernel_rfl)).trans (by kernel_rfl)
theorem Z6C (a0:Rows) (a1 a2 a3:Int):callI tE Za [.sl a0,.int a1,.int a2,.int a3]=(bif(eqI (w64 (a2-a1)) 1)then(Z5R a1 a2 a3 a2 a3 a0)else(bif(eqI (w64 (a3-a2)) 1)then(Z5S a1 a2 a3 a1 a2 a0)else(bif(ltI (w64 ((Go.IntKind.wrap .u64 (w64 (a1+a3)))/(Int.pow 2 (ite ((tn 1)≤(Go.IntKind.bits .u64)) (tn 1) 64)))) a2)then(Z5M a1 a2 a3 (w64 ((Go.IntKind.wrap .u64 (w64 (a1+a3)))/(Int.pow 2 (ite ((tn 1)≤(Go.IntKind.bits .u64)) (tn 1) 64)))) (w64 ((w64 ((Go.IntKind.wrap .u64 (w64 (a1+a3)))/(Int.pow 2 (ite ((tn 1)≤(Go.IntKind.bits .u64)) (tn 1) 64))))+a2)) (w64 ((w64 ((w64 ((Go.IntKind.wrap .u64 (w64 (a1+a3)))/(Int.pow 2 (ite ((tn 1)≤(Go.IntKind.bits .u64)) (tn 1) 64))))+a2))-a3)) (w64 ((Go.IntKind.wrap .u64 (w64 (a1+a3)))/(Int.pow 2 (ite ((tn 1)≤(Go.IntKind.bits .u64)) (tn 1) 64)))) (w64 ((w64 ((w64 ((Go.IntKind.wrap .u64 (w64 (a1+a3)))/(Int.pow 2 (ite ((tn 1)≤(Go.IntKind.bits .u64)) (tn 1) 64))))+a2))-1)) a0)else(Z5M a1 a2 a3 (w64 ((Go.IntKind.wrap .u64 (w64 (a1+a3)))/(Int.pow 2 (ite ((tn 1)≤(Go.IntKind.bits .u64)) (tn 1) 64)))) (w64 ((w64 ((Go.IntKind.wrap .u64 (w64 (a1+a3)))/(Int.pow 2 (ite ((tn 1)≤(Go.IntKind.bits .u64)) (tn 1) 64))))+a2)) a1 a2 (w64 ((w64 ((w64 ((Go.IntKind.wrap .u64 (w64 (a1+a3)))/(Int.pow 2 (ite ((tn 1)≤(Go.IntKind.bits .u64)) (tn 1) 64))))+a2))-1)) a0)))):=(callI_run rfl (by kernel_rfl)).trans (by kernel_rfl)
noncomputable def Z5p (x0 x1 x2 x3:Int) (x4:Rows):Option (List Dat):=loopK tE Z60 0 ⟨[(0,(.own (1000000,0))),(1,(.i .i64 x0)),(2,(.fn 307 [])),(6,(.i .i64 x1)),(7,(.i .i64 x2)),(8,(.i .i64 x3))],[((1000000,0),(.row 224 x4 Bool.true 0 []))]⟩
noncomputable def Z5P (x0 x1:Int) (x2:Rows):Option (List Dat):=loopK tE Z60 1 ⟨[(0,(.own (1000000,0))),(1,(.i .i64 x0)),(2,(.fn 307 [])),(6,(.i .i64 x1))],[((1000000,0),(.row 224 x2 Bool.true 0 []))]⟩
noncomputable def Z5q (x0 x1 x2 x3:Int) (x4:Rows):Option (List Dat):=loopK tE Z60 2 ⟨[(0,(.own (1000000,0))),(1,(.i .i64 x0)),(2,(.fn 307 [])),(6,(.i .i64 x1)),(7,(.i .i64 x2)),(8,(.i .i64 x3))],[((1000000,0),(.row 224 x4 Bool.true 0 []))]⟩
theorem Z6O (x0 x1 x2 x3:Int) (x4:Rows):Z5p x0 x1 x2 x3 x4=(bif(leI x3 x0)then(((callI tE Z5Z [(.sl x4),(.int x2),(.int x3)])).bind (fun r0=>(Z5p x0 x1 x3 (w64 (x3+x1)) (gl r0))))else(((callI tE Z5Z [(.sl x4),(.int x2),(.int x0)])).bind (fun r0=>(Z5P x0 x1 (gl r0))))):=(loopK_run (by kernel_rfl)).trans (by kernel_rfl)
theorem Z5i (x0 x1:Int) (x2:Rows):Z5P x0 x1 x2=(bif(ltI x1 x0)then(Z5q x0 x1 0 (w64 (2*x1)) x2)else(some [(.sl x2)])):=(loopK_run (by kernel_rfl)).trans (by kernel_rfl)
theorem Z6P (x0 x1 x2 x3:Int) (x4:Rows):Z5q x0 x1 x2 x3 x4=(bif(leI x3 x0)then(((callI tE Za [(.sl x4),(.int x2),(.int (w64 (x2+x1))),(.int x3)])).bind (fun r0=>(Z5q x0 x1 x3 (w64 (x3+(w64 (2*x1)))) (gl r0))))else(bif(ltI (w64 (x2+x1)) x0)then(((callI tE Za [(.sl x4),(.int x2),(.int (w64 (x2+x1))),(.int x0)])).bind (fun r0=>(Z5P x0 (w64 (x1*2)) (gl r0))))else(Z5P x0 (w64 (x1*2)) x4))):=(loopK_run (by kernel_rfl)).trans (by kernel_rfl)
theorem Z9k (a0:Rows) (a1:Int):callI tE Z60 [.sl a0,.int a1]=(Z5p a1 20 0 20 a0):=(callI_run rfl (by kernel_rfl)).trans (by kernel_rfl)
theorem Z9X (a0:Rows):callI tE Z6k [.sl a0]=(((callI tE Z60 [(.sl a0),(.int (lenI a0))])).bind (fun r0=>(some [(.sl (gl r0))]))):=(callI_run rfl (by kernel_rfl)).trans (by kernel_rfl)
theorem ZDR (a0:Rows) (a1:Int):callI tE ZAH [.sl a0,.int a1]=(bif(ltI (w64 (a1-(lenI a0))) 0)then(some [(.int (-1))])else(some [(.int (w64 (a1-(lenI a0))))])):=(callI_run rfl (by kernel_rfl)).trans (by kernel_rfl)
theorem ZEa (a0 a1 a2:Int):callI tE Z6Z [.int a0,.int a1,.int a2]=(bif(leI a1 a0)then(some [(.bool (leI a0 a2))])else(some [(.bool Bool.false)])):=(callI_run rfl (by kernel_rfl)).trans (by kernel_rfl)
theorem ZBX (a0 a1 a2:Int):callI tE Z79 [.int a0,.int a1,.int a2]=(((callI tE Z6Z [(.int a0),(.int 0),(.int 9)])).bind (fun r0=>(bif(gb r0)then(((callI tE Z6Z [(.int a1),(.int 0),(.int 99)])).bind (fun r1=>(bif(gb r1)then(((callI tE Z6Z [(.int a2),(.int 0),(.int 3)])).bind (fun r2=>(some [(.bool (gb r2))])))else(some [(.bool Bool.false)]))))else(some [(.bool Bool.false)])))):=(callI_run rfl (by kernel_rfl)).trans (by kernel_rfl)
noncomputable def Z6y (x0:Rows) (x1:Int):Option (List Dat):=loopK tE Z5r 0 ⟨[(0,(.ro 224 Bool.false x0)),(3,(.i .i64 x1))],[]⟩
theorem Z8M (x0:Rows) (x1:Int):Z6y x0 x1=(bif(ltI x1 (lenI x0))then(bif(inR x1 (lenI x0))then(((callI tE Z79 [(.int (gn (at' x0 (tn x1)))),(.int (gn (tk 1 (at' x0 (tn x1))))),(.int (gn (tk 2 (at' x0 (tn x1)))))])).bind (fun r0=>(bif(!(gb r0))then(some [(.bool Bool.false)])else(Z6y x0 (w64 (x1+1))))))else none)else(some [(.bool (leI (lenI x0) 24))])):=(loopK_run (by kernel_rfl)).trans (by kernel_rfl)
theorem ZAt (a0:Rows):callI tE Z5r [.sl a0]=(Z6y a0 0):=(callI_run rfl (by kernel_rfl)).trans (by kernel_rfl)
theorem ZD0 (a0 a1 a2:Int):callI tE Z5m [.int a0,.int a1,.int a2]=(((callI tE Z79 [(.int a0),(.int a1),(.int a2)])).bind (fun r0=>(bif(!(gb r0))then(some [(.int 0)])else(some [(.int (w64 (1+a2)))])))):=(callI_run rfl (by kernel_rfl)).trans (by kernel_rfl)
noncomputable def Z6z (x0:Rows) (x1 x2:Int):Option (List Dat):=loopK tE Z6K 0 ⟨[(0,(.ro 224 Bool.false x0)),(3,(.i .i64 x1)),(4,(.i .i64 x2))],[]⟩
theorem Z95 (x0:Rows) (x1 x2:Int):Z6z x0 x1 x2=(bif(ltI x2 (lenI x0))then(bif(inR x2 (lenI x0))then(((callI tE Z5m [(.int (gn (at' x0 (tn x2)))),(.int (gn (tk 1 (at' x0 (tn x2))))),(.int (gn (tk 2 (at' x0 (tn x2)))))])).bind (fun r0=>(Z6z x0 (w64 (x1+(gn r0))) (w64 (x2+1)))))else none)else(some [(.int x1)])):=(loopK_run (by kernel_rfl)).trans (by kernel_rfl)
theorem ZC2 (a0:Rows):callI tE Z6K [.sl a0]=(Z6z a0 0 0):=(callI_run rfl (by kernel_rfl)).trans (by kernel_rfl)
noncomputable def Z6J (x0:Int) (x1 x2:Rows):Option (List Dat):=loopK tE Z5f 0 ⟨[(5,(.own (500000,0))),(6,(.own (500001,0))),(7,(.i .i64 x0))],[((500000,0),(.row 3 x1 Bool.true 0 [])),((500001,0),(.row 3 x2 Bool.true 0 []))]⟩
theorem Z8V (x0:Int) (x1 x2:Rows):Z6J x0 x1 x2=(bif(ltI x0 3)then(bif(inR x0 (lenI x1))then(bif(inR x0 (lenI x2))then(bif(ltI (gn (at' x1 (tn x0))) (gn (at' x2 (tn x0))))then(some [(.int (-1))])else(bif(inR x0 (lenI x1))then(bif(inR x0 (lenI x2))then(bif(ltI (gn (at' x2 (tn x0))) (gn (at' x1 (tn x0))))then(some [(.int 1)])else(Z6J (w64 (x0+1)) x1 x2))else none)else none))else none)else none)else(some [(.int 0)])):=(loopK_run (by kernel_rfl)).trans (by kernel_rfl)
theorem ZB9 (a0 a1 a2 a3 a4 a5:Int):callI tE Z5f [.int a0,.int a1,.int a2,.int a3,.int a4,.int a5]=(Z6J 0 [[(.int a0)],[(.int a1)],[(.int a2)]] [[(.int a3)],[(.int a4)],[(.int a5)]]):=(callI_run rfl (by kernel_rfl)).trans (by kernel_rfl)
noncomputable def Z8W (x0 x1:Rows) (x2:Int):Option (List Dat):=loopK tE Z7l 0 ⟨[(0,(.ro 224 Bool.false x0)),(1,(.ro 224 Bool.false x1)),(5,(.i .i64 x2))],[]⟩
theorem Z9m (x0 x1:Rows) (x2:Int):Z8W x0 x1 x2=(bif(ltI x2 (lenI x0))then(bif(inR x2 (lenI x0))then(bif(inR x2 (lenI x1))then(bif(!((eqI (gn (at' x0 (tn x2))) (gn (at' x1 (tn x2))))&&((eqI (gn (tk 1 (at' x0 (tn x2)))) (gn (tk 1 (at' x1 (tn x2)))))&&((eqI (gn (tk 2 (at' x0 (tn x2)))) (gn (tk 2 (at' x1 (tn x2)))))&&Bool.true))))then(some [(.bool Bool.false)])else(Z8W x0 x1 (w64 (x2+1))))else none)else none)else(some [(.bool Bool.true)])):=(loopK_run (by kernel_rfl)).trans (by kernel_rfl)
theorem ZDS (a0 a1:Rows):callI tE Z7l [.sl a0,.sl a1]=(bif(!(eqI (lenI a0) (lenI a1)))then(some [(.bool Bool.false)])else(Z8W a0 a1 0)):=(callI_run rfl (by kernel_rfl)).trans (by kernel_rfl)
noncomputable def Z7u (x0:Rows) (x1:Int):Option (List Dat):=loopK tE Z7g 0 ⟨[(0,(.ro 224 Bool.false x0)),(3,(.i .i64 x1))],[]⟩
theorem Z82 (x0:Rows) (x1:Int):Z7u x0 x1=(bif(ltI x1 (lenI x0))then(bif(inR (w64 (x1-1)) (lenI x0))then(bif(inR x1 (lenI x0))then(((callI tE Z5f [(.int (gn (at' x0 (tn (w64 (x1-1)))))),(.int (gn (tk 1 (at' x0 (tn (w64 (x1-1))))))),(.int (gn (tk 2 (at' x0 (tn (w64 (x1-1))))))),(.int (gn (at' x0 (tn x1)))),(.int (gn (tk 1 (at' x0 (tn x1))))),(.int (gn (tk 2 (at' x0 (tn x1)))))])).bind (fun r0=>(bif(ltI 0 (gn r0))then(some [(.bool Bool.false)])else(Z7u x0 (w64 (x1+1))))))else none)else none)else(some [(.bool Bool.true)])):=(loopK_run (by kernel_rfl)).trans (by kernel_rfl)
theorem ZCL (a0:Rows):callI tE Z7g [.sl a0]=(Z7u a0 1):=(callI_run rfl (by kernel_rfl)).trans (by kernel_rfl)
noncomputable def Z6B (x0:Rows) (x1:Int) (x2:Rows):Option (List Dat):=loopK tE Z6V 0 ⟨[(0,(.ro 224 Bool.false x0)),(3,(.own (500000,0))),(4,(.i .i64 x1))],[((500000,0),(.row 224 x2 Bool.true 0 []))]⟩
noncomputable def Z7v (x0:Rows) (x1 x2:Int) (x3:Rows):Option (List Dat):=loopK tE Z6V 1 ⟨[(0,(.ro 224 Bool.false x0)),(3,(.own (500000,0))),(4,(.i .i64 x1)),(5,(.i .i64 x2))],[((500000,0),(.row 224 x3 Bool.true 0 []))]⟩
theorem Z9J (x0:Rows) (x1:Int) (x2:Rows):Z6B x0 x1 x2=(bif(ltI x1 (lenI x0))then(Z7v x0 x1 (lenI x2) x2)else(some [(.sl x2)])):=(loopK_run (by kernel_rfl)).trans (by kernel_rfl)
theorem Z9K (x0:Rows) (x1 x2:Int) (x3:Rows):Z7v x0 x1 x2 x3=(bif(ltI 0 x2)then(bif(inR (w64 (x2-1)) (lenI x3))then(bif(inR x1 (lenI x0))then(((callI tE Z5f [(.int (gn (at' x3 (tn (w64 (x2-1)))))),(.int (gn (tk 1 (at' x3 (tn (w64 (x2-1))))))),(.int (gn (tk 2 (at' x3 (tn (w64 (x2-1))))))),(.int (gn (at' x0 (tn x1)))),(.int (gn (tk 1 (at' x0 (tn x1))))),(.int (gn (tk 2 (at' x0 (tn x1)))))])).bind (fun r0=>(bif(ltI 0 (gn r0))then(Z7v x0 x1 (w64 (x2-1)) x3)else(bif(inR x1 (lenI x0))then(bif((leI 0 x2)&&(leI x2 (lenI x3)))then(bif(fitM (1+(len (List.take (tn ((lenI x3)-x2)) (List.drop (tn x2) x3)))) 24)then(bif((leI 0 x2)&&(leI x2 (lenI x3)))then(bif(fitM (0+(len (List.take (tn (x2-0)) (List.drop (tn 0) x3)))) 24)then(bif(fitM (Nat.succ ((len (List.take (tn (x2-0)) (List.drop (tn 0) x3)))+(len (List.take (tn ((lenI x3)-x2)) (List.drop (tn x2) x3))))) 24)then(Z6B x0 (w64 (x1+1)) (List.append (List.take (tn (x2-0)) (List.drop (tn 0) x3)) ([(.int (gn (at' x0 (tn x1)))),(.int (gn (tk 1 (at' x0 (tn x1))))),(.int (gn (tk 2 (at' x0 (tn x1)))))]::(List.take (tn ((lenI x3)-x2)) (List.drop (tn x2) x3)))))else none)else none)else none)else none)else none)else none))))else none)else none)else(bif(inR x1 (lenI x0))then(bif((leI 0 x2)&&(leI x2 (lenI x3)))then(bif(fitM (1+(len (List.take (tn ((lenI x3)-x2)) (List.drop (tn x2) x3)))) 24)then(bif((leI 0 x2)&&(leI x2 (lenI x3)))then(bif(fitM (0+(len (List.take (tn (x2-0)) (List.drop (tn 0) x3)))) 24)then(bif(fitM (Nat.succ ((len (List.take (tn (x2-0)) (List.drop (tn 0) x3)))+(len (List.take (tn ((lenI x3)-x2)) (List.drop (tn x2) x3))))) 24)then(Z6B x0 (w64 (x1+1)) (List.append (List.take (tn (x2-0)) (List.drop (tn 0) x3)) ([(.int (gn (at' x0 (tn x1)))),(.int (gn (tk 1 (at' x0 (tn x1))))),(.int (gn (tk 2 (at' x0 (tn x1)))))]::(List.take (tn ((lenI x3)-x2)) (List.drop (tn x2) x3)))))else none)else none)else none)else none)else none)else none)):=(loopK_run (by kernel_rfl)).trans (by kernel_rfl)
theorem ZCM (a0:Rows):callI tE Z6V [.sl a0]=(Z6B a0 0 []):=(callI_run rfl (by kernel_rfl)).trans (by kernel_rfl)
noncomputable def Z7c (x0:Int) (x1 x2:Rows):Option (List Dat):=loopK tE Z6a 0 ⟨[(5,(.own (500000,0))),(6,(.own (500001,0))),(7,(.i .i64 x0))],[((500000,0),(.row 224 x1 Bool.true 0 [])),((500001,0),(.row 224 x2 Bool.true 0 []))]⟩
theorem Z96 (x0:Int) (x1 x2:Rows):Z7c x0 x1 x2=(bif(ltI x0 (lenI x1))then(bif(inR x0 (lenI x1))then(bif(inR x0 (lenI x2))then(bif(!((eqI (gn (at' x1 (tn x0))) (gn (at' x2 (tn x0))))&&((eqI (gn (tk 1 (at' x1 (tn x0)))) (gn (tk 1 (at' x2 (tn x0)))))&&((eqI (gn (tk 2 (at' x1 (tn x0)))) (gn (tk 2 (at' x2 (tn x0)))))&&Bool.true))))then(some [(.bool Bool.false)])else(Z7c (w64 (x0+1)) x1 x2))else none)else none)else(some [(.bool Bool.true)])):=(loopK_run (by kernel_rfl)).trans (by kernel_rfl)
theorem ZC3 (a0 a1:Rows):callI tE Z6a [.sl a0,.sl a1]=(((callI tE Z6V [(.sl a0)])).bind (fun r0=>(((callI tE Z6V [(.sl a1)])).bind (fun r1=>(bif(!(eqI (lenI (gl r0)) (lenI (gl r1))))then(some [(.bool Bool.false)])else(Z7c 0 (gl r0) (gl r1))))))):=(callI_run rfl (by kernel_rfl)).trans (by kernel_rfl)
theorem ZE1 (a0 a1 a2:Int):callI tE ZAU [.int a0,.int a1,.int a2]=(some [(.int a0),(.int a1),(.int a2)]):=(callI_run rfl (by kernel_rfl)).trans (by kernel_rfl)
noncomputable def Z8X (x0:Rows) (x1:Int) (x2:Rows):Option (List Dat):=loopK tE Z7m 0 ⟨[(0,(.ro 242 Bool.false x0)),(3,(.own (500000,0))),(4,(.i .i64 x1))],[((500000,0),(.row 224 x2 Bool.true 0 []))]⟩
theorem Z9n (x0:Rows) (x1:Int) (x2:Rows):Z8X x0 x1 x2=(bif(ltI x1 (lenI x0))then(bif(inR x1 (lenI x0))then(((callI tE ZAU [(.int (gn (at' x0 (tn x1)))),(.int (gn (tk 1 (at' x0 (tn x1))))),(.int (gn (tk 2 (at' x0 (tn x1)))))])).bind (fun r0=>(bif(inR x1 (lenI x2))then(Z8X x0 (w64 (x1+1)) (updR x2 (tn x1) 0 [(.int (gn r0)),(.int (gn (tk 1 r0))),(.int (gn (tk 2 r0)))]))else none)))else none)else(some [(.sl x2)])):=(loopK_run (by kernel_rfl)).trans (by kernel_rfl)
theorem ZDT (a0:Rows):callI tE Z7m [.sl a0]=(bif((leI 0 (lenI a0))&&((eqI (lenI a0) (lenI a0))&&(fitM (tn (lenI a0)) 24)))then(Z8X a0 0 (List.replicate (tn (lenI a0)) [(.int 0),(.int 0),(.int 0)]))else none):=(callI_run rfl (by kernel_rfl)).trans (by kernel_rfl)
theorem ZDU (a0 a1 a2:Int):callI tE Z6G [.int a0,.int a1,.int a2]=(bif(leI a1 a0)then(some [(.bool (leI a0 a2))])else(some [(.bool Bool.false)])):=(callI_run rfl (by kernel_rfl)).trans (by kernel_rfl)
theorem ZBY (a0 a1 a2:Int):callI tE Z7A [.int a0,.int a1,.int a2]=(((callI tE Z6G [(.int a0),(.int 0),(.int 9)])).bind (fun r0=>(bif(gb r0)then(((callI tE Z6G [(.int a1),(.int 0),(.int 99)])).bind (fun r1=>(bif(gb r1)then(((callI tE Z6G [(.int a2),(.int 0),(.int 3)])).bind (fun r2=>(some [(.bool (gb r2))])))else(some [(.bool Bool.false)]))))else(some [(.bool Bool.false)])))):=(callI_run rfl (by kernel_rfl)).trans (by kernel_rfl)
theorem ZD1 (a0 a1 a2:Int):callI tE Z5O [.int a0,.int a1,.int a2]=(((callI tE Z7A [(.int a0),(.int a1),(.int a2)])).bind (fun r0=>(bif(!(gb r0))then(some [(.int 0)])else(some [(.int (w64 (1+a2)))])))):=(callI_run rfl (by kernel_rfl)).trans (by kernel_rfl)
noncomputable def Z70 (x0:Int) (x1:Rows) (x2 x3:Int):Option (List Dat):=loopK tE Z7Q 0 ⟨[(3,(.i .i64 x0)),(6,(.ro 224 Bool.false x1)),(7,(.i .i64 x2)),(8,(.i .i64 x3))],[]⟩
theorem Z97 (x0:Int) (x1:Rows) (x2 x3:Int):Z70 x0 x1 x2 x3=(bif(ltI x3 x2)then(bif(inR x3 (lenI x1))then(((callI tE Z5O [(.int (gn (at' x1 (tn x3)))),(.int (gn (tk 1 (at' x1 (tn x3))))),(.int (gn (tk 2 (at' x1 (tn x3)))))])).bind (fun r0=>(Z70 (w64 (x0+(gn r0))) x1 x2 (w64 (x3+1)))))else none)else(some [(.int x0)])):=(loopK_run (by kernel_rfl)).trans (by kernel_rfl)
theorem ZC4 (a0:Rows):callI tE Z7Q [.sl a0]=(Z70 0 a0 (lenI a0) 0):=(callI_run rfl (by kernel_rfl)).trans (by kernel_rfl)
noncomputable def Z7w (x0:Rows) (x1 x2:Int):Option (List Dat):=loopK tE Z8S 0 ⟨[(5,(.ro 224 Bool.false x0)),(6,(.i .i64 x1)),(7,(.i .i64 x2))],[]⟩
theorem Z9L (x0:Rows) (x1 x2:Int):Z7w x0 x1 x2=(bif(ltI x2 x1)then(bif(inR x2 (lenI x0))then(((callI tE Z7A [(.int (gn (at' x0 (tn x2)))),(.int (gn (tk 1 (at' x0 (tn x2))))),(.int (gn (tk 2 (at' x0 (tn x2)))))])).bind (fun r0=>(bif(!(gb r0))then(some [(.bool Bool.false)])else(Z7w x0 x1 (w64 (x2+1))))))else none)else(some [(.bool Bool.true)])):=(loopK_run (by kernel_rfl)).trans (by kernel_rfl)
theorem ZCN (a0:Rows):callI tE Z8S [.sl a0]=(Z7w a0 (lenI a0) 0):=(callI_run rfl (by kernel_rfl)).trans (by kernel_rfl)
theorem ZAu (a0:Rows):callI tE Z68 [.sl a0]=(bif(leI (lenI a0) 24)then(((callI tE Z8S [(.sl a0)])).bind (fun r0=>(some [(.bool (gb r0))])))else(some [(.bool Bool.false)])):=(callI_run rfl (by kernel_rfl)).trans (by kernel_rfl)
noncomputable def Z93 (x0 x1:Rows) (x2 x3:Int):Option (List Dat):=loopK tE Z7h 0 ⟨[(0,(.ro 224 Bool.false x0)),(1,(.ro 224 Bool.false x1)),(12,(.i .i64 x2)),(13,(.i .i64 x3))],[]⟩
theorem ZA3 (x0 x1:Rows) (x2 x3:Int):Z93 x0 x1 x2 x3=(bif(ltI x3 x2)then(bif(inR x3 (lenI x0))then(bif(inR x3 (lenI x1))then(bif(!((eqI (gn (at' x0 (tn x3))) (gn (at' x1 (tn x3))))&&((eqI (gn (tk 1 (at' x0 (tn x3)))) (gn (tk 1 (at' x1 (tn x3)))))&&((eqI (gn (tk 2 (at' x0 (tn x3)))) (gn (tk 2 (at' x1 (tn x3)))))&&Bool.true))))then(some [(.bool Bool.false)])else(Z93 x0 x1 x2 (w64 (x3+1))))else none)else none)else(some [(.bool Bool.true)])):=(loopK_run (by kernel_rfl)).trans (by kernel_rfl)
theorem ZE2 (a0 a1:Rows):callI tE Z7h [.sl a0,.sl a1]=(bif(!(eqI (lenI a0) (lenI a1)))then(some [(.bool Bool.false)])else(Z93 a0 a1 (lenI a0) 0)):=(callI_run rfl (by kernel_rfl)).trans (by kernel_rfl)
theorem ZE3 (a0 a1:Int):callI tE Z94 [.int a0,.int a1]=(bif(ltI a0 a1)then(some [(.int (-1))])else(bif(ltI a1 a0)then(some [(.int 1)])else(some [(.int 0)]))):=(callI_run rfl (by kernel_rfl)).trans (by kernel_rfl)
theorem ZBA (a0 a1 a2 a3 a4 a5:Int):callI tE Z5Q [.int a0,.int a1,.int a2,.int a3,.int a4,.int a5]=(((callI tE Z94 [(.int a0),(.int a3)])).bind (fun r0=>(bif(!(eqI (gn r0) 0))then(some [(.int (gn r0))])else(((callI tE Z94 [(.int a1),(.int a4)])).bind (fun r1=>(bif(!(eqI (gn r1) 0))then(some [(.int (gn r1))])else(((callI tE Z94 [(.int a2),(.int a5)])).bind (fun r2=>(some [(.int (gn r2))]))))))))):=(callI_run rfl (by kernel_rfl)).trans (by kernel_rfl)
noncomputable def Z7x (x0:Rows) (x1:Int):Option (List Dat):=loopK tE Z7i 0 ⟨[(0,(.ro 224 Bool.false x0)),(3,(.i .i64 x1))],[]⟩
theorem Z83 (x0:Rows) (x1:Int):Z7x x0 x1=(bif(ltI x1 (lenI x0))then(bif(inR x1 (lenI x0))then(bif(inR (w64 (x1-1)) (lenI x0))then(((callI tE Z5Q [(.int (gn (at' x0 (tn x1)))),(.int (gn (tk 1 (at' x0 (tn x1))))),(.int (gn (tk 2 (at' x0 (tn x1))))),(.int (gn (at' x0 (tn (w64 (x1-1)))))),(.int (gn (tk 1 (at' x0 (tn (w64 (x1-1))))))),(.int (gn (tk 2 (at' x0 (tn (w64 (x1-1)))))))])).bind (fun r0=>(bif(ltI (gn r0) 0)then(some [(.bool Bool.false)])else(Z7x x0 (w64 (x1+1))))))else none)else none)else(some [(.bool Bool.true)])):=(loopK_run (by kernel_rfl)).trans (by kernel_rfl)
theorem ZCO (a0:Rows):callI tE Z7i [.sl a0]=(Z7x a0 1):=(callI_run rfl (by kernel_rfl)).trans (by kernel_rfl)
theorem ZE4 (a0:Rows):callI tE Z6h [.sl a0]=(bif(fitM (0+(len a0)) 24)then(some [(.sl a0)])else none):=(callI_run rfl (by kernel_rfl)).trans (by kernel_rfl)
theorem ZCP (a0:Rows):callI tE Z6l [.sl a0]=(((callI tE Z6h [(.sl a0)])).bind (fun r0=>(((callI tE Z6k [(.sl (gl r0))])).bind (fun r1=>(some [(.sl (gl r1))]))))):=(callI_run rfl (by kernel_rfl)).trans (by kernel_rfl)
theorem ZC5 (a0 a1:Rows):callI tE Z7R [.sl a0,.sl a1]=(bif(eqI (lenI a0) (lenI a1))then(((callI tE Z6l [(.sl a0)])).bind (fun r0=>(((callI tE Z6l [(.sl a1)])).bind (fun r1=>(((callI tE Z7h [(.sl (gl r0)),(.sl (gl r1))])).bind (fun r2=>(some [(.bool (gb r2))])))))))else(some [(.bool Bool.false)])):=(callI_run rfl (by kernel_rfl)).trans (by kernel_rfl)
theorem ZE5 (a0 a1 a2 a3 a4 a5:Int):callI tE ZAV [.int a0,.int a1,.int a2,.int a3,.int a4,.int a5]=(bif(!(eqI a0 a3))then(some [(.bool Bool.false)])else(bif(!(eqI a1 a4))then(some [(.bool Bool.false)])else(bif(!(eqI a2 a5))then(some [(.bool Bool.false)])else(some [(.bool Bool.true)])))):=(callI_run rfl (by kernel_rfl)).trans (by kernel_rfl)
noncomputable def Z8Y (x0 x1:Rows) (x2:Int):Option (List Dat):=loopK tE Z9Q 0 ⟨[(0,(.ro 224 Bool.false x0)),(1,(.ro 224 Bool.false x1)),(5,(.i .i64 x2))],[]⟩
theorem Z9o (x0 x1:Rows) (x2:Int):Z8Y x0 x1 x2=(bif(ltI x2 (lenI x0))then(bif(inR x2 (lenI x0))then(bif(inR x2 (lenI x1))then(((callI tE ZAV [(.int (gn (at' x0 (tn x2)))),(.int (gn (tk 1 (at' x0 (tn x2))))),(.int (gn (tk 2 (at' x0 (tn x2))))),(.int (gn (at' x1 (tn x2)))),(.int (gn (tk 1 (at' x1 (tn x2))))),(.int (gn (tk 2 (at' x1 (tn x2)))))])).bind (fun r0=>(bif(!(gb r0))then(some [(.bool Bool.false)])else(Z8Y x0 x1 (w64 (x2+1))))))else none)else none)else(some [(.bool Bool.true)])):=(loopK_run (by kernel_rfl)).trans (by kernel_rfl)
theorem ZDV (a0 a1:Rows):callI tE Z9Q [.sl a0,.sl a1]=(bif(!(eqI (lenI a0) (lenI a1)))then(some [(.bool Bool.false)])else(Z8Y a0 a1 0)):=(callI_run rfl (by kernel_rfl)).trans (by kernel_rfl)
noncomputable def Z71 (x0:Int) (x1:ByteArray) (x2:Bool):Option (List Dat):=loopK tE Z5N 0 ⟨[(0,(.i .i64 x0)),(3,(.s x1)),(4,(.b x2))],[]⟩
theorem ZAW (x0:Int) (x1:ByteArray) (x2:Bool):Z71 x0 x1 x2=(bif(!(eqI x0 0))then(bif(ltI (Int.tmod x0 10) 0)then(bif(fitS (strOf [[(.int (Go.IntKind.wrap .u8 (w64 (48+(w64 (0-(Int.tmod x0 10)))))))]]) x1)then(Z71 (w64 (Int.tdiv x0 10)) ((strOf [[(.int (Go.IntKind.wrap .u8 (w64 (48+(w64 (0-(Int.tmod x0 10)))))))]])++x1) x2)else none)else(bif(fitS (strOf [[(.int (Go.IntKind.wrap .u8 (w64 (48+(Int.tmod x0 10)))))]]) x1)then(Z71 (w64 (Int.tdiv x0 10)) ((strOf [[(.int (Go.IntKind.wrap .u8 (w64 (48+(Int.tmod x0 10)))))]])++x1) x2)else none))else(bif x2 then(bif(fitS (S [45]) x1)then(some [(.str ((S [45])++x1))])else none)else(some [(.str x1)]))):=(loopK_run (by kernel_rfl)).trans (by kernel_rfl)
theorem ZC6 (a0:Int):callI tE Z5N [.int a0]=(bif(eqI a0 0)then(some [(.str (S [48]))])else(Z71 a0 (S []) (ltI a0 0))):=(callI_run rfl (by kernel_rfl)).trans (by kernel_rfl)
theorem ZC7 (a0 a1 a2:Int):callI tE Z8D [.int a0,.int a1,.int a2]=(((callI tE Z79 [(.int a0),(.int a1),(.int a2)])).bind (fun r0=>(bif(!(gb r0))then(some [(.str (S []))])else(((callI tE Z5N [(.int a0)])).bind (fun r1=>(bif(fitS (gs r1) (S [46]))then(((callI tE Z5N [(.int a1)])).bind (fun r2=>(bif(fitS ((gs r1)++(S [46])) (gs r2))then(bif(fitS (((gs r1)++(S [46]))++(gs r2)) (S [46]))then(((callI tE Z5N [(.int a2)])).bind (fun r3=>(bif(fitS ((((gs r1)++(S [46]))++(gs r2))++(S [46])) (gs r3))then(some [(.str (((((gs r1)++(S [46]))++(gs r2))++(S [46]))++(gs r3)))])else none)))else none)else none)))else none)))))):=(callI_run rfl (by kernel_rfl)).trans (by kernel_rfl)
noncomputable def Z5s (x0:Rows) (x1:ByteArray) (x2:Int):Option (List Dat):=loopK tE Z5n 0 ⟨[(0,(.ro 224 Bool.false x0)),(3,(.s x1)),(4,(.i .i64 x2))],[]⟩
theorem Z7V (x0:Rows) (x1:ByteArray) (x2:Int):Z5s x0 x1 x2=(bif(ltI x2 (lenI x0))then(((callI tE Z5r [(.sl x0)])).bind (fun r0=>(bif(gb r0)then(bif(ltI 0 x2)then(bif(fitS x1 (S [32]))then(bif(inR x2 (lenI x0))then(((callI tE Z8D [(.int (gn (at' x0 (tn x2)))),(.int (gn (tk 1 (at' x0 (tn x2))))),(.int (gn (tk 2 (at' x0 (tn x2)))))])).bind (fun r1=>(bif(fitS (x1++(S [32])) (gs r1))then(Z5s x0 ((x1++(S [32]))++(gs r1)) (w64 (x2+1)))else none)))else none)else none)else(bif(inR x2 (lenI x0))then(((callI tE Z8D [(.int (gn (at' x0 (tn x2)))),(.int (gn (tk 1 (at' x0 (tn x2))))),(.int (gn (tk 2 (at' x0 (tn x2)))))])).bind (fun r1=>(bif(fitS x1 (gs r1))then(Z5s x0 (x1++(gs r1)) (w64 (x2+1)))else none)))else none))else(some [(.str x1)]))))else(some [(.str x1)])):=(loopK_run (by kernel_rfl)).trans (by kernel_rfl)
theorem ZBZ (a0:Rows):callI tE Z5n [.sl a0]=(Z5s a0 (S []) 0):=(callI_run rfl (by kernel_rfl)).trans (by kernel_rfl)
theorem ZAq (a0:Int):callI tE Z7S [.int a0]=(bif(ltI a0 10)then(some [(.str (strOf [[(.int (Go.IntKind.wrap .u8 (Go.IntKind.wrap .u64 (48+a0))))]]))])else(((callI tE Z7S [(.int (Go.IntKind.wrap .u64 (Int.tdiv a0 10)))])).bind (fun r0=>(bif(fitS (gs r0) (strOf [[(.int (Go.IntKind.wrap .u8 (Go.IntKind.wrap .u64 (48+(Int.tmod a0 10)))))]]))then(some [(.str ((gs r0)++(strOf [[(.int (Go.IntKind.wrap .u8 (Go.IntKind.wrap .u64 (48+(Int.tmod a0 10)))))]])))])else none)))):=(callI_run rfl (by kernel_rfl)).trans (by kernel_rfl)
theorem ZC8 (a0:Int):callI tE Z5Y [.int a0]=(bif(ltI a0 0)then(((callI tE Z7S [(.int (Go.IntKind.wrap .u64 (0-(Go.IntKind.wrap .u64 a0))))])).bind (fun r0=>(bif(fitS (S [45]) (gs r0))then(some [(.str ((S [45])++(gs r0)))])else none)))else(((callI tE Z7S [(.int (Go.IntKind.wrap .u64 a0))])).bind (fun r0=>(some [(.str (gs r0))])))):=(callI_run rfl (by kernel_rfl)).trans (by kernel_rfl)
theorem ZC9 (a0 a1 a2:Int):callI tE Z9E [.int a0,.int a1,.int a2]=(((callI tE Z7A [(.int a0),(.int a1),(.int a2)])).bind (fun r0=>(bif(!(gb r0))then(some [(.str (S []))])else(((callI tE Z5Y [(.int a0)])).bind (fun r1=>(bif(fitS (gs r1) (S [46]))then(((callI tE Z5Y [(.int a1)])).bind (fun r2=>(bif(fitS ((gs r1)++(S [46])) (gs r2))then(bif(fitS (((gs r1)++(S [46]))++(gs r2)) (S [46]))then(((callI tE Z5Y [(.int a2)])).bind (fun r3=>(bif(fitS ((((gs r1)++(S [46]))++(gs r2))++(S [46])) (gs r3))then(some [(.str (((((gs r1)++(S [46]))++(gs r2))++(S [46]))++(gs r3)))])else none)))else none)else none)))else none)))))):=(callI_run rfl (by kernel_rfl)).trans (by kernel_rfl)
noncomputable def Z6X (x0 x1:ByteArray) (x2:Rows) (x3 x4:Int):Option (List Dat):=loopK tE Z7p 0 ⟨[(1,(.s x0)),(5,(.s x1)),(8,(.ro 9 Bool.false x2)),(9,(.i .i64 x3)),(10,(.i .i64 x4))],[]⟩
theorem Z9p (x0 x1:ByteArray) (x2:Rows) (x3 x4:Int):Z6X x0 x1 x2 x3 x4=(bif(ltI x4 x3)then(bif(inR x4 (lenI x2))then(bif(ltI 0 x4)then(bif(fitS x1 x0)then(bif(fitS (x1++x0) (gs (at' x2 (tn x4))))then(Z6X x0 ((x1++x0)++(gs (at' x2 (tn x4)))) x2 x3 (w64 (x4+1)))else none)else none)else(bif(fitS x1 (gs (at' x2 (tn x4))))then(Z6X x0 (x1++(gs (at' x2 (tn x4)))) x2 x3 (w64 (x4+1)))else none))else none)else(some [(.str x1)])):=(loopK_run (by kernel_rfl)).trans (by kernel_rfl)
theorem ZDW (a0:Rows) (a1:ByteArray):callI tE Z7p [.sl a0,.str a1]=(Z6X a1 (S []) a0 (lenI a0) 0):=(callI_run rfl (by kernel_rfl)).trans (by kernel_rfl)
noncomputable def Z6Q (x0:Rows) (x1 x2:Int) (x3:Rows):Option (List Dat):=loopK tE Z6m 0 ⟨[(3,(.own (500000,0))),(7,(.ro 224 Bool.false x0)),(8,(.i .i64 x1)),(9,(.i .i64 x2))],[((500000,0),(.row 9 x3 Bool.true 0 []))]⟩
theorem Z9M (x0:Rows) (x1 x2:Int) (x3:Rows):Z6Q x0 x1 x2 x3=(bif(ltI x2 x1)then(bif(inR x2 (lenI x0))then(((callI tE Z9E [(.int (gn (at' x0 (tn x2)))),(.int (gn (tk 1 (at' x0 (tn x2))))),(.int (gn (tk 2 (at' x0 (tn x2)))))])).bind (fun r0=>(bif(fitM (Nat.succ (len x3)) 16)then(Z6Q x0 x1 (w64 (x2+1)) (List.append x3 [[(.str (gs r0))]]))else none)))else none)else(((callI tE Z7p [(.sl x3),(.str (S [32]))])).bind (fun r0=>(some [(.str (gs r0))])))):=(loopK_run (by kernel_rfl)).trans (by kernel_rfl)
theorem ZCQ (a0:Rows):callI tE Z6m [.sl a0]=(Z6Q a0 (lenI a0) 0 []):=(callI_run rfl (by kernel_rfl)).trans (by kernel_rfl)
theorem ZBa (a0:Rows):callI tE Z7C [.sl a0]=(((callI tE Z68 [(.sl a0)])).bind (fun r0=>(bif(!(gb r0))then(some [(.str (S []))])else(((callI tE Z6m [(.sl a0)])).bind (fun r1=>(some [(.str (gs r1))])))))):=(callI_run rfl (by kernel_rfl)).trans (by kernel_rfl)
noncomputable def Z5d (x0 x1:ByteArray) (x2 x3 x4:Int):Option (List Dat):=loopK tE Z7D 0 ⟨[(0,(.s x0)),(4,(.s x1)),(5,(.i .i64 x2)),(27,(.i .i64 x3)),(28,(.i .i64 x4))],[]⟩
theorem Z9N (x0 x1:ByteArray) (x2 x3 x4:Int):Z5d x0 x1 x2 x3 x4=(bif(ltI x4 x3)then(bif(inR x4 (szI x1))then(bif(ltI (byteAt x1 x4) 48)then(some [(.int 0),(.bool Bool.false)])else(bif(inR x4 (szI x1))then(bif(ltI 57 (byteAt x1 x4))then(some [(.int 0),(.bool Bool.false)])else(bif(inR x4 (szI x1))then(Z5d x0 x1 (w64 ((w64 (10*x2))+(w64 (Go.IntKind.wrap .u8 ((byteAt x1 x4)-48))))) x3 (w64 (x4+1)))else none))else none))else none)else(bif(ltI (szI x1) (szI x0))then(((callI tE Z5Y [(.int (w64 (0-x2)))])).bind (fun r0=>(bif(!(eqS (gs r0) x0))then(some [(.int 0),(.bool Bool.false)])else(some [(.int (w64 (0-x2))),(.bool Bool.true)]))))else(((callI tE Z5Y [(.int x2)])).bind (fun r0=>(bif(!(eqS (gs r0) x0))then(some [(.int 0),(.bool Bool.false)])else(some [(.int x2),(.bool Bool.true)])))))):=(loopK_run (by kernel_rfl)).trans (by kernel_rfl)
theorem ZCR (a0:ByteArray):callI tE Z7D [.str a0]=(bif(ltI 0 (szI a0))then(bif(inR 0 (szI a0))then(bif(eqI (byteAt a0 0) 45)then(bif((leI 0 1)&&(leI 1 (szI a0)))then(bif(ltI (szI (ext a0 (tn 1) (ByteArray.size a0))) 1)then(some [(.int 0),(.bool Bool.false)])else(bif(ltI 9 (szI (ext a0 (tn 1) (ByteArray.size a0))))then(some [(.int 0),(.bool Bool.false)])else(Z5d a0 (ext a0 (tn 1) (ByteArray.size a0)) 0 (szI (ext a0 (tn 1) (ByteArray.size a0))) 0)))else none)else(bif(ltI (szI a0) 1)then(some [(.int 0),(.bool Bool.false)])else(bif(ltI 9 (szI a0))then(some [(.int 0),(.bool Bool.false)])else(Z5d a0 a0 0 (szI a0) 0))))else none)else(bif(ltI (szI a0) 1)then(some [(.int 0),(.bool Bool.false)])else(bif(ltI 9 (szI a0))then(some [(.int 0),(.bool Bool.false)])else(Z5d a0 a0 0 (szI a0) 0)))):=(callI_run rfl (by kernel_rfl)).trans (by kernel_rfl)
noncomputable def Z5e (x0:ByteArray) (x1 x2 x3:Int):Option (List Dat):=loopK tE Z7E 0 ⟨[(0,(.s x0)),(4,(.i .i64 x1)),(5,(.i .i64 x2)),(6,(.i .i64 x3))],[]⟩
theorem Z9O (x0:ByteArray) (x1 x2 x3:Int):Z5e x0 x1 x2 x3=(bif(ltI x3 (szI x0))then(bif(ltI x3 11)then(bif(inR x3 (szI x0))then(bif(leI 48 (byteAt x0 x3))then(bif(inR x3 (szI x0))then(bif(leI (byteAt x0 x3) 57)then(bif(inR x3 (szI x0))then(Z5e x0 (w64 ((w64 (x1*10))+(w64 (Go.IntKind.wrap .u8 ((byteAt x0 x3)-48))))) (w64 (x2+1)) (w64 (x3+1)))else none)else(Z5e x0 x1 x2 (w64 (x3+1))))else none)else(Z5e x0 x1 x2 (w64 (x3+1))))else none)else(bif(ltI 0 (szI x0))then(bif(inR 0 (szI x0))then(bif(eqI (byteAt x0 0) 45)then(bif(ltI 9 x2)then(some [(.int 0),(.bool Bool.false)])else(bif(ltI 10 (szI x0))then(some [(.int 0),(.bool Bool.false)])else(((callI tE Z5N [(.int (w64 (0-x1)))])).bind (fun r0=>(bif(!(eqS (gs r0) x0))then(some [(.int 0),(.bool Bool.false)])else(some [(.int (w64 (0-x1))),(.bool Bool.true)]))))))else(bif(ltI 9 x2)then(some [(.int 0),(.bool Bool.false)])else(bif(ltI 10 (szI x0))then(some [(.int 0),(.bool Bool.false)])else(((callI tE Z5N [(.int x1)])).bind (fun r0=>(bif(!(eqS (gs r0) x0))then(some [(.int 0),(.bool Bool.false)])else(some [(.int x1),(.bool Bool.true)])))))))else none)else(bif(ltI 9 x2)then(some [(.int 0),(.bool Bool.false)])else(bif(ltI 10 (szI x0))then(some [(.int 0),(.bool Bool.false)])else(((callI tE Z5N [(.int x1)])).bind (fun r0=>(bif(!(eqS (gs r0) x0))then(some [(.int 0),(.bool Bool.false)])else(some [(.int x1),(.bool Bool.true)]))))))))else(bif(ltI 0 (szI x0))then(bif(inR 0 (szI x0))then(bif(eqI (byteAt x0 0) 45)then(bif(ltI 9 x2)then(some [(.int 0),(.bool Bool.false)])else(bif(ltI 10 (szI x0))then(some [(.int 0),(.bool Bool.false)])else(((callI tE Z5N [(.int (w64 (0-x1)))])).bind (fun r0=>(bif(!(eqS (gs r0) x0))then(some [(.int 0),(.bool Bool.false)])else(some [(.int (w64 (0-x1))),(.bool Bool.true)]))))))else(bif(ltI 9 x2)then(some [(.int 0),(.bool Bool.false)])else(bif(ltI 10 (szI x0))then(some [(.int 0),(.bool Bool.false)])else(((callI tE Z5N [(.int x1)])).bind (fun r0=>(bif(!(eqS (gs r0) x0))then(some [(.int 0),(.bool Bool.false)])else(some [(.int x1),(.bool Bool.true)])))))))else none)else(bif(ltI 9 x2)then(some [(.int 0),(.bool Bool.false)])else(bif(ltI 10 (szI x0))then(some [(.int 0),(.bool Bool.false)])else(((callI tE Z5N [(.int x1)])).bind (fun r0=>(bif(!(eqS (gs r0) x0))then(some [(.int 0),(.bool Bool.false)])else(some [(.int x1),(.bool Bool.true)])))))))):=(loopK_run (by kernel_rfl)).trans (by kernel_rfl)
theorem ZCS (a0:ByteArray):callI tE Z7E [.str a0]=(Z5e a0 0 0 0):=(callI_run rfl (by kernel_rfl)).trans (by kernel_rfl)
noncomputable def Z6n (x0:ByteArray) (x1 x2:Int):Option (List Dat):=loopK tE Z7r 0 ⟨[(0,(.s x0)),(3,(.i .i64 x1)),(4,(.i .i64 x2))],[]⟩
theorem Z8n (x0:ByteArray) (x1 x2:Int):Z6n x0 x1 x2=(bif(ltI x2 (szI x0))then(bif(inR x2 (szI x0))then(Z6n x0 (Int.tmod (w64 ((w64 ((w64 (x1*37))+(w64 (byteAt x0 x2))))+1)) 65521) (w64 (x2+1)))else none)else(some [(.int x1)])):=(loopK_run (by kernel_rfl)).trans (by kernel_rfl)
theorem ZBb (a0:ByteArray):callI tE Z7r [.str a0]=(Z6n a0 11 0):=(callI_run rfl (by kernel_rfl)).trans (by kernel_rfl)
noncomputable def Z8Z (x0:Rows) (x1:Int) (x2:Rows):Option (List Dat):=loopK tE Z7t 0 ⟨[(0,(.ro 3 Bool.false x0)),(3,(.own (500000,0))),(4,(.i .i64 x1))],[((500000,0),(.row 3 x2 Bool.true 0 []))]⟩
theorem Z9q (x0:Rows) (x1:Int) (x2:Rows):Z8Z x0 x1 x2=(bif(ltI x1 (lenI x0))then(bif(inR x1 (lenI x0))then(bif(inR x1 (lenI x2))then(Z8Z x0 (w64 (x1+1)) (updR x2 (tn x1) 0 [(.int (gn (at' x0 (tn x1))))]))else none)else none)else(some [(.sl x2)])):=(loopK_run (by kernel_rfl)).trans (by kernel_rfl)
theorem ZDX (a0:Rows):callI tE Z7t [.sl a0]=(bif((leI 0 (lenI a0))&&((eqI (lenI a0) (lenI a0))&&(fitM (tn (lenI a0)) 8)))then(Z8Z a0 0 (List.replicate (tn (lenI a0)) [(.int 0)]))else none):=(callI_run rfl (by kernel_rfl)).trans (by kernel_rfl)
noncomputable def Z6o (x0:ByteArray) (x1 x2 x3:Int):Option (List Dat):=loopK tE Z7H 0 ⟨[(0,(.s x0)),(3,(.i .i64 x1)),(6,(.i .i64 x2)),(7,(.i .i64 x3))],[]⟩
theorem Z8o (x0:ByteArray) (x1 x2 x3:Int):Z6o x0 x1 x2 x3=(bif(ltI x3 x2)then(bif(inR x3 (szI x0))then(Z6o x0 (Int.tmod (w64 ((w64 ((w64 (37*x1))+(w64 (byteAt x0 x3))))+1)) 65521) x2 (w64 (x3+1)))else none)else(some [(.int x1)])):=(loopK_run (by kernel_rfl)).trans (by kernel_rfl)
theorem ZBc (a0:ByteArray):callI tE Z7H [.str a0]=(Z6o a0 11 (szI a0) 0):=(callI_run rfl (by kernel_rfl)).trans (by kernel_rfl)
noncomputable def Z8a (x0 x1:Rows) (x2:Int):Option (List Dat):=loopK tE Z9T 0 ⟨[(0,(.ro 3 Bool.false x0)),(1,(.ro 3 Bool.false x1)),(5,(.i .i64 x2))],[]⟩
theorem Z9r (x0 x1:Rows) (x2:Int):Z8a x0 x1 x2=(bif(ltI x2 (lenI x0))then(bif(inR x2 (lenI x0))then(bif(inR x2 (lenI x1))then(bif(!(eqI (gn (at' x0 (tn x2))) (gn (at' x1 (tn x2)))))then(some [(.bool Bool.false)])else(Z8a x0 x1 (w64 (x2+1))))else none)else none)else(some [(.bool Bool.true)])):=(loopK_run (by kernel_rfl)).trans (by kernel_rfl)
theorem ZDY (a0 a1:Rows):callI tE Z9T [.sl a0,.sl a1]=(bif(!(eqI (lenI a0) (lenI a1)))then(some [(.bool Bool.false)])else(Z8a a0 a1 0)):=(callI_run rfl (by kernel_rfl)).trans (by kernel_rfl)
theorem ZHm (n:Int) (r:List Dat):gn (.int n::r)=n:=rfl
theorem ZIj (b:Bool) (r:List Dat):gb (.bool b::r)=b:=rfl
theorem ZHC (s:ByteArray) (r:List Dat):gs (.str s::r)=s:=rfl
theorem ZIk (l:Rows) (r:List Dat):gl (.sl l::r)=l:=rfl
theorem ZIl (l:List Dat):tk 0 l=l:=rfl
theorem ZIm (k:Nat) (a:Dat) (l:List Dat):tk (k+1) (a::l)=tk k l:=rfl
theorem ZDB {α β:Type} (a:α) (f:α→Option β):(some a).bind f=f a:=rfl
theorem gA:(∀(n:Int) (r:List Dat),gn (.int n::r)=n)∧(∀(b:Bool) (r:List Dat),gb (.bool b::r)=b)∧(∀(s:ByteArray) (r:List Dat),gs (.str s::r)=s)∧(∀(l:Rows) (r:List Dat),gl (.sl l::r)=l)∧(∀l:List Dat,tk 0 l=l)∧(∀(k:Nat) (a:Dat) (l:List Dat),tk (k+1) (a::l)=tk k l)∧(∀{α β:Type} (a:α) (f:α→Option β),(some a).bind f=f a)∧(∀{α:Type} (k:Nat) (a:α) (l:List α),List.drop (k+1) (a::l)=List.drop k l)∧(∀{α:Type} (l:List α),List.drop 0 l=l)∧(∀{α:Type} (a d:α) (l:List α),(a::l).headD d=a)∧(∀{α:Type} (a d:α) (l:List α),(a::l).getD 0 d=a)∧∀{α:Type} (k:Nat) (a d:α) (l:List α),(a::l).getD (k+1) d=l.getD k d:=
 ⟨ZHm,ZIj,ZHC,ZIk,ZIl,ZIm,ZDB,fun _ _ _=>rfl,fun _=>rfl,fun _ _ _=>rfl,fun _ _ _=>rfl,fun _ _ _ _=>rfl⟩
theorem ltT {a b:Int} (h:a<b):ltI a b=true:=by simpa[ltI]using h
theorem ltF {a b:Int} (h:b≤a):ltI a b=false:=by simpa[ltI]using h
theorem leT {a b:Int} (h:a≤b):leI a b=true:=by simpa[leI]using h
theorem leF {a b:Int} (h:b<a):leI a b=false:=by simpa[leI]using h
theorem eqT {a b:Int} (h:a=b):eqI a b=true:=by simpa[eqI]using h
theorem eqF {a b:Int} (h:a≠b):eqI a b=false:=by simpa[eqI]using h
theorem ZCG (a:Int):eqI a a=true:=by simp[eqI]
theorem ZFi (a:Bool):eqBo a a=true:=by simp[eqBo]
theorem ZIP {a b:Nat} (h:a≤b):leN a b=true:=by simpa[leN]using h
theorem Z9C {n b:Nat} (h:n*b≤70368744177664):fitM n b=true:=ZIP h
theorem ZDZ {i n:Int} (h:0≤i) (h2:i<n):inR i n=true:=by simp[inR,leT h,ltT h2]
theorem ZHs {i j n:Int} (h:0≤i) (h2:i≤j) (h3:j≤n):in3 i j n=true:=by simp[in3,leT h,leT h2,leT h3]
theorem Z84 (i:Nat):tn (i:Int)=i:=rfl
theorem Z5g {n:Int} (h: -9223372036854775808≤n∧n≤9223372036854775807):w64 n=n:=wrap64 ⟨h.1,by omega⟩
theorem Z7k {i:Nat} (h:i<9223372036854775807):w64 ((i:Int)+1)=((i+1:Nat):Int):=by
 rw[Z5g ⟨by omega,by omega⟩];omega
theorem ZGx {α:Type} (b:Bool) (x y:α):(bif !b then x else y)=bif b then y else x:=by cases b<;>rfl
theorem ZBB (p q:Rows) (r:List Dat):at' (p++r::q) p.length=r:=by
 simp[List.getD_eq_getElem?_getD]
theorem ZCT (p q:Rows) (r:List Dat):ltI (p.length:Int) (lenI (p++r::q))=true:=ltT (by show(p.length:Int)<((p++r::q).length:Int);simp only[List.length_append,List.length_cons];omega)
theorem ZBw (p q:Rows) (r:List Dat):inR (p.length:Int) (lenI (p++r::q))=true:=ZDZ (by omega) (by show(p.length:Int)<((p++r::q).length:Int);simp only[List.length_append,List.length_cons];omega)
theorem ZCU (p:Rows):ltI (p.length:Int) (lenI p)=false:=ltF (Int.le_refl _)
theorem ZFj (p q:Rows) (r:List Dat) (c:Nat) (ds:List Dat):updR (p++r::q) p.length c ds=p++setRange r c ds::q:=by
 unfold updR
 rw[show(p++r::q).getD p.length []=r from ZBB p q r,List.set_append_right _ _ (Nat.le_refl _)]
 simp
theorem ZEu (p:Rows) (r:List Dat):(p++[r]).length=p.length+1:=by simp
theorem ZEv {α:Type} (p q:List α) (r:α):p++r::q=(p++[r])++q:=by simp
section
variable {α β:Type} {e:α→List Dat}
theorem ZDC (u v:List α) (a:α):at' ((u++a::v).map e) u.length=e a:=by
 simp[List.getD_eq_getElem?_getD]
theorem ZDD (u v:List α) (a:α):ltI (u.length:Int) (lenI ((u++a::v).map e))=true:=ltT (by show(u.length:Int)<(((u++a::v).map e).length:Int);simp only[List.length_append,List.length_cons,List.length_map];omega)
theorem ZDz (u v:List α) (a:α):inR (u.length:Int) (lenI ((u++a::v).map e))=true:=ZDZ (by omega) (by show(u.length:Int)<(((u++a::v).map e).length:Int);simp only[List.length_append,List.length_cons,List.length_map];omega)
theorem ZDE (l:List α):ltI (l.length:Int) (lenI (l.map e))=false:=ltF (by simp)
theorem ZIS (u v:List α) (a:α) (c:Nat) (ds:List Dat):updR ((u++a::v).map e) u.length c ds=u.map e++setRange (e a) c ds::v.map e:=by
 have:=ZFj (u.map e) (v.map e) (e a) c ds
 simpa using this
theorem Z72 {σ:Type} {L:σ→Int→Option β} {F:σ→List α→Option β} {I:σ→List α→List α→Prop} {l:List α} (hn:l.length<9223372036854775807)
  (hs:∀(u:List α) (a:α) (v:List α) (s:σ),l=u++a::v→I s u (a::v)→(∃s',L s u.length=L s' (w64 (u.length+1))∧I s' (u++[a]) v∧F s (a::v)=F s' v)∨L s u.length=F s (a::v))
  (he:∀s,I s l []→L s l.length=F s []) (s:σ) (h0:I s [] l):L s 0=F s l:=by
 have key:∀(v u:List α) (s:σ),l=u++v→I s u v→L s (u.length:Nat)=F s v:=by
  intro v
  induction v with
  |nil=>
   intro u s h hI
   rw[List.append_nil]at h
   subst h
   exact he s hI
  |cons a v ih=>
   intro u s h hI
   have hl:u.length<l.length:=by rw[h];simp
   rcases hs u a v s h hI with ⟨s',h1,h2,h3⟩|h1
   ·rw[h1,Z7k (by omega),h3]
    have:=ih (u++[a]) s' (by rw[h];simp) h2
    rw[List.length_append]at this
    exact this
   ·exact h1
 exact key l [] s rfl h0
theorem ZAg {L:Int→Option β} {p:α→Bool} {no yes:Option β} {l:List α} (hn:l.length<9223372036854775807)
  (hs:∀(u:List α) (a:α) (v:List α),l=u++a::v→L u.length=bif p a then L (w64 (u.length+1))else no) (he:L l.length=yes):L 0=bif l.all p then yes else no:=
 Z72 (σ:=Unit) (L:=fun _=>L) (F:=fun _ v=>bif v.all p then yes else no) (I:=fun _ _ _=>True) hn (fun u a v _ h _=>by
  have:=hs u a v h
  cases hp:p a
  ·exact .inr (by rw[this,hp];simp[hp])
  ·exact .inl ⟨(),by rw[this,hp];rfl,trivial,by simp[hp]⟩) (fun _ _=>by simpa using he) () trivial
end
def BdL {α:Type} (p:α→Prop) (l:List α):Prop:=l.length≤1152921504606846976∧∀a∈l,p a
def BdT (_:Bool):Prop:=True
def szL {α:Type} (f:α→Nat):List α→Nat
 |[]=>0
 |a::l=>1+f a+szL f l
theorem Z7W {α:Type} (f:α→Nat):∀l:List α,l.length≤szL f l
 |[]=>Nat.le_refl _
 |a::l=>by have:=Z7W f l;simp only[List.length_cons,szL];omega
theorem ZFk {α:Type} {f:α→Nat}:∀{l:List α} {a:α},a∈l→f a≤szL f l
 |b::l,a,h=>by
  rcases List.mem_cons.mp h with rfl|h
  ·simp only[szL];omega
  ·have:=ZFk (f:=f) h;simp only[szL];omega
theorem ZCV {α:Type} (f:α→Nat) (u v:List α):szL f (u++v)=szL f u+szL f v:=by
 induction u with
 |nil=>simp[szL]
 |cons a u ih=>simp only[List.cons_append,szL,ih];omega
section
variable {α:Type} {e:α→List Dat} {f:α→Int→α} {c g:α→Nat}
theorem ZEb {L:Rows→Int→Rows→Option (List Dat)} {z:List Dat} {P:α→Prop} (hs:∀(p q p' q':Rows) (a:α),P a→p.length=p'.length→p.length<4611686018427387904→L (p++e a::q) p.length (p'++z::q')=L (p++e a::q) (w64 (p.length+1)) (p'++e a::q'))
  (he:∀p p',p.length=p'.length→L p p.length p'=some [.sl p']):∀(l:List α) (p p':Rows),p.length=p'.length→(∀a∈l,P a)→p.length+l.length<4611686018427387904→
   L (p++l.map e) p.length (p'++List.replicate l.length z)=some [.sl (p'++l.map e)]
 |[],p,p',h,_,_=>by simpa using he p p' h
 |a::l,p,p',h,hP,h3=>by
  simp only[List.length_cons]at h3
  rw[List.map_cons,List.length_cons,List.replicate_succ,hs p (l.map e) p' (List.replicate l.length z) a (hP a (by simp)) h (by omega),Z7k (by omega),ZEv,ZEv p']
  have ih:=ZEb hs he l (p++[e a]) (p'++[e a]) (by simp[h]) (fun b hb=>hP b (by simp[hb])) (by simp;omega)
  rw[ZEu]at ih
  rw[ih]
  simp only[List.append_assoc,List.singleton_append]
theorem ZBd [DecidableEq α] {L:Rows→Rows→Int→Option (List Dat)} {P:α→Prop} (hs:∀(p q p' q':Rows) (a b:α),P a→p.length=p'.length→p.length<4611686018427387904→L (p++e a::q) (p'++e b::q') p.length=bif decide (a=b)then L (p++e a::q) (p'++e b::q') (w64 (p.length+1))else some [.bool false])
  (he:∀p p',p.length=p'.length→L p p' p.length=some [.bool true]):∀(l l':List α) (p p':Rows),p.length=p'.length→l.length=l'.length→(∀a∈l,P a)→p.length+l.length<4611686018427387904→
   L (p++l.map e) (p'++l'.map e) p.length=some [.bool (decide (l=l'))]
 |[],[],p,p',h,_,_,_=>by simpa using he p p' h
 |[],_::_,_,_,_,h,_,_=>by simp at h
 |_::_,[],_,_,_,h,_,_=>by simp at h
 |a::l,b::l',p,p',h,hl,hP,h3=>by
  simp only[List.length_cons]at h3 hl
  rw[List.map_cons,List.map_cons,hs p (l.map e) p' (l'.map e) a b (hP a (by simp)) h (by omega)]
  by_cases hab:a=b
  ·rw[decide_eq_true hab,cond_true,Z7k (by omega),ZEv,ZEv p']
   have ih:=ZBd hs he l l' (p++[e a]) (p'++[e b]) (by simp[h]) (by omega) (fun b hb=>hP b (by simp[hb])) (by simp;omega)
   rw[ZEu]at ih
   rw[ih]
   simp[hab]
  ·rw[decide_eq_false hab,cond_false]
   simp[hab]
def szv (n:Int) (s:Nat):Int:=if(s:Int)≤n then n-s else-1
theorem ZHD (p q:Bool):(bif !p then some [Dat.bool false]else some [.bool q])=some [.bool (p&&q)]:=by cases p<;>rfl
end
def ZA4 (n:Int):List Dat:=[.int n]
def boE (b:Bool):List Dat:=[.bool b]
def c1 {α:Type} (_:α):Nat:=1
structure Rw where
 k:Int
 v:Int
 w:Int
 deriving DecidableEq
def Rw.e (x:Rw):List Dat:=[.int x.k,.int x.v,.int x.w]
def Rw.bd (x:Rw):Prop:=I64 x.k∧I64 x.v∧I64 x.w
def rsB (l:List Rw):Prop:=BdL Rw.bd l
def rsE (l:List Rw):List Dat:=[.sl (l.map Rw.e)]
structure Pr where
 l:Rw
 r:Rw
 m:Bool
 deriving DecidableEq
def Pr.e (x:Pr):List Dat:=[.int x.l.k,.int x.l.v,.int x.l.w,.int x.r.k,.int x.r.v,.int x.r.w,.bool x.m]
def Pr.bd (x:Pr):Prop:=Rw.bd x.l∧Rw.bd x.r∧BdT x.m
structure Gr where
 key:Int
 cnt:Int
 sum:Int
 lo:Int
 hi:Int
 deriving DecidableEq
def Gr.e (x:Gr):List Dat:=[.int x.key,.int x.cnt,.int x.sum,.int x.lo,.int x.hi]
def Gr.bd (x:Gr):Prop:=I64 x.key∧I64 x.cnt∧I64 x.sum∧I64 x.lo∧I64 x.hi
structure Cl where
 id:Int
 req:Int
 prio:Int
 deriving DecidableEq
def Cl.e (x:Cl):List Dat:=[.int x.id,.int x.req,.int x.prio]
def Cl.bd (x:Cl):Prop:=I64 x.id∧I64 x.req∧I64 x.prio
structure Tk where
 kind:Int
 left:List Rw
 right:List Rw
 mat:List Bool
 level:Int
 deriving DecidableEq
def Tk.e (x:Tk):List Dat:=[.int x.kind,.sl (x.left.map Rw.e),.sl (x.right.map Rw.e),.sl (x.mat.map boE),.int x.level]
def Tk.sz (x:Tk):Nat:=x.left.length+(x.right.length+(x.mat.length))
def Tk.bd (x:Tk):Prop:=I64 x.kind∧BdL Rw.bd x.left∧BdL Rw.bd x.right∧BdL BdT x.mat∧I64 x.level
structure Gt where
 rows:List Rw
 level:Int
 deriving DecidableEq
def Gt.e (x:Gt):List Dat:=[.sl (x.rows.map Rw.e),.int x.level]
def Gt.sz (x:Gt):Nat:=x.rows.length
def Gt.bd (x:Gt):Prop:=BdL Rw.bd x.rows∧I64 x.level
structure So where
 inp:List Rw
 pos:Int
 heap:List Rw
 dfd:List Rw
 out:List Rw
 runs:List (List Rw)
 lp:Int
 rp:Int
 ph:Int
 wr:Int
 deriving DecidableEq
def So.e (x:So):List Dat:=[.sl (x.inp.map Rw.e),.int x.pos,.sl (x.heap.map Rw.e),.sl (x.dfd.map Rw.e),.sl (x.out.map Rw.e),.sl (x.runs.map rsE),.int x.lp,.int x.rp,.int x.ph,.int x.wr]
def So.sz (x:So):Nat:=x.inp.length+(x.heap.length+(x.dfd.length+(x.out.length+(szL List.length x.runs))))
def So.bd (x:So):Prop:=BdL Rw.bd x.inp∧I64 x.pos∧BdL Rw.bd x.heap∧BdL Rw.bd x.dfd∧BdL Rw.bd x.out∧BdL rsB x.runs∧I64 x.lp∧I64 x.rp∧I64 x.ph∧I64 x.wr
structure Jn where
 pend:List Tk
 wr:Int
 parts:Int
 deriving DecidableEq
def Jn.e (x:Jn):List Dat:=[.sl (x.pend.map Tk.e),.int x.wr,.int x.parts]
def Jn.sz (x:Jn):Nat:=szL Tk.sz x.pend
def Jn.bd (x:Jn):Prop:=BdL Tk.bd x.pend∧I64 x.wr∧I64 x.parts
structure Ag where
 pend:List Gt
 wr:Int
 early:Bool
 deriving DecidableEq
def Ag.e (x:Ag):List Dat:=[.sl (x.pend.map Gt.e),.int x.wr,.bool x.early]
def Ag.sz (x:Ag):Nat:=szL Gt.sz x.pend
def Ag.bd (x:Ag):Prop:=BdL Gt.bd x.pend∧I64 x.wr∧BdT x.early
structure Opr where
 kind:Int
 so:So
 jn:Jn
 ag:Ag
 deriving DecidableEq
def Opr.e (x:Opr):List Dat:=[.int x.kind,.sl (x.so.inp.map Rw.e),.int x.so.pos,.sl (x.so.heap.map Rw.e),.sl (x.so.dfd.map Rw.e),.sl (x.so.out.map Rw.e),.sl (x.so.runs.map rsE),.int x.so.lp,.int x.so.rp,.int x.so.ph,.int x.so.wr,.sl (x.jn.pend.map Tk.e),.int x.jn.wr,.int x.jn.parts,.sl (x.ag.pend.map Gt.e),.int x.ag.wr,.bool x.ag.early]
def Opr.sz (x:Opr):Nat:=So.sz x.so+(Jn.sz x.jn+(Ag.sz x.ag))
def Opr.bd (x:Opr):Prop:=I64 x.kind∧So.bd x.so∧Jn.bd x.jn∧Ag.bd x.ag
structure Ou where
 rows:List Rw
 pairs:List Pr
 groups:List Gr
 deriving DecidableEq
def Ou.e (x:Ou):List Dat:=[.sl (x.rows.map Rw.e),.sl (x.pairs.map Pr.e),.sl (x.groups.map Gr.e)]
def Ou.sz (x:Ou):Nat:=x.rows.length+(x.pairs.length+(x.groups.length))
def Ou.bd (x:Ou):Prop:=BdL Rw.bd x.rows∧BdL Pr.bd x.pairs∧BdL Gr.bd x.groups
structure Sl where
 id:Int
 op:Opr
 out:Ou
 done:Bool
 deriving DecidableEq
def Sl.e (x:Sl):List Dat:=[.int x.id,.int x.op.kind,.sl (x.op.so.inp.map Rw.e),.int x.op.so.pos,.sl (x.op.so.heap.map Rw.e),.sl (x.op.so.dfd.map Rw.e),.sl (x.op.so.out.map Rw.e),.sl (x.op.so.runs.map rsE),.int x.op.so.lp,.int x.op.so.rp,.int x.op.so.ph,.int x.op.so.wr,.sl (x.op.jn.pend.map Tk.e),.int x.op.jn.wr,.int x.op.jn.parts,.sl (x.op.ag.pend.map Gt.e),.int x.op.ag.wr,.bool x.op.ag.early,.sl (x.out.rows.map Rw.e),.sl (x.out.pairs.map Pr.e),.sl (x.out.groups.map Gr.e),.bool x.done]
def Sl.sz (x:Sl):Nat:=Opr.sz x.op+(Ou.sz x.out)
def Sl.bd (x:Sl):Prop:=I64 x.id∧Opr.bd x.op∧Ou.bd x.out∧BdT x.done
structure Br where
 pool:Int
 next:Int
 act:List Cl
 wait:List Cl
 deriving DecidableEq
def Br.e (x:Br):List Dat:=[.int x.pool,.int x.next,.sl (x.act.map Cl.e),.sl (x.wait.map Cl.e)]
def Br.sz (x:Br):Nat:=x.act.length+(x.wait.length)
def Br.bd (x:Br):Prop:=I64 x.pool∧I64 x.next∧BdL Cl.bd x.act∧BdL Cl.bd x.wait
structure Sy where
 br:Br
 slots:List Sl
 round:Int
 deriving DecidableEq
def Sy.e (x:Sy):List Dat:=[.int x.br.pool,.int x.br.next,.sl (x.br.act.map Cl.e),.sl (x.br.wait.map Cl.e),.sl (x.slots.map Sl.e),.int x.round]
def Sy.sz (x:Sy):Nat:=Br.sz x.br+(szL Sl.sz x.slots)
def Sy.bd (x:Sy):Prop:=Br.bd x.br∧BdL Sl.bd x.slots∧I64 x.round
structure Xc where
 pend:List (List Rw)
 que:List (List Rw)
 got:List (List Rw)
 cap:Int
 deriving DecidableEq
def Xc.e (x:Xc):List Dat:=[.sl (x.pend.map rsE),.sl (x.que.map rsE),.sl (x.got.map rsE),.int x.cap]
def Xc.sz (x:Xc):Nat:=szL List.length x.pend+(szL List.length x.que+(szL List.length x.got))
def Xc.bd (x:Xc):Prop:=BdL rsB x.pend∧BdL rsB x.que∧BdL rsB x.got∧I64 x.cap
structure Ck where
 so:So
 em:List Rw
 deriving DecidableEq
def Ck.e (x:Ck):List Dat:=[.sl (x.so.inp.map Rw.e),.int x.so.pos,.sl (x.so.heap.map Rw.e),.sl (x.so.dfd.map Rw.e),.sl (x.so.out.map Rw.e),.sl (x.so.runs.map rsE),.int x.so.lp,.int x.so.rp,.int x.so.ph,.int x.so.wr,.sl (x.em.map Rw.e)]
def Ck.sz (x:Ck):Nat:=So.sz x.so+(x.em.length)
def Ck.bd (x:Ck):Prop:=So.bd x.so∧BdL Rw.bd x.em
theorem ZAv {p p':Rows} (h:p.length=p'.length) (q:Rows) (r:List Dat):inR (p.length:Int) (lenI (p'++r::q))=true:=by rw[h];exact ZBw p' q r
theorem ZCW {p p':Rows} (h:p.length=p'.length) (q:Rows) (r:List Dat):at' (p'++r::q) p.length=r:=by rw[h];exact ZBB p' q r
theorem ZEw {p p':Rows} (h:p.length=p'.length) (q:Rows) (r:List Dat) (c:Nat) (ds:List Dat):updR (p'++r::q) p.length c ds=p'++setRange r c ds::q:=by rw[h];exact ZFj p' q r c ds
theorem Z5L {α:Type} (e:α→List Dat) (l:List α):lenI (l.map e)=(l.length:Int):=by show((l.map e).length:Int)=_;rw[List.length_map]
theorem ZFl (x:Rows):leI 0 (lenI x)=true:=leT (by show(0:Int)≤(x.length:Int);omega)
theorem ZDF {α:Type} {e:α→List Dat} {l l':List α} (h:l.length=l'.length):eqI (lenI (l.map e)) (lenI (l'.map e))=true:=eqT (by rw[Z5L,Z5L,h])
theorem ZDG {α:Type} {e:α→List Dat} {l l':List α} (h:¬l.length=l'.length):eqI (lenI (l.map e)) (lenI (l'.map e))=false:=eqF (by rw[Z5L,Z5L];omega)
theorem ZHE {n:Int} {x:Rows} {m:Nat} (h0:0≤n) (h1:n≤1048576) (hx:x.length=m) (h:m≤1152921504606846976):(bif ltI (w64 (n-lenI x)) 0 then some [Dat.int (-1)]else some [.int (w64 (n-lenI x))])=some [.int (szv n m)]:=by
 have e:lenI x=(m:Int):=by show(x.length:Int)=_;rw[hx]
 rw[e,Z5g ⟨by omega,by omega⟩]
 unfold szv
 by_cases h2:(m:Int)≤n
 ·rw[ltF (by omega),if_pos h2];rfl
 ·rw[ltT (by omega),if_neg h2];rfl
theorem ZHF (a b:ByteArray):eqS a b=decide (a=b):=by
 unfold eqS
 by_cases h:a=b
 ·subst h;simp
 ·rw[decide_eq_false h]
  have:a.toList≠b.toList:=fun hh=>h (by rw[ByteArray.toList_eq,ByteArray.toList_eq]at hh;exact ByteArray.ext (Array.toList_inj.mp hh))
  simpa using this
theorem ZGe (a:ByteArray):eqS a a=true:=by simp[eqS]
set_option maxRecDepth 10000
theorem ZFm (b:Bool):(bif b then some [Dat.bool true]else some [.bool false])=some [.bool b]:=by cases b<;>rfl
theorem Z5l {α:Type} (e:α→List Dat) (l:List α):len (l.map e)=l.length:=by show(l.map e).length=_;simp
theorem ZBe {α:Type} (e:α→List Dat) (l:List α) (a:α):List.append (l.map e) [e a]=(l++[a]).map e:=by simp
theorem Z9s {α:Type} (e:α→List Dat) (l m:List α):List.append (l.map e) (m.map e)=(l++m).map e:=by simp
def win (n a b:Int):Bool:=leI a n&&leI n b
theorem ZA5 (n a b:Int):callI tE Z6G [.int n,.int a,.int b]=some [.bool (win n a b)]:=by
 rw[ZDU];unfold win;cases leI a n<;>rfl
theorem ZAw (n a b:Int):callI tE Z6Z [.int n,.int a,.int b]=some [.bool (win n a b)]:=by
 rw[ZEa];unfold win;cases leI a n<;>rfl
theorem Z8J {n a b:Int}:win n a b=true↔a≤n∧n≤b:=by simp[win,leI]
def Rw.ok (r:Rw):Bool:=win r.k 0 9&&(win r.v 0 99&&win r.w 0 3)
theorem Rw.ok_iff {r:Rw}:r.ok=true↔(0≤r.k∧r.k≤9)∧(0≤r.v∧r.v≤99)∧0≤r.w∧r.w≤3:=by simp[Rw.ok,Z8J]
theorem ZCX (r:Rw):callI tE Z7A [.int r.k,.int r.v,.int r.w]=some [.bool r.ok]:=by
 simp only[ZBY,ZA5,gA]
 unfold Rw.ok
 cases win r.k 0 9<;>cases win r.v 0 99<;>rfl
theorem ZCY (r:Rw):callI tE Z79 [.int r.k,.int r.v,.int r.w]=some [.bool r.ok]:=by
 simp only[ZBX,ZAw,gA]
 unfold Rw.ok
 cases win r.k 0 9<;>cases win r.v 0 99<;>rfl
theorem ZFn (l:List Rw) (h:l.length<4611686018427387904):callI tE Z8S [.sl (l.map Rw.e)]=some [.bool (l.all Rw.ok)]:=by
 rw[ZCN]
 have:=ZAg (l:=l) (L:=Z7w (l.map Rw.e) (lenI (l.map Rw.e))) (p:=Rw.ok) (no:=some [.bool false]) (yes:=some [.bool true]) (by omega) (fun u a v e=>by
  subst e
  rw[Z9L]
  simp only[ZDD,ZDz,Z84,ZDC,cond_true,gA,Rw.e,ZCX,ZGx]) (by rw[Z9L,ZDE,cond_false])
 exact this.trans (ZFm _)
def aok (l:List Rw):Bool:=leI l.length 24&&l.all Rw.ok
theorem ZAX (l:List Rw):callI tE Z68 [.sl (l.map Rw.e)]=some [.bool (aok l)]:=by
 rw[ZAu,Z5L]
 unfold aok
 by_cases h:(l.length:Int)≤24
 ·rw[leT h,ZFn l (by omega)];rfl
 ·rw[leF (by omega)];rfl
theorem ZA6 (l:List Rw) (h:l.length<4611686018427387904):callI tE Z5r [.sl (l.map Rw.e)]=some [.bool (aok l)]:=by
 rw[ZAt]
 have:=ZAg (l:=l) (L:=Z6y (l.map Rw.e)) (p:=Rw.ok) (no:=some [.bool false]) (yes:=some [.bool (leI l.length 24)]) (by omega) (fun u a v e=>by
  subst e
  rw[Z8M]
  simp only[ZDD,ZDz,Z84,ZDC,cond_true,gA,Rw.e,ZCY,ZGx]) (by rw[Z8M,ZDE,cond_false,Z5L])
 refine this.trans ?_
 unfold aok
 cases l.all Rw.ok<;>simp
theorem Z85 {l:List Rw} (h:aok l=true):l.length≤24:=by
 simp only[aok,leI,Bool.and_eq_true,decide_eq_true_eq]at h;omega
theorem ZFo {l:List Rw}:aok l=true↔l.length≤24∧∀r∈l,r.ok=true:=by
 simp only[aok,leI,Bool.and_eq_true,decide_eq_true_eq,List.all_eq_true]
 constructor
 ·rintro ⟨h1,h2⟩;exact⟨by omega,h2⟩
 ·rintro ⟨h1,h2⟩;exact⟨by omega,h2⟩
theorem ZBx (l:List Rw) (h:l.length≤1099511627776):callI tE Z6h [.sl (l.map Rw.e)]=some [.sl (l.map Rw.e)]:=by
 rw[ZE4,Z5l,Z9C (by omega)];rfl
def Rw.cost (r:Rw):Nat:=if r.ok then 1+r.w.toNat else 0
def Z86 (l:List Rw):Nat:=(l.map Rw.cost).sum
theorem ZAJ (r:Rw):r.cost≤4:=by
 unfold Rw.cost
 split
 ·rename_i h;have:=Rw.ok_iff.mp h;omega
 ·omega
theorem ZA7:Z86 []=0:=rfl
theorem ZA8 (a:Rw) (l:List Rw):Z86 (a::l)=a.cost+Z86 l:=by simp[Z86]
theorem ZCZ (l m:List Rw):Z86 (l++m)=Z86 l+Z86 m:=by simp[Z86]
theorem ZBC (l:List Rw):Z86 l≤4*l.length:=by
 induction l with
 |nil=>exact Nat.le_refl _
 |cons a l ih=>have:=ZAJ a;rw[ZA8,List.length_cons];omega
theorem ZEx (r:Rw):(bif !r.ok then some [Dat.int 0]else some [.int (w64 (1+r.w))])=some [.int (r.cost:Nat)]:=by
 unfold Rw.cost
 cases h:r.ok
 ·rfl
 ·have:=Rw.ok_iff.mp h
  rw[Z5g ⟨by omega,by omega⟩]
  simp only[Bool.not_true,cond_false,if_true]
  congr 3;omega
theorem ZAK (r:Rw):callI tE Z5O [.int r.k,.int r.v,.int r.w]=some [.int (r.cost:Nat)]:=by
 simp only[ZD1,ZCX,gA,ZEx]
theorem ZAh (r:Rw):callI tE Z5m [.int r.k,.int r.v,.int r.w]=some [.int (r.cost:Nat)]:=by
 simp only[ZD0,ZCY,gA,ZEx]
theorem ZFp {u:List Rw} {a:Rw} {n:Int} (hu:u.length<1152921504606846976) (h:n=(Z86 u:Nat)):w64 (n+(a.cost:Nat))=((Z86 (u++[a]):Nat):Int):=by
 have h1:=ZBC u
 have h2:=ZAJ a
 subst h
 rw[Z5g ⟨by omega,by omega⟩,ZCZ,ZA8,ZA7];omega
theorem ZDH (l:List Rw) (h:l.length<1152921504606846976):callI tE Z7Q [.sl (l.map Rw.e)]=some [.int (Z86 l:Nat)]:=by
 rw[ZC4]
 have:=Z72 (l:=l) (L:=fun s=>Z70 s (l.map Rw.e) (lenI (l.map Rw.e))) (F:=fun _ _=>some [Dat.int (Z86 l:Nat)]) (I:=fun s u _=>s=(Z86 u:Nat)) (by omega) (fun u a v s e hI=>.inl ⟨(Z86 (u++[a]):Nat),by
  subst e
  have hu:u.length<1152921504606846976:=by simp at h;omega
  show Z70 _ _ _ _=_
  rw[Z97]
  simp only[ZDD,ZDz,Z84,ZDC,cond_true,gA,Rw.e,ZAK,ZFp hu hI],rfl,rfl⟩) (fun s hs=>by rw[Z97,ZDE,cond_false,hs]) 0 rfl
 exact this
theorem ZA9 (l:List Rw) (h:l.length<1152921504606846976):callI tE Z6K [.sl (l.map Rw.e)]=some [.int (Z86 l:Nat)]:=by
 rw[ZC2]
 have:=Z72 (l:=l) (L:=fun s=>Z6z (l.map Rw.e) s) (F:=fun _ _=>some [Dat.int (Z86 l:Nat)]) (I:=fun s u _=>s=(Z86 u:Nat)) (by omega) (fun u a v s e hI=>.inl ⟨(Z86 (u++[a]):Nat),by
  subst e
  have hu:u.length<1152921504606846976:=by simp at h;omega
  show Z6z _ _ _=_
  rw[Z95]
  simp only[ZDD,ZDz,Z84,ZDC,cond_true,gA,Rw.e,ZAh,ZFp hu hI],rfl,rfl⟩) (fun s hs=>by rw[Z95,ZDE,cond_false,hs]) 0 rfl
 exact this
def ord (a b:Int):Int:=if a<b then-1 else if b<a then 1 else 0
def ZFg (a b:Rw):Int:=if ord a.k b.k≠0 then ord a.k b.k else if ord a.v b.v≠0 then ord a.v b.v else ord a.w b.w
theorem ZGf (a b:Int):callI tE Z94 [.int a,.int b]=some [.int (ord a b)]:=by
 rw[ZE3]
 unfold ord
 by_cases h:a<b
 ·rw[ltT h,if_pos h];rfl
 ·rw[ltF (by omega),if_neg h]
  by_cases h2:b<a
  ·rw[ltT h2,if_pos h2];rfl
  ·rw[ltF (by omega),if_neg h2];rfl
theorem ZAi (a b:Rw):callI tE Z5Q [.int a.k,.int a.v,.int a.w,.int b.k,.int b.v,.int b.w]=some [.int (ZFg a b)]:=by
 simp only[ZBA,ZGf,gA,ZGx]
 unfold ZFg
 by_cases h:ord a.k b.k=0
 ·rw[eqT h,if_neg (by simpa using h)]
  by_cases h2:ord a.v b.v=0
  ·rw[eqT h2,if_neg (by simpa using h2)];rfl
  ·rw[eqF h2,if_pos h2];rfl
 ·rw[eqF h,if_pos h];rfl
theorem ZAL (a b:Rw):callI tE Z5f [.int a.k,.int a.v,.int a.w,.int b.k,.int b.v,.int b.w]=some [.int (ZFg a b)]:=by
 have step:∀(i:Nat) (x y:Int) (rest:Option (List Dat)),i<3→gn (at' [[Dat.int a.k],[.int a.v],[.int a.w]] i)=x→gn (at' [[Dat.int b.k],[.int b.v],[.int b.w]] i)=y→Z6J (w64 ((i:Int)+1)) [[.int a.k],[.int a.v],[.int a.w]] [[.int b.k],[.int b.v],[.int b.w]]=rest→
   Z6J (i:Int) [[.int a.k],[.int a.v],[.int a.w]] [[.int b.k],[.int b.v],[.int b.w]]=if ord x y≠0 then some [.int (ord x y)]else rest:=fun i x y rest hi hx hy hr=>by
  rw[Z8V,ltT (by omega),ZDZ (by omega) (show(i:Int)<lenI [[Dat.int a.k],[.int a.v],[.int a.w]]by show(i:Int)<3;omega),ZDZ (by omega) (show(i:Int)<lenI [[Dat.int b.k],[.int b.v],[.int b.w]]by show(i:Int)<3;omega),Z84,hx,hy,hr]
  unfold ord
  by_cases h:x<y
  ·rw[ltT h];simp[h]
  ·rw[ltF (by omega)]
   by_cases h2:y<x
   ·rw[ltT h2];simp[h,h2]
   ·rw[ltF (by omega)];simp[h,h2]
 rw[ZB9]
 have e3:Z6J (w64 (((2:Nat):Int)+1)) [[.int a.k],[.int a.v],[.int a.w]] [[.int b.k],[.int b.v],[.int b.w]]=some [.int 0]:=by
  rw[Z8V];rfl
 have e2:=step 2 a.w b.w _ (by omega) rfl rfl e3
 have e1:=step 1 a.v b.v _ (by omega) rfl rfl e2
 have e0:=step 0 a.k b.k _ (by omega) rfl rfl e1
 refine e0.trans ?_
 unfold ZFg
 by_cases h:ord a.k b.k=0<;>by_cases h2:ord a.v b.v=0<;>by_cases h3:ord a.w b.w=0<;>simp[h,h2,h3]
theorem ZE6 {a b:Int}:ord a b=0↔a=b:=by
 unfold ord
 split
 ·omega
 ·split<;>omega
theorem ZEc {a b:Int}:ord a b<0↔a<b:=by
 unfold ord
 split
 ·omega
 ·split<;>omega
theorem ZEd {a b:Int}:0<ord a b↔b<a:=by
 unfold ord
 split
 ·omega
 ·split<;>omega
def Rw.lt (a b:Rw):Prop:=a.k<b.k∨a.k=b.k∧(a.v<b.v∨a.v=b.v∧a.w<b.w)
instance (a b:Rw):Decidable (Rw.lt a b):=by unfold Rw.lt;infer_instance
theorem ZHG {a b:Rw}:ZFg a b<0↔Rw.lt a b:=by
 unfold ZFg Rw.lt
 by_cases h:ord a.k b.k=0
 ·have:=ZE6.mp h
  rw[if_neg (by simpa using h)]
  by_cases h2:ord a.v b.v=0
  ·have:=ZE6.mp h2
   rw[if_neg (by simpa using h2),ZEc];omega
  ·have h3:=mt ZE6.mpr h2
   rw[if_pos h2,ZEc];omega
 ·have h3:=mt ZE6.mpr h
  rw[if_pos h,ZEc];omega
theorem ZFq {a b:Rw}:0<ZFg a b↔Rw.lt b a:=by
 unfold ZFg Rw.lt
 by_cases h:ord a.k b.k=0
 ·have:=ZE6.mp h
  rw[if_neg (by simpa using h)]
  by_cases h2:ord a.v b.v=0
  ·have:=ZE6.mp h2
   rw[if_neg (by simpa using h2),ZEd];omega
  ·have h3:=mt ZE6.mpr h2
   rw[if_pos h2,ZEd];omega
 ·have h3:=mt ZE6.mpr h
  rw[if_pos h,ZEd];omega
theorem Rw.eq_of {a b:Rw} (h1:a.k=b.k) (h2:a.v=b.v) (h3:a.w=b.w):a=b:=by cases a;cases b;simp_all
theorem Rw.lt_or {a b:Rw}:Rw.lt a b∨a=b∨Rw.lt b a:=by
 unfold Rw.lt
 by_cases h1:a.k=b.k<;>by_cases h2:a.v=b.v<;>by_cases h3:a.w=b.w
 ·exact .inr (.inl (Rw.eq_of h1 h2 h3))
 all_goals omega
theorem Rw.lt_irr (a:Rw):¬Rw.lt a a:=by unfold Rw.lt;omega
theorem Rw.lt_tr {a b c:Rw} (h:Rw.lt a b) (h2:Rw.lt b c):Rw.lt a c:=by unfold Rw.lt at*;omega
def Rw.le (a b:Rw):Prop:=¬Rw.lt b a
instance (a b:Rw):Decidable (Rw.le a b):=by unfold Rw.le;infer_instance
theorem Rw.le_rfl (a:Rw):Rw.le a a:=Rw.lt_irr a
theorem Rw.le_tr {a b c:Rw} (h:Rw.le a b) (h2:Rw.le b c):Rw.le a c:=by
 intro h3
 rcases Rw.lt_or (a:=a) (b:=b)with q|q|q
 ·exact h2 (Rw.lt_tr h3 q)
 ·subst q;exact h2 h3
 ·exact h q
theorem Rw.le_antisymm {a b:Rw} (h:Rw.le a b) (h2:Rw.le b a):a=b:=by
 rcases Rw.lt_or (a:=a) (b:=b)with q|q|q
 ·exact absurd q h2
 ·exact q
 ·exact absurd q h
theorem Rw.le_total (a b:Rw):Rw.le a b∨Rw.le b a:=by
 rcases Rw.lt_or (a:=a) (b:=b)with q|q|q
 ·exact .inl fun h=>Rw.lt_irr a (Rw.lt_tr q h)
 ·subst q;exact .inl (Rw.le_rfl a)
 ·exact .inr fun h=>Rw.lt_irr a (Rw.lt_tr h q)
theorem Rw.lt_le {a b:Rw} (h:Rw.lt a b):Rw.le a b:=fun h2=>Rw.lt_irr a (Rw.lt_tr h h2)
theorem Z9Y (a b:Rw):ltI (ZFg a b) 0=decide (Rw.lt a b):=by
 simp only[ltI,ZHG]
theorem ZEy (a b:Rw):ltI 0 (ZFg a b)=decide (Rw.lt b a):=by
 simp only[ltI,ZFq]
theorem ZDa (a b:Rw):leI (ZFg a b) 0=decide (Rw.le a b):=by
 have:=ZFq (a:=a) (b:=b)
 simp only[leI,Rw.le]
 congr 1
 exact propext ⟨fun h h2=>by have:=this.mpr h2;omega,fun h=>by have:=mt this.mp h;omega⟩
theorem ZFr (a b:Rw):(eqI a.k b.k&&(eqI a.v b.v&&(eqI a.w b.w&&Bool.true)))=decide (a=b):=by
 have e:decide (a=b)=(decide (a.k=b.k)&&(decide (a.v=b.v)&&decide (a.w=b.w))):=by
  cases a;cases b
  simp only[Rw.mk.injEq,Bool.decide_and]
 simp only[e,eqI,Bool.and_true]
theorem ZEz (l l':List Rw) (h:l.length≤1152921504606846976):callI tE Z7h [.sl (l.map Rw.e),.sl (l'.map Rw.e)]=some [.bool (decide (l=l'))]:=by
 rw[ZE2]
 by_cases hll:l.length=l'.length
 ·rw[ZDF hll,Bool.not_true,cond_false]
  have:=ZBd (L:=fun x y i=>Z93 x y (lenI x) i) (e:=Rw.e) (P:=fun _=>True) (fun p q p' q' a b _ hpl hlt=>by
   rw[ZA3]
   simp only[ZCT,ZBw,Z84,ZBB,cond_true,cond_false,gA,ZAv hpl,ZCW hpl,Rw.e,ZFr,ZGx]) (fun p p' hpl=>by
   rw[ZA3,ZCU,cond_false]) l l' [] [] rfl hll (fun a ha=>trivial) (by simp;omega)
  simpa using this
 ·rw[ZDG hll,Bool.not_false,cond_true,decide_eq_false (fun e=>hll (by rw[e]))]
theorem ZFs (l l':List Rw) (h:l.length≤1152921504606846976):callI tE Z7l [.sl (l.map Rw.e),.sl (l'.map Rw.e)]=some [.bool (decide (l=l'))]:=by
 rw[ZDS]
 by_cases hll:l.length=l'.length
 ·rw[ZDF hll,Bool.not_true,cond_false]
  have:=ZBd (L:=Z8W) (e:=Rw.e) (P:=fun _=>True) (fun p q p' q' a b _ hpl hlt=>by
   rw[Z9m]
   simp only[ZCT,ZBw,Z84,ZBB,cond_true,cond_false,gA,ZAv hpl,ZCW hpl,Rw.e,ZFr,ZGx]) (fun p p' hpl=>by
   rw[Z9m,ZCU,cond_false]) l l' [] [] rfl hll (fun a ha=>trivial) (by simp;omega)
  simpa using this
 ·rw[ZDG hll,Bool.not_false,cond_true,decide_eq_false (fun e=>hll (by rw[e]))]
theorem ZIT (r:Rw):[Dat.int r.k,.int r.v,.int r.w]=r.e:=rfl
theorem ZHt (u v:List Rw) (a d:Rw):updR ((u++a::v).map Rw.e) u.length 0 d.e=(u++d::v).map Rw.e:=by
 rw[ZIS]
 have:setRange (Rw.e a) 0 d.e=d.e:=rfl
 rw[this]
 simp
theorem gk (r:Rw):gn r.e=r.k:=rfl
theorem gv (r:Rw):gn (tk 1 r.e)=r.v:=rfl
theorem gw (r:Rw):gn (tk 2 r.e)=r.w:=rfl
theorem ZCa {α:Type} {e:α→List Dat} {l u v:List α} {a:α} {i:Nat} (h:l=u++a::v) (hi:u.length=i):at' (l.map e) i=e a:=by rw[h,←hi];exact ZDC u v a
theorem ZAY {α:Type} {e:α→List Dat} {l:List α} {i:Nat} (hi:i<l.length):inR (i:Int) (lenI (l.map e))=true:=ZDZ (by omega) (by rw[Z5L];omega)
theorem ZFV {l u v:List Rw} {a d:Rw} {i:Nat} (h:l=u++a::v) (hi:u.length=i):updR (l.map Rw.e) i 0 [.int d.k,.int d.v,.int d.w]=(u++d::v).map Rw.e:=by rw[h,←hi];exact ZHt u v a d
theorem ZFt {l p q s:List Rw} {a b:Rw} {i j:Nat} (h:l=p++a::(q++b::s)) (hi:p.length=i) (hj:p.length+1+q.length=j) (hl:l.length<4611686018427387904) {X:Option (List Dat)} {K:Rows→Option (List Dat)} (hK:K ((p++b::(q++a::s)).map Rw.e)=X):
  (bif inR (j:Int) (lenI (l.map Rw.e))then(bif inR (i:Int) (lenI (l.map Rw.e))then(bif inR (i:Int) (lenI (l.map Rw.e))then
   (bif inR (j:Int) (lenI (updR (l.map Rw.e) (tn (i:Int)) 0 [.int (gn (at' (l.map Rw.e) (tn (j:Int)))),.int (gn (tk 1 (at' (l.map Rw.e) (tn (j:Int))))),.int (gn (tk 2 (at' (l.map Rw.e) (tn (j:Int)))))]))then
    K (updR (updR (l.map Rw.e) (tn (i:Int)) 0 [.int (gn (at' (l.map Rw.e) (tn (j:Int)))),.int (gn (tk 1 (at' (l.map Rw.e) (tn (j:Int))))),.int (gn (tk 2 (at' (l.map Rw.e) (tn (j:Int)))))]) (tn (j:Int)) 0 [.int (gn (at' (l.map Rw.e) (tn (i:Int)))),.int (gn (tk 1 (at' (l.map Rw.e) (tn (i:Int))))),.int (gn (tk 2 (at' (l.map Rw.e) (tn (i:Int)))))])
    else none)else none)else none)else none)=X:=by
 have hb:at' (l.map Rw.e) j=b.e:=ZCa (u:=p++a::q) (v:=s) (by rw[h];simp) (by simp;omega)
 have ha:at' (l.map Rw.e) i=a.e:=ZCa h hi
 have hlen:l.length=p.length+1+q.length+1+s.length:=by rw[h];simp;omega
 have h1:updR (l.map Rw.e) i 0 [.int b.k,.int b.v,.int b.w]=(p++b::(q++b::s)).map Rw.e:=ZFV h hi
 have h2:updR ((p++b::(q++b::s)).map Rw.e) j 0 [.int a.k,.int a.v,.int a.w]=(p++b::(q++a::s)).map Rw.e:=by
  rw[ZFV (u:=p++b::q) (v:=s) (a:=b) (by simp) (by simp;omega)]
  simp
 simp only[Z84,hb,ha,gk,gv,gw,h1,h2]
 rw[ZAY (by omega),ZAY (by omega),ZAY (by simp;omega)]
 exact hK
theorem ZBy:∀(u2 v2:List Rw) (p u1 q v1 s:List Rw),u2.length=v2.length→u1.length=v1.length→(p++(v1++(u2++(q++(u1++(v2++s)))))).length<4611686018427387904→
  Z5c (p.length:Nat) ((p.length+v1.length+u2.length+q.length:Nat):Int) ((v1.length+u2.length:Nat):Int) (v1.length:Nat) ((p++(v1++(u2++(q++(u1++(v2++s)))))).map Rw.e)=
   some [.sl ((p++(v1++(v2++(q++(u1++(u2++s)))))).map Rw.e)]
 |[],[],p,u1,q,v1,s,_,_,_=>by
  rw[Z6p,ltF (by simp),cond_false]
 |[],_::_,_,_,_,_,_,h,_,_=>by simp at h
 |_::_,[],_,_,_,_,_,h,_,_=>by simp at h
 |c::u2,d::v2,p,u1,q,v1,s,h,h2,hl=>by
  have hl':=hl
  simp only[List.length_append,List.length_cons]at hl' h
  rw[Z6p,ltT (by simp only[List.length_cons];omega),cond_true]
  rw[show w64 ((p.length:Int)+(v1.length:Nat))=((p.length+v1.length:Nat):Int)by rw[Z5g ⟨by omega,by omega⟩];omega]
  rw[show w64 (((p.length+v1.length+(c::u2).length+q.length:Nat):Int)+(v1.length:Nat))=((p.length+v1.length+(c::u2).length+q.length+v1.length:Nat):Int)by simp only[List.length_cons];rw[Z5g ⟨by omega,by omega⟩];omega]
  refine ZFt (l:=p++(v1++(c::u2++(q++(u1++(d::v2++s)))))) (p:=p++v1) (q:=u2++(q++u1)) (s:=v2++s) (a:=c) (b:=d) (by simp) (by simp) (by simp;omega) hl
   (K:=fun X=>Z5c (p.length:Nat) ((p.length+v1.length+(c::u2).length+q.length:Nat):Int) ((v1.length+(c::u2).length:Nat):Int) (w64 ((v1.length:Nat)+1)) X) ?_
  have ih:=ZBy u2 v2 p (u1++[c]) q (v1++[d]) s (by omega) (by simp[h2]) (by simp only[List.length_append,List.length_cons,List.length_nil];omega)
  show Z5c _ _ _ _ _=_
  rw[Z7k (by omega)]
  have e1:(p++v1++d::(u2++(q++u1)++c::(v2++s)))=(p++(v1++[d]++(u2++(q++(u1++[c]++(v2++s)))))):=by simp
  have e2:(p++(v1++(d::v2++(q++(u1++(c::u2++s))))))=(p++(v1++[d]++(v2++(q++(u1++[c]++(u2++s)))))):=by simp
  rw[e1,e2,←ih]
  congr 1<;>simp only[List.length_append,List.length_cons,List.length_nil]<;>omega
theorem ZCb (p u q v s:List Rw) (h:u.length=v.length) (hl:(p++(u++(q++(v++s)))).length<4611686018427387904) {a b n:Int} (ha:a=(p.length:Nat)) (hb:b=((p.length+u.length+q.length:Nat):Int)) (hn:n=(u.length:Nat)):
  callI tE Z5h [.sl ((p++(u++(q++(v++s)))).map Rw.e),.int a,.int b,.int n]=some [.sl ((p++(v++(q++(u++s)))).map Rw.e)]:=by
 rw[Z9G,ha,hb,hn]
 have:=ZBy u v p [] q [] s h rfl (by simpa using hl)
 simp only[List.nil_append,List.length_nil,Nat.add_zero,Nat.zero_add]at this
 exact this
theorem ZFu:∀(n:Nat) (u v p s:List Rw) (a m b:Int) (m0:Nat),u.length+v.length≤n→0<u.length→0<v.length→(p++(u++(v++s))).length<1152921504606846976→m0=p.length+u.length→m=(m0:Nat)→
  Z5o a m b (u.length:Nat) (v.length:Nat) ((p++(u++(v++s))).map Rw.e)=some [.sl ((p++(v++(u++s))).map Rw.e)]:=by
 intro n
 induction n with
 |zero=>intro u v p s a m b m0 h h1 h2;omega
 |succ n ih=>
  intro u v p s a m b m0 h h1 h2 hl hm0 hm
  have hl':=hl
  simp only[List.length_append]at hl'
  rw[Z8u,hm]
  have e0:w64 ((m0:Int)-(u.length:Nat))=(p.length:Nat):=by rw[Z5g ⟨by omega,by omega⟩];omega
  by_cases he:u.length=v.length
  ·have:=ZCb p u [] v s he (by simp only[List.length_append,List.length_nil];omega) (a:=(p.length:Nat)) (b:=(m0:Nat)) (n:=(u.length:Nat)) rfl (by simp only[List.length_nil];omega) rfl
   simp only[List.nil_append]at this
   rw[eqT (by omega),Bool.not_true,cond_false,e0,this]
   rfl
  ·rw[eqF (by omega),Bool.not_false,cond_true]
   by_cases hlt:v.length<u.length
   ·rw[ltT (by omega),cond_true,e0]
    obtain⟨u1,u2,rfl,hu1⟩:∃u1 u2,u=u1++u2∧u1.length=v.length:=⟨u.take v.length,u.drop v.length,(List.take_append_drop _ _).symm,by simp;omega⟩
    simp only[List.length_append]at*
    have:=ZCb p u1 u2 v s hu1 (by simp only[List.length_append];omega) (a:=(p.length:Nat)) (b:=(m0:Nat)) (n:=(v.length:Nat)) rfl (by omega) (by omega)
    rw[show p++(u1++u2++(v++s))=p++(u1++(u2++(v++s)))by simp,this]
    simp only[gA]
    rw[show w64 (((u1.length+u2.length:Nat):Int)-(v.length:Nat))=(u2.length:Nat)by rw[Z5g ⟨by omega,by omega⟩];omega]
    have:=ih u2 u1 (p++v) s a m b m0 (by omega) (by omega) (by omega) (by simp only[List.length_append];omega) (by simp only[List.length_append];omega) hm
    rw[hm,hu1]at this
    rw[show p++(v++(u2++(u1++s)))=p++v++(u2++(u1++s))by simp,this]
    simp
   ·rw[ltF (by omega),cond_false,e0]
    obtain⟨v1,v2,rfl,hv2⟩:∃v1 v2,v=v1++v2∧v2.length=u.length:=⟨v.take (v.length-u.length),v.drop (v.length-u.length),(List.take_append_drop _ _).symm,by simp;omega⟩
    simp only[List.length_append]at*
    have e1:w64 (w64 ((m0:Int)+((v1.length+v2.length:Nat):Int))-(u.length:Nat))=((p.length+u.length+v1.length:Nat):Int):=by
     rw[Z5g (n:=(m0:Int)+((v1.length+v2.length:Nat):Int)) ⟨by omega,by omega⟩,Z5g ⟨by omega,by omega⟩];omega
    have:=ZCb p u v1 v2 s hv2.symm (by simp only[List.length_append];omega) (a:=(p.length:Nat)) (b:=((p.length+u.length+v1.length:Nat):Int)) (n:=(u.length:Nat)) rfl rfl rfl
    rw[e1,show p++(u++(v1++v2++s))=p++(u++(v1++(v2++s)))by simp,this]
    simp only[gA]
    rw[show w64 (((v1.length+v2.length:Nat):Int)-(u.length:Nat))=(v1.length:Nat)by rw[Z5g ⟨by omega,by omega⟩];omega]
    have:=ih v2 v1 p (u++s) a m b m0 (by omega) (by omega) (by omega) (by simp only[List.length_append];omega) (by omega) hm
    rw[hm,hv2]at this
    rw[this]
    simp
theorem ZHu (p u v s:List Rw) (h1:0<u.length) (h2:0<v.length) (hl:(p++(u++(v++s))).length<1152921504606846976) {a m b:Int} (ha:a=(p.length:Nat)) (hm:m=((p.length+u.length:Nat):Int)) (hb:b=((p.length+u.length+v.length:Nat):Int)):
  callI tE Z5z [.sl ((p++(u++(v++s))).map Rw.e),.int a,.int m,.int b]=some [.sl ((p++(v++(u++s))).map Rw.e)]:=by
 have hl':=hl
 simp only[List.length_append]at hl'
 rw[Z9j,show w64 (m-a)=(u.length:Nat)by rw[ha,hm,Z5g ⟨by omega,by omega⟩];omega,show w64 (b-m)=(v.length:Nat)by rw[hb,hm,Z5g ⟨by omega,by omega⟩];omega]
 exact ZFu _ u v p s a m b _ (Nat.le_refl _) h1 h2 hl rfl hm
theorem ZGg {l p s:List Rw} {a b:Rw} {i j:Nat} (h:l=p++a::b::s) (hi:p.length=i) (hj:j=i+1) (hl:l.length<4611686018427387904) {X:Option (List Dat)} {K:Rows→Option (List Dat)} (hK:K ((p++b::a::s).map Rw.e)=X):
  (bif inR (i:Int) (lenI (l.map Rw.e))then(bif inR (j:Int) (lenI (l.map Rw.e))then(bif inR (j:Int) (lenI (l.map Rw.e))then
   (bif inR (i:Int) (lenI (updR (l.map Rw.e) (tn (j:Int)) 0 [.int (gn (at' (l.map Rw.e) (tn (i:Int)))),.int (gn (tk 1 (at' (l.map Rw.e) (tn (i:Int))))),.int (gn (tk 2 (at' (l.map Rw.e) (tn (i:Int)))))]))then
    K (updR (updR (l.map Rw.e) (tn (j:Int)) 0 [.int (gn (at' (l.map Rw.e) (tn (i:Int)))),.int (gn (tk 1 (at' (l.map Rw.e) (tn (i:Int))))),.int (gn (tk 2 (at' (l.map Rw.e) (tn (i:Int)))))]) (tn (i:Int)) 0 [.int (gn (at' (l.map Rw.e) (tn (j:Int)))),.int (gn (tk 1 (at' (l.map Rw.e) (tn (j:Int))))),.int (gn (tk 2 (at' (l.map Rw.e) (tn (j:Int)))))])
    else none)else none)else none)else none)=X:=by
 have hb:at' (l.map Rw.e) j=b.e:=ZCa (u:=p++[a]) (v:=s) (by rw[h];simp) (by simp;omega)
 have ha:at' (l.map Rw.e) i=a.e:=ZCa h hi
 have hlen:l.length=p.length+1+1+s.length:=by rw[h];simp;omega
 have h1:updR (l.map Rw.e) j 0 [.int a.k,.int a.v,.int a.w]=(p++a::a::s).map Rw.e:=by
  rw[ZFV (u:=p++[a]) (v:=s) (a:=b) (by rw[h];simp) (by simp;omega)]
  simp
 have h2:updR ((p++a::a::s).map Rw.e) i 0 [.int b.k,.int b.v,.int b.w]=(p++b::a::s).map Rw.e:=ZFV rfl hi
 simp only[Z84,hb,ha,gk,gv,gw,h1,h2]
 rw[ZAY (by omega),ZAY (by omega),ZAY (by simp;omega)]
 exact hK
theorem ZCc (i j:Nat) (h:i+j<4611686018427387904):w64 ((Go.IntKind.wrap .u64 (w64 ((i:Int)+(j:Int))))/(Int.pow 2 (ite ((tn 1)≤(Go.IntKind.bits .u64)) (tn 1) 64)))=(((i+j)/2:Nat):Int):=by
 have e1:(Int.pow 2 (ite ((tn 1)≤(Go.IntKind.bits .u64)) (tn 1) 64))=2:=rfl
 have e2:Go.IntKind.wrap .u64 ((i:Int)+(j:Int))=(i:Int)+(j:Int):=by
  have e:(2:Int)^64=18446744073709551616:=by decide
  simp only[IntKind.wrap,IntKind.signed,IntKind.bits,Bool.false_and,Bool.false_eq_true,if_false,e]
  omega
 rw[e1,Z5g (n:=(i:Int)+(j:Int)) ⟨by omega,by omega⟩,e2,Z5g ⟨by omega,by omega⟩]
 omega
abbrev Srt (l:List Rw):Prop:=l.Pairwise Rw.le
theorem Z7y:∀{l l':List Rw},l.Perm l'→Srt l→Srt l'→l=l'
 |[],l',h,_,_=>by have:=h.length_eq;exact(List.length_eq_zero_iff.mp (by simpa using this.symm)).symm
 |a::l,[],h,_,_=>by have:=h.length_eq;simp at this
 |a::l,b::l',h,s,s'=>by
  have hab:a=b:=by
   have h1:b∈a::l:=h.mem_iff.mpr (by simp)
   have h2:a∈b::l':=h.mem_iff.mp (by simp)
   rcases List.mem_cons.mp h1 with h1|h1
   ·exact h1.symm
   ·rcases List.mem_cons.mp h2 with h2|h2
    ·exact h2
    ·exact Rw.le_antisymm ((List.pairwise_cons.mp s).1 b h1) ((List.pairwise_cons.mp s').1 a h2)
  subst hab
  rw[Z7y (h.cons_inv) (List.pairwise_cons.mp s).2 (List.pairwise_cons.mp s').2]
theorem bs {β:Type} {L:Nat→Nat→β} {K:Nat→β} {t lo hi:Nat} (hs:∀i j,lo≤i→i<j→j≤hi→L i j=if(i+j)/2<t then L ((i+j)/2+1) j else L i ((i+j)/2)) (he:∀i,lo≤i→i≤hi→L i i=K i):
  ∀(n i j:Nat),j-i≤n→lo≤i→i≤t→t≤j→j≤hi→L i j=K t:=by
 intro n
 induction n with
 |zero=>
  intro i j h h1 h2 h3 h4
  have e1:i=t:=by omega
  have e2:j=t:=by omega
  rw[e1,e2]
  exact he t (by omega) (by omega)
 |succ n ih=>
  intro i j h h1 h2 h3 h4
  by_cases hij:i<j
  ·rw[hs i j h1 hij h4]
   split
   ·exact ih _ _ (by omega) (by omega) (by omega) h3 h4
   ·exact ih _ _ (by omega) h1 h2 (by omega) (by omega)
  ·have e1:i=t:=by omega
   have e2:j=t:=by omega
   rw[e1,e2]
   exact he t (by omega) (by omega)
theorem ZCH (P:Nat→Prop) [DecidablePred P] (lo:Nat):∀(n:Nat),(∀c d,lo≤c→c≤d→d<lo+n→P d→P c)→∃t,lo≤t∧t≤lo+n∧∀c,lo≤c→c<lo+n→(P c↔c<t)
 |0,_=>⟨lo,Nat.le_refl _,Nat.le_refl _,fun c h1 h2=>by omega⟩
 |n+1,hm=>by
  obtain⟨t,h1,h2,h3⟩:=ZCH P lo n (fun c d a b e=>hm c d a b (by omega))
  by_cases hp:P (lo+n)
  ·refine⟨lo+n+1,by omega,by omega,fun c a b=>⟨fun _=>by omega,fun _=>hm c (lo+n) a (by omega) (by omega) hp⟩⟩
  ·refine⟨t,h1,by omega,fun c a b=>?_⟩
   by_cases hc:c<lo+n
   ·exact h3 c a hc
   ·have:c=lo+n:=by omega
    subst this
    exact⟨fun h=>absurd h hp,fun h=>by omega⟩
def nth (x:List Rw) (i:Nat):Rw:=x.getD i ⟨0,0,0⟩
theorem ZF0 {x:List Rw} {i:Nat} (h:i<x.length):at' (x.map Rw.e) i=(nth x i).e:=by
 obtain⟨u,a,v,rfl,rfl⟩:∃u a v,x=u++a::v∧u.length=i:=⟨x.take i,x[i],x.drop (i+1),by
  have:=List.take_append_drop i x
  rw[List.drop_eq_getElem_cons h]at this
  exact this.symm,by simp;omega⟩
 rw[ZDC]
 simp[nth,List.getD_eq_getElem?_getD]
theorem Z7d (u v:List Rw) {i:Nat} (h:i<u.length):nth (u++v) i=nth u i:=by
 simp[nth,List.getD_eq_getElem?_getD,List.getElem?_append_left h]
theorem Z6M (u v:List Rw) {i:Nat} (h:u.length≤i):nth (u++v) i=nth v (i-u.length):=by
 simp[nth,List.getD_eq_getElem?_getD,List.getElem?_append_right h]
theorem ZAZ {u:List Rw} {a:Rw} (h:a∈u):∃i,i<u.length∧nth u i=a:=by
 obtain⟨i,hi⟩:=List.getElem?_of_mem h
 obtain⟨h1,h2⟩:=List.getElem?_eq_some_iff.mp hi
 exact⟨i,h1,by simp[nth,List.getD_eq_getElem?_getD,hi]⟩
theorem ZCd {u:List Rw} (h:Srt u) {i j:Nat} (hij:i≤j) (hj:j<u.length):Rw.le (nth u i) (nth u j):=by
 by_cases e:i=j
 ·subst e;exact Rw.le_rfl _
 ·have:=List.pairwise_iff_getElem.mp h i j (by omega) hj (by omega)
  simpa[nth,List.getD_eq_getElem?_getD,hj,show i<u.length by omega]using this
theorem ZCe {u:List Rw} {t:Nat} (h:t≤u.length):∃u1 u2,u=u1++u2∧u1.length=t:=⟨u.take t,u.drop t,(List.take_append_drop _ _).symm,by simp;omega⟩
theorem ZE7 {x:List Rw} {i j:Nat} (hi:i<x.length) (hj:j<x.length) {X:Option (List Dat)} {K:List Dat→Option (List Dat)} (h:K [.int (ZFg (nth x i) (nth x j))]=X):
  (callI tE Z5Q [.int (gn (at' (x.map Rw.e) (tn (i:Int)))),.int (gn (tk 1 (at' (x.map Rw.e) (tn (i:Int))))),.int (gn (tk 2 (at' (x.map Rw.e) (tn (i:Int))))),.int (gn (at' (x.map Rw.e) (tn (j:Int)))),.int (gn (tk 1 (at' (x.map Rw.e) (tn (j:Int))))),.int (gn (tk 2 (at' (x.map Rw.e) (tn (j:Int)))))]).bind K=X:=by
 simp only[Z84,ZF0 hi,ZF0 hj,gk,gv,gw]
 rw[ZAi]
 exact h
theorem ZAx (a b:Nat) (h:a+b<9223372036854775807):w64 ((a:Int)+(b:Int))=((a+b:Nat):Int):=by rw[Z5g ⟨by omega,by omega⟩];omega
theorem Z9y {a b:Nat} (h:b≤a) (h2:a<9223372036854775807):w64 ((a:Int)-(b:Int))=((a-b:Nat):Int):=by rw[Z5g ⟨by omega,by omega⟩];omega
theorem Z9t {a:Nat} (h:1≤a) (h2:a<9223372036854775807):w64 ((a:Int)-1)=((a-1:Nat):Int):=by rw[Z5g ⟨by omega,by omega⟩];omega
theorem ZHv (a m b:Int):∀(v:List Rw) (c:Rw) (p s:List Rw) (k t:Nat),(p++c::(v++s)).length<1152921504606846976→k=p.length→t=p.length+1+v.length→
  Z5T a m b (t:Nat) (k:Nat) ((p++c::(v++s)).map Rw.e)=some [.sl ((p++(v++c::s)).map Rw.e)]
 |[],c,p,s,k,t,hl,hk,ht=>by
  simp only[List.length_nil,List.length_append,List.length_cons]at ht hl
  rw[Z6w,Z9t (by omega) (by omega),ltF (by omega),cond_false]
  rfl
 |d::v,c,p,s,k,t,hl,hk,ht=>by
  have hl':=hl
  simp only[List.length_append,List.length_cons]at hl' ht
  rw[Z6w,Z9t (by omega) (by omega),ltT (by omega),cond_true,Z7k (by omega)]
  refine ZFt (l:=p++c::(d::v++s)) (p:=p) (q:=[]) (s:=v++s) (a:=c) (b:=d) (by simp) hk.symm (by simp;omega) (by omega) (K:=fun X=>Z5T a m b (t:Nat) ((k+1:Nat):Int) X) ?_
  have ih:=ZHv a m b v c (p++[d]) s (k+1) t (by simp only[List.length_append,List.length_cons,List.length_nil];omega) (by simp;omega) (by simp;omega)
  show Z5T _ _ _ _ _ _=_
  rw[show p++d::([]++c::(v++s))=p++[d]++c::(v++s)by simp,ih]
  simp
theorem ZHH (a m b:Int):∀(n:Nat) (u:List Rw) (c:Rw) (p s:List Rw) (k t:Nat),u.length=n→(p++(u++c::s)).length<1152921504606846976→k=p.length+u.length→t=p.length→
  Z5U a m b (t:Nat) (k:Nat) ((p++(u++c::s)).map Rw.e)=some [.sl ((p++c::(u++s)).map Rw.e)]:=by
 intro n
 induction n with
 |zero=>
  intro u c p s k t hn hl hk ht
  have:u=[]:=List.length_eq_zero_iff.mp hn
  subst this
  simp only[List.length_nil]at hk
  rw[Z6x,ltF (by omega),cond_false]
  rfl
 |succ n ih=>
  intro u c p s k t hn hl hk ht
  obtain⟨u',d,rfl⟩:∃u' d,u=u'++[d]:=by
   obtain⟨l',x,e⟩:=snoc_of (n:=n) (l:=u) hn
   exact⟨l',x,e⟩
  simp only[List.length_append,List.length_cons,List.length_nil]at hl hk hn
  rw[Z6x,ltT (by omega),cond_true,Z9t (by omega) (by omega)]
  refine ZGg (l:=p++(u'++[d]++c::s)) (p:=p++u') (s:=s) (a:=d) (b:=c) (by simp) (by simp;omega) (by omega) (by simp only[List.length_append,List.length_cons,List.length_nil];omega) (K:=fun X=>Z5U a m b (t:Nat) ((k-1:Nat):Int) X) ?_
  have:=ih u' c p (d::s) (k-1) t (by omega) (by simp only[List.length_append,List.length_cons];omega) (by omega) ht
  show Z5U _ _ _ _ _ _=_
  rw[show p++u'++c::d::s=p++(u'++c::(d::s))by simp,this]
  simp
def Mg (u v w:List Rw):Prop:=w.Perm (u++v)∧Srt w
theorem Rw.le_lt {a b c:Rw} (h:Rw.le a b) (h2:Rw.lt b c):Rw.lt a c:=by unfold Rw.le Rw.lt at*;omega
theorem ZHw (c:Rw) (v p s:List Rw) (hv:Srt v) (hl:(p++(c::(v++s))).length<1152921504606846976) {a m b:Nat} (ha:a=p.length) (hm:m=a+1) (hb:b=m+v.length):
  ∃w,Mg [c] v w∧Z5R (a:Nat) (m:Nat) (b:Nat) (m:Nat) (b:Nat) ((p++c::(v++s)).map Rw.e)=some [.sl ((p++(w++s)).map Rw.e)]:=by
 have hl':=hl
 simp only[List.length_append,List.length_cons]at hl'
 have hxv:∀k,k<v.length→nth (p++c::(v++s)) (m+k)=nth v k:=fun k hk=>by
  rw[show p++c::(v++s)=(p++[c])++(v++s)by simp,Z6M _ _ (by simp;omega),Z7d _ _ (by simp;omega)]
  congr 1
  simp;omega
 have hxa:nth (p++c::(v++s)) a=c:=by rw[Z6M _ _ (by omega),ha];simp[nth]
 have hxl:(p++c::(v++s)).length=p.length+1+v.length+s.length:=by simp;omega
 obtain⟨t,t1,t2,t3⟩:=ZCH (fun h=>Rw.lt (nth (p++c::(v++s)) h) c) m v.length (fun i j h1 h2 h3 h4=>by
  have e1:=hxv (i-m) (by omega)
  have e2:=hxv (j-m) (by omega)
  rw[show m+(i-m)=i by omega]at e1
  rw[show m+(j-m)=j by omega]at e2
  rw[e1]
  rw[e2]at h4
  exact Rw.le_lt (ZCd hv (by omega) (by omega)) h4)
 have hb2:=bs (L:=fun i j:Nat=>Z5R (a:Nat) (m:Nat) (b:Nat) (i:Nat) (j:Nat) ((p++c::(v++s)).map Rw.e)) (K:=fun t:Nat=>Z5T (a:Nat) (m:Nat) (b:Nat) (t:Nat) (a:Nat) ((p++c::(v++s)).map Rw.e)) (t:=t) (lo:=m) (hi:=b)
  (fun i j h1 h2 h3=>by
   show Z5R _ _ _ _ _ _=_
   rw[Z6t,ltT (by omega),cond_true,ZCc i j (by omega),ZAY (by omega),ZAY (by omega),cond_true,cond_true]
   refine ZE7 (by omega) (by omega) ?_
   rw[ZHm,Z9Y,hxa]
   have:=t3 ((i+j)/2) (by omega) (by omega)
   by_cases hc:(i+j)/2<t
   ·rw[if_pos hc,decide_eq_true (this.mpr hc),cond_true,Z7k (by omega)]
   ·rw[if_neg hc,decide_eq_false (fun h=>hc (this.mp h)),cond_false])
  (fun i h1 h2=>by
   show Z5R _ _ _ _ _ _=_
   rw[Z6t,ltF (Int.le_refl _),cond_false])
  (b-m) m b (Nat.le_refl _) (Nat.le_refl _) t1 (by omega) (Nat.le_refl _)
 obtain⟨v1,v2,rfl,hv1⟩:=ZCe (u:=v) (t:=t-m) (by omega)
 refine⟨v1++c::v2,⟨List.perm_middle,?_⟩,?_⟩
 ·obtain⟨s1,s2,s3⟩:=List.pairwise_append.mp hv
  simp only[List.length_append]at*
  refine List.pairwise_append.mpr ⟨s1,List.pairwise_cons.mpr ⟨fun y hy=>?_,s2⟩,fun x hx y hy=>?_⟩
  ·obtain⟨k,hk,rfl⟩:=ZAZ hy
   have h1:=hxv (v1.length+k) (by omega)
   rw[Z6M v1 v2 (by omega),show v1.length+k-v1.length=k by omega]at h1
   have h2:=t3 (m+(v1.length+k)) (by omega) (by omega)
   rw[h1]at h2
   exact fun h=>by have:=h2.mp h;omega
  ·rcases List.mem_cons.mp hy with rfl|hy
   ·obtain⟨k,hk,rfl⟩:=ZAZ hx
    have h1:=hxv k (by omega)
    rw[Z7d v1 v2 hk]at h1
    have h2:=t3 (m+k) (by omega) (by omega)
    rw[h1]at h2
    exact Rw.lt_le (h2.mpr (by omega))
   ·exact s3 x hx y hy
 ·refine hb2.trans ?_
  show Z5T _ _ _ _ _ _=_
  simp only[List.length_append]at*
  rw[show p++c::(v1++v2++s)=p++c::(v1++(v2++s))by simp,ZHv _ _ _ v1 c p (v2++s) a t (by simp only[List.length_append,List.length_cons];omega) ha (by omega)]
  simp
theorem ZHx (c:Rw) (u p s:List Rw) (hu:Srt u) (hl:(p++(u++c::s)).length<1152921504606846976) {a m b:Nat} (ha:a=p.length) (hm:m=a+u.length) (hb:b=m+1):
  ∃w,Mg u [c] w∧Z5S (a:Nat) (m:Nat) (b:Nat) (a:Nat) (m:Nat) ((p++(u++c::s)).map Rw.e)=some [.sl ((p++(w++s)).map Rw.e)]:=by
 have hl':=hl
 simp only[List.length_append,List.length_cons]at hl'
 have hxu:∀k,k<u.length→nth (p++(u++c::s)) (a+k)=nth u k:=fun k hk=>by
  rw[Z6M _ _ (by omega),Z7d _ _ (by omega)]
  congr 1
  omega
 have hxm:nth (p++(u++c::s)) m=c:=by rw[Z6M _ _ (by omega),Z6M _ _ (by omega),show m-p.length-u.length=0 by omega];simp[nth]
 have hxl:(p++(u++c::s)).length=p.length+u.length+1+s.length:=by simp;omega
 obtain⟨t,t1,t2,t3⟩:=ZCH (fun h=>Rw.le (nth (p++(u++c::s)) h) c) a u.length (fun i j h1 h2 h3 h4=>by
  have e1:=hxu (i-a) (by omega)
  have e2:=hxu (j-a) (by omega)
  rw[show a+(i-a)=i by omega]at e1
  rw[show a+(j-a)=j by omega]at e2
  rw[e1]
  rw[e2]at h4
  exact Rw.le_tr (ZCd hu (by omega) (by omega)) h4)
 have hb2:=bs (L:=fun i j:Nat=>Z5S (a:Nat) (m:Nat) (b:Nat) (i:Nat) (j:Nat) ((p++(u++c::s)).map Rw.e)) (K:=fun t:Nat=>Z5U (a:Nat) (m:Nat) (b:Nat) (t:Nat) (m:Nat) ((p++(u++c::s)).map Rw.e)) (t:=t) (lo:=a) (hi:=m)
  (fun i j h1 h2 h3=>by
   show Z5S _ _ _ _ _ _=_
   rw[Z6u,ltT (by omega),cond_true,ZCc i j (by omega),ZAY (by omega),ZAY (by omega),cond_true,cond_true]
   refine ZE7 (by omega) (by omega) ?_
   rw[ZHm,Z9Y,hxm]
   have:=t3 ((i+j)/2) (by omega) (by omega)
   by_cases hc:(i+j)/2<t
   ·rw[if_pos hc,decide_eq_false (this.mpr hc),Bool.not_false,cond_true,Z7k (by omega)]
   ·rw[if_neg hc,decide_eq_true (Decidable.not_not.mp fun h=>hc (this.mp h)),Bool.not_true,cond_false])
  (fun i h1 h2=>by
   show Z5S _ _ _ _ _ _=_
   rw[Z6u,ltF (Int.le_refl _),cond_false])
  (m-a) a m (Nat.le_refl _) (Nat.le_refl _) t1 (by omega) (Nat.le_refl _)
 obtain⟨u1,u2,rfl,hu1⟩:=ZCe (u:=u) (t:=t-a) (by omega)
 refine⟨u1++c::u2,⟨?_,?_⟩,?_⟩
 ·rw[List.append_assoc]
  exact List.Perm.append_left u1 (by simpa using(List.perm_append_comm (l₁:=[c]) (l₂:=u2)))
 ·obtain⟨s1,s2,s3⟩:=List.pairwise_append.mp hu
  simp only[List.length_append]at*
  refine List.pairwise_append.mpr ⟨s1,List.pairwise_cons.mpr ⟨fun y hy=>?_,s2⟩,fun x hx y hy=>?_⟩
  ·obtain⟨k,hk,rfl⟩:=ZAZ hy
   have h1:=hxu (u1.length+k) (by omega)
   rw[Z6M u1 u2 (by omega),show u1.length+k-u1.length=k by omega]at h1
   have h2:=t3 (a+(u1.length+k)) (by omega) (by omega)
   rw[h1]at h2
   exact Rw.lt_le (Decidable.not_not.mp fun h=>by have:=h2.mp h;omega)
  ·rcases List.mem_cons.mp hy with rfl|hy
   ·obtain⟨k,hk,rfl⟩:=ZAZ hx
    have h1:=hxu k (by omega)
    rw[Z7d u1 u2 hk]at h1
    have h2:=t3 (a+k) (by omega) (by omega)
    rw[h1]at h2
    exact h2.mpr (by omega)
   ·exact s3 x hx y hy
 ·refine hb2.trans ?_
  show Z5U _ _ _ _ _ _=_
  simp only[List.length_append]at*
  rw[show p++(u1++u2++c::s)=p++u1++(u2++c::s)by simp,ZHH _ _ _ u2.length u2 c (p++u1) s m t rfl (by simp only[List.length_append,List.length_cons];omega) (by simp;omega) (by simp;omega)]
  simp
noncomputable def mgR (mid e b:Int) (Z:Rows):Option (List Dat):=
 bif ltI mid e then(bif ltI e b then((callI tE Za [.sl Z,.int mid,.int e,.int b]).bind fun r=>some [.sl (gl r)])else some [.sl Z])else some [.sl Z]
noncomputable def mgL (a t mid e b:Int) (Z:Rows):Option (List Dat):=
 bif ltI a t then(bif ltI t mid then((callI tE Za [.sl Z,.int a,.int t,.int mid]).bind fun r=>mgR mid e b (gl r))else mgR mid e b Z)else mgR mid e b Z
theorem ZHI (a m b mid n t q:Int) (X:Rows) (h:t=t):Z5M a m b mid n t t q X=
  bif ltI t m then(bif ltI m (w64 (n-t))then((callI tE Z5z [.sl X,.int t,.int m,.int (w64 (n-t))]).bind fun r=>mgL a t mid (w64 (n-t)) b (gl r))else mgL a t mid (w64 (n-t)) b X)else mgL a t mid (w64 (n-t)) b X:=by
 rw[Z6v,ltF (Int.le_refl _),cond_false]
 rfl
def ZIQ (n:Nat):Prop:=∀(u v p s:List Rw),u.length+v.length≤n→0<u.length→0<v.length→Srt u→Srt v→(p++(u++(v++s))).length<1152921504606846976→∃w,Mg u v w∧
 ∀(a m b:Int),a=(p.length:Nat)→m=((p.length+u.length:Nat):Int)→b=((p.length+u.length+v.length:Nat):Int)→
  callI tE Za [.sl ((p++(u++(v++s))).map Rw.e),.int a,.int m,.int b]=some [.sl ((p++(w++s)).map Rw.e)]
theorem ZFv {v:List Rw} (h:Srt v):Mg [] v ([]++v):=⟨List.Perm.refl _,by simpa using h⟩
theorem ZFw {u:List Rw} (h:Srt u):Mg u [] (u++[]):=⟨List.Perm.refl _,by simpa using h⟩
theorem ZDI {α:Type} {l:List α} (h:¬0<l.length):l=[]:=List.length_eq_zero_iff.mp (by omega)
theorem ZHy {n:Nat} (ih:ZIQ n) (u v p s:List Rw) (hn:u.length+v.length≤n) (hu:Srt u) (hv:Srt v) (hl:(p++(u++(v++s))).length<1152921504606846976) {mid e b:Int} (h1:mid=(p.length:Nat)) (h2:e=((p.length+u.length:Nat):Int)) (h3:b=((p.length+u.length+v.length:Nat):Int)):
  ∃w,Mg u v w∧mgR mid e b ((p++(u++(v++s))).map Rw.e)=some [.sl ((p++(w++s)).map Rw.e)]:=by
 unfold mgR
 by_cases c1:0<u.length
 ·by_cases c2:0<v.length
  ·obtain⟨w,w1,w2⟩:=ih u v p s hn c1 c2 hu hv hl
   refine⟨w,w1,?_⟩
   rw[ltT (by omega),cond_true,ltT (by omega),cond_true,w2 mid e b h1 h2 h3]
   rfl
  ·have:=ZDI c2
   subst this
   refine⟨_,ZFw hu,?_⟩
   rw[ltT (by omega),cond_true,ltF (by simp at h3;omega),cond_false]
   simp
 ·have:=ZDI c1
  subst this
  refine⟨_,ZFv hv,?_⟩
  rw[ltF (by simp at h2;omega),cond_false]
  simp
theorem ZHz {n:Nat} (ih:ZIQ n) (u1 v1 u2 v2 p s:List Rw) (hn1:u1.length+v1.length≤n) (hn2:u2.length+v2.length≤n) (hu1:Srt u1) (hv1:Srt v1) (hu2:Srt u2) (hv2:Srt v2)
  (hl:(p++(u1++(v1++(u2++(v2++s))))).length<1152921504606846976) {a t mid e b:Int} (h0:a=(p.length:Nat)) (h1:t=((p.length+u1.length:Nat):Int)) (h2:mid=((p.length+u1.length+v1.length:Nat):Int)) (h3:e=((p.length+u1.length+v1.length+u2.length:Nat):Int)) (h4:b=((p.length+u1.length+v1.length+u2.length+v2.length:Nat):Int)):
  ∃w1 w2,Mg u1 v1 w1∧Mg u2 v2 w2∧mgL a t mid e b ((p++(u1++(v1++(u2++(v2++s))))).map Rw.e)=some [.sl ((p++(w1++w2++s)).map Rw.e)]:=by
 have hl':=hl
 simp only[List.length_append]at hl'
 have left:∃w1,Mg u1 v1 w1∧mgL a t mid e b ((p++(u1++(v1++(u2++(v2++s))))).map Rw.e)=mgR mid e b ((p++(w1++(u2++(v2++s)))).map Rw.e):=by
  unfold mgL
  by_cases c1:0<u1.length
  ·by_cases c2:0<v1.length
   ·obtain⟨w,w1,w2⟩:=ih u1 v1 p (u2++(v2++s)) hn1 c1 c2 hu1 hv1 hl
    refine⟨w,w1,?_⟩
    rw[ltT (by omega),cond_true,ltT (by omega),cond_true,w2 a t mid h0 h1 h2]
    rfl
   ·have:=ZDI c2
    subst this
    refine⟨_,ZFw hu1,?_⟩
    rw[ltT (by omega),cond_true,ltF (by simp at h2;omega),cond_false]
    simp
  ·have:=ZDI c1
   subst this
   refine⟨_,ZFv hv1,?_⟩
   rw[ltF (by simp at h1;omega),cond_false]
   simp
 obtain⟨w1,m1,e1⟩:=left
 have hw1:w1.length=u1.length+v1.length:=by have:=m1.1.length_eq;simpa using this
 obtain⟨w2,m2,e2⟩:=ZHy ih u2 v2 (p++w1) s hn2 hu2 hv2 (by simp only[List.length_append];omega) (mid:=mid) (e:=e) (b:=b) (by simp only[List.length_append];omega) (by simp only[List.length_append];omega) (by simp only[List.length_append];omega)
 refine⟨w1,w2,m1,m2,?_⟩
 rw[e1,show p++(w1++(u2++(v2++s)))=p++w1++(u2++(v2++s))by simp,e2]
 simp
theorem ZHJ {u1 u2 v1 v2 w1 w2:List Rw} (hu:Srt (u1++u2)) (hv:Srt (v1++v2)) (m1:Mg u1 v1 w1) (m2:Mg u2 v2 w2) (h1:∀x∈u1,∀y∈v2,Rw.le x y) (h2:∀x∈v1,∀y∈u2,Rw.le x y):Mg (u1++u2) (v1++v2) (w1++w2):=by
 refine⟨(m1.1.append m2.1).trans ?_,List.pairwise_append.mpr ⟨m1.2,m2.2,fun x hx y hy=>?_⟩⟩
 ·rw[List.append_assoc,List.append_assoc]
  refine List.Perm.append_left u1 ?_
  rw[←List.append_assoc,←List.append_assoc]
  exact List.Perm.append_right v2 List.perm_append_comm
 ·obtain⟨_,_,a3⟩:=List.pairwise_append.mp hu
  obtain⟨_,_,b3⟩:=List.pairwise_append.mp hv
  have hx:=m1.1.mem_iff.mp hx
  have hy:=m2.1.mem_iff.mp hy
  rcases List.mem_append.mp hx with hx|hx<;>rcases List.mem_append.mp hy with hy|hy
  ·exact a3 x hx y hy
  ·exact h1 x hx y hy
  ·exact h2 x hx y hy
  ·exact b3 x hx y hy
theorem ZFx {n:Nat} (ih:ZIQ n) (u v p s:List Rw) (hn:u.length+v.length≤n+1) (hu0:0<u.length) (hv0:0<v.length) (hu:Srt u) (hv:Srt v) (hl:(p++(u++(v++s))).length<1152921504606846976) {a m b mid lo hi:Nat} (ha:a=p.length) (hm:m=a+u.length) (hb:b=m+v.length) (hmid:mid=(a+b)/2)
  (c1:lo≤hi) (c2:a≤lo) (c3:hi≤m) (c4:mid+m≤lo+b) (c5:hi≤mid) (c6:lo=a∨lo+b=mid+m) (c7:hi=m∨hi=mid):
  ∃w,Mg u v w∧Z5M (a:Nat) (m:Nat) (b:Nat) (mid:Nat) ((mid+m:Nat):Int) (lo:Nat) (hi:Nat) ((mid+m-1:Nat):Int) ((p++(u++(v++s))).map Rw.e)=some [.sl ((p++(w++s)).map Rw.e)]:=by
 have hl':=hl
 simp only[List.length_append]at hl'
 have hxl:(p++(u++(v++s))).length=p.length+u.length+v.length+s.length:=by simp only[List.length_append];omega
 have hxu:∀k,k<u.length→nth (p++(u++(v++s))) (a+k)=nth u k:=fun k hk=>by
  rw[Z6M p _ (by omega),Z7d u _ (by omega)]
  congr 1
  omega
 have hxv:∀k,k<v.length→nth (p++(u++(v++s))) (m+k)=nth v k:=fun k hk=>by
  rw[Z6M p _ (by omega),Z6M u _ (by omega),Z7d v _ (by omega)]
  congr 1
  omega
 have mu':∀i j,a≤i→i≤j→j<m→Rw.le (nth (p++(u++(v++s))) i) (nth (p++(u++(v++s))) j):=fun i j h1 h2 h3=>by
  have e1:=hxu (i-a) (by omega)
  have e2:=hxu (j-a) (by omega)
  rw[show a+(i-a)=i by omega]at e1
  rw[show a+(j-a)=j by omega]at e2
  rw[e1,e2]
  exact ZCd hu (by omega) (by omega)
 have mv':∀i j,m≤i→i≤j→j<b→Rw.le (nth (p++(u++(v++s))) i) (nth (p++(u++(v++s))) j):=fun i j h1 h2 h3=>by
  have e1:=hxv (i-m) (by omega)
  have e2:=hxv (j-m) (by omega)
  rw[show m+(i-m)=i by omega]at e1
  rw[show m+(j-m)=j by omega]at e2
  rw[e1,e2]
  exact ZCd hv (by omega) (by omega)
 obtain⟨t,t1,t2,t3⟩:=ZCH (fun c=>Rw.le (nth (p++(u++(v++s))) c) (nth (p++(u++(v++s))) (mid+m-1-c))) lo (hi-lo) (fun c d h1 h2 h3 h4=>
  Rw.le_tr (mu' c d (by omega) h2 (by omega)) (Rw.le_tr h4 (mv' _ _ (by omega) (by omega) (by omega))))
 rw[show lo+(hi-lo)=hi by omega]at t2 t3
 have hb2:=bs (L:=fun i j:Nat=>Z5M (a:Nat) (m:Nat) (b:Nat) (mid:Nat) ((mid+m:Nat):Int) (i:Nat) (j:Nat) ((mid+m-1:Nat):Int) ((p++(u++(v++s))).map Rw.e))
  (K:=fun t:Nat=>Z5M (a:Nat) (m:Nat) (b:Nat) (mid:Nat) ((mid+m:Nat):Int) (t:Nat) (t:Nat) ((mid+m-1:Nat):Int) ((p++(u++(v++s))).map Rw.e)) (t:=t) (lo:=lo) (hi:=hi)
  (fun i j h1 h2 h3=>by
   show Z5M _ _ _ _ _ _ _ _ _=_
   rw[Z6v,ltT (by omega),cond_true,ZCc i j (by omega),Z9y (a:=mid+m-1) (b:=(i+j)/2) (by omega) (by omega),ZAY (by omega),ZAY (by omega),cond_true,cond_true]
   refine ZE7 (by omega) (by omega) ?_
   rw[ZHm,Z9Y]
   have:=t3 ((i+j)/2) (by omega) (by omega)
   by_cases hc:(i+j)/2<t
   ·rw[if_pos hc,decide_eq_false (this.mpr hc),Bool.not_false,cond_true,Z7k (by omega)]
   ·rw[if_neg hc,decide_eq_true (Decidable.not_not.mp fun h=>hc (this.mp h)),Bool.not_true,cond_false])
  (fun i h1 h2=>rfl) (hi-lo) lo hi (Nat.le_refl _) (Nat.le_refl _) t1 t2 (Nat.le_refl _)
 obtain⟨u1,u2,rfl,hu1⟩:=ZCe (u:=u) (t:=t-a) (by omega)
 obtain⟨v1,v2,rfl,hv1⟩:=ZCe (u:=v) (t:=mid-t) (by omega)
 simp only[List.length_append]at hn hu0 hv0 hl' hm hb hxu hxv
 have x1:∀x∈u1,∀y∈v2,Rw.le x y:=fun x hx y hy=>by
  obtain⟨i,hi1,rfl⟩:=ZAZ hx
  obtain⟨j,hj1,rfl⟩:=ZAZ hy
  have e1:=hxu i (by omega)
  have e2:=hxv (v1.length+j) (by omega)
  rw[Z7d u1 u2 hi1]at e1
  rw[Z6M v1 v2 (by omega),show v1.length+j-v1.length=j by omega]at e2
  rw[←e1,←e2]
  have hp:=(t3 (t-1) (by omega) (by omega)).mpr (by omega)
  exact Rw.le_tr (mu' _ (t-1) (by omega) (by omega) (by omega)) (Rw.le_tr hp (mv' _ _ (by omega) (by omega) (by omega)))
 have x2:∀x∈v1,∀y∈u2,Rw.le x y:=fun x hx y hy=>by
  obtain⟨i,hi1,rfl⟩:=ZAZ hx
  obtain⟨j,hj1,rfl⟩:=ZAZ hy
  have e1:=hxv i (by omega)
  have e2:=hxu (u1.length+j) (by omega)
  rw[Z7d v1 v2 hi1]at e1
  rw[Z6M u1 u2 (by omega),show u1.length+j-u1.length=j by omega]at e2
  rw[←e1,←e2]
  have hp:¬Rw.le _ _:=fun h=>by have:=(t3 t (by omega) (by omega)).mp h;omega
  exact Rw.le_tr (mv' _ (mid+m-1-t) (by omega) (by omega) (by omega)) (Rw.le_tr (Rw.lt_le (Decidable.not_not.mp hp)) (mu' t _ (by omega) (by omega) (by omega)))
 obtain⟨su1,su2,_⟩:=List.pairwise_append.mp hu
 obtain⟨sv1,sv2,_⟩:=List.pairwise_append.mp hv
 obtain⟨w1,w2,m1,m2,hw⟩:=ZHz ih u1 v1 u2 v2 p s (by omega) (by omega) su1 sv1 su2 sv2 (by simp only[List.length_append];omega) (a:=(a:Nat)) (t:=(t:Nat)) (mid:=(mid:Nat)) (e:=((mid+m-t:Nat):Int)) (b:=(b:Nat)) (by omega) (by omega) (by omega) (by omega) (by omega)
 refine⟨w1++w2,ZHJ hu hv m1 m2 x1 x2,hb2.trans ?_⟩
 show Z5M _ _ _ _ _ _ _ _ _=_
 rw[ZHI _ _ _ _ _ _ _ _ rfl,Z9y (by omega) (by omega)]
 by_cases d1:0<u2.length
 ·by_cases d2:0<v1.length
  ·have:=ZHu (p++u1) u2 v1 (v2++s) d1 d2 (by simp only[List.length_append];omega) (a:=(t:Nat)) (m:=(m:Nat)) (b:=((mid+m-t:Nat):Int)) (by simp only[List.length_append];omega) (by simp only[List.length_append];omega) (by simp only[List.length_append];omega)
   rw[ltT (by omega),cond_true,ltT (by omega),cond_true,show p++(u1++u2++(v1++v2++s))=p++u1++(u2++(v1++(v2++s)))by simp,this]
   simp only[gA]
   rw[show p++u1++(v1++(u2++(v2++s)))=p++(u1++(v1++(u2++(v2++s))))by simp]
   exact hw
  ·have:=ZDI d2
   subst this
   rw[ltT (by omega),cond_true,ltF (by simp at hv1;omega),cond_false]
   simpa using hw
 ·have:=ZDI d1
  subst this
  rw[ltF (by simp at hm;omega),cond_false]
  simpa using hw
theorem ZHK:∀n,ZIQ n
 |0=>fun u v p s h h1=>by omega
 |n+1=>fun u v p s h hu0 hv0 hu hv hl=>by
  have ih:=ZHK n
  have hl':=hl
  simp only[List.length_append]at hl'
  by_cases c1:u.length=1
  ·obtain⟨c,rfl⟩:=List.length_eq_one_iff.mp c1
   obtain⟨w,w1,w2⟩:=ZHw c v p s hv hl (a:=p.length) (m:=p.length+1) (b:=p.length+1+v.length) rfl rfl rfl
   refine⟨w,w1,fun a m b ha hm hb=>?_⟩
   subst ha;subst hm;subst hb
   rw[Z6C,Z9y (by omega) (by omega),eqT (by simp),cond_true]
   exact w2
  ·by_cases c2:v.length=1
   ·obtain⟨c,rfl⟩:=List.length_eq_one_iff.mp c2
    obtain⟨w,w1,w2⟩:=ZHx c u p s hu hl (a:=p.length) (m:=p.length+u.length) (b:=p.length+u.length+1) rfl rfl rfl
    refine⟨w,w1,fun a m b ha hm hb=>?_⟩
    subst ha;subst hm;subst hb
    rw[Z6C,Z9y (by omega) (by omega),eqF (by omega),cond_false,Z9y (by omega) (by omega),eqT (by simp),cond_true]
    exact w2
   ·by_cases c3:(p.length+(p.length+u.length+v.length))/2<p.length+u.length
    ·obtain⟨w,w1,w2⟩:=ZFx ih u v p s h hu0 hv0 hu hv hl (a:=p.length) (m:=p.length+u.length) (b:=p.length+u.length+v.length) (mid:=(p.length+(p.length+u.length+v.length))/2) (lo:=(p.length+(p.length+u.length+v.length))/2+(p.length+u.length)-(p.length+u.length+v.length)) (hi:=(p.length+(p.length+u.length+v.length))/2) rfl rfl rfl rfl (by omega) (by omega) (by omega) (by omega) (by omega) (by omega) (.inr rfl)
     refine⟨w,w1,fun a m b ha hm hb=>?_⟩
     subst ha;subst hm;subst hb
     rw[Z6C,Z9y (by omega) (by omega),eqF (by omega),cond_false,Z9y (by omega) (by omega),eqF (by omega),cond_false,ZCc _ _ (by omega),ltT (by omega),cond_true,ZAx _ _ (by omega),Z9y (by omega) (by omega),Z9t (by omega) (by omega)]
     exact w2
    ·obtain⟨w,w1,w2⟩:=ZFx ih u v p s h hu0 hv0 hu hv hl (a:=p.length) (m:=p.length+u.length) (b:=p.length+u.length+v.length) (mid:=(p.length+(p.length+u.length+v.length))/2) (lo:=p.length) (hi:=p.length+u.length) rfl rfl rfl rfl (by omega) (by omega) (by omega) (by omega) (by omega) (.inl rfl) (.inl rfl)
     refine⟨w,w1,fun a m b ha hm hb=>?_⟩
     subst ha;subst hm;subst hb
     rw[Z6C,Z9y (by omega) (by omega),eqF (by omega),cond_false,Z9y (by omega) (by omega),eqF (by omega),cond_false,ZCc _ _ (by omega),ltF (by omega),cond_false,ZAx _ _ (by omega),Z9t (by omega) (by omega)]
     exact w2
theorem ZGh {l p s:List Rw} {a b:Rw} {i j:Nat} (h:l=p++a::b::s) (hi:p.length=i) (hj:j=i+1) (hl:l.length<4611686018427387904) {X:Option (List Dat)} {K:Rows→Option (List Dat)} (hK:K ((p++b::a::s).map Rw.e)=X):
  (bif inR (i:Int) (lenI (updR (l.map Rw.e) (tn (j:Int)) 0 [.int (gn (at' (l.map Rw.e) (tn (i:Int)))),.int (gn (tk 1 (at' (l.map Rw.e) (tn (i:Int))))),.int (gn (tk 2 (at' (l.map Rw.e) (tn (i:Int)))))]))then
    K (updR (updR (l.map Rw.e) (tn (j:Int)) 0 [.int (gn (at' (l.map Rw.e) (tn (i:Int)))),.int (gn (tk 1 (at' (l.map Rw.e) (tn (i:Int))))),.int (gn (tk 2 (at' (l.map Rw.e) (tn (i:Int)))))]) (tn (i:Int)) 0 [.int (gn (at' (l.map Rw.e) (tn (j:Int)))),.int (gn (tk 1 (at' (l.map Rw.e) (tn (j:Int))))),.int (gn (tk 2 (at' (l.map Rw.e) (tn (j:Int)))))])
    else none)=X:=by
 have hb:at' (l.map Rw.e) j=b.e:=ZCa (u:=p++[a]) (v:=s) (by rw[h];simp) (by simp;omega)
 have ha:at' (l.map Rw.e) i=a.e:=ZCa h hi
 have hlen:l.length=p.length+1+1+s.length:=by rw[h];simp;omega
 have h1:updR (l.map Rw.e) j 0 [.int a.k,.int a.v,.int a.w]=(p++a::a::s).map Rw.e:=by
  rw[ZFV (u:=p++[a]) (v:=s) (a:=b) (by rw[h];simp) (by simp;omega)]
  simp
 have h2:updR ((p++a::a::s).map Rw.e) i 0 [.int b.k,.int b.v,.int b.w]=(p++b::a::s).map Rw.e:=ZFV rfl hi
 simp only[Z84,hb,ha,gk,gv,gw,h1,h2]
 rw[ZAY (by simp;omega)]
 exact hK
theorem ZIn (a b i:Nat):∀(n:Nat) (w1 w2 p r:List Rw) (c:Rw) (j:Nat),w1.length=n→Srt (w1++w2)→(∀y∈w2,Rw.lt c y)→(p++(w1++c::(w2++r))).length<1152921504606846976→i<1152921504606846976→a=p.length→j=a+w1.length→
  ∃w,w.Perm (w1++c::w2)∧Srt w∧Z5W (a:Nat) (b:Nat) (i:Nat) (j:Nat) ((p++(w1++c::(w2++r))).map Rw.e)=Z5V (a:Nat) (b:Nat) ((i+1:Nat):Int) ((p++(w++r)).map Rw.e):=by
 intro n
 induction n with
 |zero=>
  intro w1 w2 p r c j hn hs hc hl hi ha hj
  have:w1=[]:=List.length_eq_zero_iff.mp hn
  subst this
  refine⟨c::w2,List.Perm.refl _,List.pairwise_cons.mpr ⟨fun y hy=>Rw.lt_le (hc y hy),by simpa using hs⟩,?_⟩
  simp only[List.length_nil]at hj
  rw[Z5y,ltF (by omega),cond_false,Z7k (by omega)]
  simp
 |succ n ih=>
  intro w1 w2 p r c j hn hs hc hl hi ha hj
  obtain⟨w1,d,rfl⟩:=snoc_of (n:=n) (l:=w1) hn
  have hl':=hl
  simp only[List.length_append,List.length_cons,List.length_nil]at hl' hn hj
  have hxl:(p++(w1++[d]++c::(w2++r))).length=p.length+w1.length+2+w2.length+r.length:=by simp;omega
  have hc0:nth (p++(w1++[d]++c::(w2++r))) j=c:=by
   rw[Z6M p _ (by omega),Z6M (w1++[d]) _ (by simp;omega)]
   have:j-p.length-(w1++[d]).length=0:=by simp;omega
   rw[this];simp[nth]
  have hd0:nth (p++(w1++[d]++c::(w2++r))) (j-1)=d:=by
   rw[Z6M p _ (by omega),Z7d (w1++[d]) _ (by simp;omega),Z6M w1 _ (by omega)]
   have:j-1-p.length-w1.length=0:=by omega
   rw[this];simp[nth]
  have i1:inR (j:Int) (lenI ((p++(w1++[d]++c::(w2++r))).map Rw.e))=true:=ZAY (by omega)
  have i2:inR ((j-1:Nat):Int) (lenI ((p++(w1++[d]++c::(w2++r))).map Rw.e))=true:=ZAY (by omega)
  by_cases hcd:Rw.lt c d
  ·have hs':Srt (w1++d::w2):=by simpa using hs
   obtain⟨s1,s2,s3⟩:=List.pairwise_append.mp hs'
   obtain⟨w,q1,q2,q3⟩:=ih w1 (d::w2) p r c (j-1) (by omega) hs' (fun y hy=>by
    rcases List.mem_cons.mp hy with rfl|hy
    ·exact hcd
    ·exact hc y hy) (by simp only[List.length_append,List.length_cons]at*;omega) hi ha (by omega)
   refine⟨w,q1.trans ?_,q2,?_⟩
   ·rw[List.append_assoc]
    exact List.Perm.append_left w1 (List.Perm.swap d c w2)
   ·rw[Z5y,ltT (by omega),cond_true,Z9t (by omega) (by omega),i1,i2,cond_true,cond_true]
    refine ZE7 (i:=j) (j:=j-1) (by omega) (by omega) ?_
    rw[ZHm,Z9Y,hc0,hd0,decide_eq_true hcd,cond_true,cond_true,cond_true,cond_true]
    refine ZGh (i:=j-1) (j:=j) (l:=p++(w1++[d]++c::(w2++r))) (p:=p++w1) (s:=w2++r) (a:=d) (b:=c) (by simp) (by simp;omega) (by omega) (by omega) (K:=fun X=>Z5W (a:Nat) (b:Nat) (i:Nat) ((j-1:Nat):Int) X) ?_
    show Z5W _ _ _ _ _=_
    rw[←q3]
    simp
  ·refine⟨w1++[d]++c::w2,List.Perm.refl _,?_,?_⟩
   ·obtain⟨s1,s2,s3⟩:=List.pairwise_append.mp hs
    refine List.pairwise_append.mpr ⟨s1,List.pairwise_cons.mpr ⟨fun y hy=>Rw.lt_le (hc y hy),s2⟩,fun x hx y hy=>?_⟩
    rcases List.mem_cons.mp hy with rfl|hy
    ·obtain⟨t1,t2,t3⟩:=List.pairwise_append.mp s1
     rcases List.mem_append.mp hx with hx|hx
     ·exact Rw.le_tr (t3 x hx d (by simp)) hcd
     ·simp at hx;subst hx;exact hcd
    ·exact s3 x hx y hy
   ·rw[Z5y,ltT (by omega),cond_true,Z9t (by omega) (by omega),i1,i2,cond_true,cond_true]
    refine ZE7 (i:=j) (j:=j-1) (by omega) (by omega) ?_
    rw[ZHm,Z9Y,hc0,hd0,decide_eq_false hcd,cond_false,Z7k (by omega)]
    simp
theorem ZIc (a b:Nat):∀(r w p s:List Rw) (i:Nat),Srt w→(p++(w++(r++s))).length<1152921504606846976→a=p.length→i=a+w.length→b=i+r.length→
  ∃w',w'.Perm (w++r)∧Srt w'∧Z5V (a:Nat) (b:Nat) (i:Nat) ((p++(w++(r++s))).map Rw.e)=some [.sl ((p++(w'++s)).map Rw.e)]
 |[],w,p,s,i,hs,hl,ha,hi,hb=>by
  refine⟨w,by simp,hs,?_⟩
  rw[Z5x,ltF (by simp at hb;omega),cond_false]
  rfl
 |c::r,w,p,s,i,hs,hl,ha,hi,hb=>by
  have hl':=hl
  simp only[List.length_append,List.length_cons]at hl' hb
  obtain⟨w2,q1,q2,q3⟩:=ZIn a b i w.length w [] p (r++s) c i rfl (by simpa using hs) (fun y hy=>by cases hy) (by simp only[List.length_append,List.length_cons,List.length_nil];omega) (by omega) ha hi
  have hw2:w2.length=w.length+1:=by have:=q1.length_eq;simpa using this
  obtain⟨w',r1,r2,r3⟩:=ZIc a b r w2 p s (i+1) q2 (by simp only[List.length_append];omega) ha (by omega) (by omega)
  refine⟨w',r1.trans ?_,r2,?_⟩
  ·refine(List.Perm.append_right r q1).trans ?_
   simp
  ·rw[Z5x,ltT (by omega),cond_true]
   simp only[List.nil_append]at q3
   rw[show p++(w++(c::r++s))=p++(w++c::(r++s))by simp,q3]
   exact r3
theorem ZEe (r p s:List Rw) (hl:(p++(r++s)).length<1152921504606846976) {a b:Nat} (ha:a=p.length) (hb:b=a+r.length):
  ∃w,w.Perm r∧Srt w∧callI tE Z5Z [.sl ((p++(r++s)).map Rw.e),.int (a:Nat),.int (b:Nat)]=some [.sl ((p++(w++s)).map Rw.e)]:=by
 have hl':=hl
 simp only[List.length_append]at hl'
 cases r with
 |nil=>
  refine⟨[],List.Perm.refl _,List.Pairwise.nil,?_⟩
  rw[Z6s,Z7k (by omega),Z5x,ltF (by simp at hb;omega),cond_false]
 |cons c r=>
  simp only[List.length_cons]at hb hl'
  obtain⟨w,q1,q2,q3⟩:=ZIc a b r [c] p s (a+1) (List.pairwise_singleton _ _) (by simp only[List.length_append,List.length_cons,List.length_nil];omega) ha rfl (by omega)
  refine⟨w,by simpa using q1,q2,?_⟩
  rw[Z6s,Z7k (by omega)]
  exact q3
def Blk (k:Nat) (l:List Rw):Prop:=∀i j,i≤j→j<l.length→i/k=j/k→Rw.le (nth l i) (nth l j)
theorem ZGy {l:List Rw} (h:∀i j,i≤j→j<l.length→Rw.le (nth l i) (nth l j)):Srt l:=by
 refine List.pairwise_iff_getElem.mpr fun i j hi hj hij=>?_
 have:=h i j (by omega) hj
 simpa[nth,List.getD_eq_getElem?_getD,hi,hj]using this
theorem Blk.app {k:Nat} (_hk:0<k) {p w:List Rw} (hp:Blk k p) (hd:k∣p.length) (hw:Srt w) (hl:w.length≤k):Blk k (p++w):=fun i j hij hj he=>by
 obtain⟨m,hm⟩:=hd
 simp only[List.length_append]at hj
 by_cases h1:j<p.length
 ·rw[Z7d p w (by omega),Z7d p w h1]
  exact hp i j hij h1 he
 ·have h2:p.length≤i:=by
   by_cases h3:i<p.length
   ·exfalso
    have a1:i/k<m:=by rw[Nat.div_lt_iff_lt_mul _hk,Nat.mul_comm];omega
    have a2:m≤j/k:=by rw[Nat.le_div_iff_mul_le _hk,Nat.mul_comm];omega
    omega
   ·omega
  rw[Z6M p w h2,Z6M p w (by omega)]
  exact ZCd hw (by omega) (by omega)
theorem Blk.cut {k:Nat} (hk:0<k) {u r:List Rw} (h:Blk k (u++r)) (hu:u.length=k):Srt u∧Blk k r:=by
 refine⟨ZGy fun i j hij hj=>?_,fun i j hij hj he=>?_⟩
 ·have:=h i j hij (by simp;omega) (by rw[Nat.div_eq_of_lt (by omega),Nat.div_eq_of_lt (by omega)])
  rwa [Z7d u r (by omega),Z7d u r hj]at this
 ·have:=h (u.length+i) (u.length+j) (by omega) (by simp;omega) (by rw[hu,Nat.add_div_left _ hk,Nat.add_div_left _ hk,he])
  rw[Z6M u r (by omega),Z6M u r (by omega)]at this
  simpa using this
theorem Blk.srt {k:Nat} {l:List Rw} (h:Blk k l) (hl:l.length≤k):Srt l:=ZGy fun i j hij hj=>h i j hij hj (by rw[Nat.div_eq_of_lt (by omega),Nat.div_eq_of_lt (by omega)])
theorem st0 (n:Nat):∀(f:Nat) (r p:List Rw),r.length≤f→Blk 20 p→20∣p.length→n=p.length+r.length→n<1152921504606846976→
  ∃x,x.Perm (p++r)∧Blk 20 x∧Z5p (n:Nat) 20 (p.length:Nat) ((p.length+20:Nat):Int) ((p++r).map Rw.e)=Z5P (n:Nat) 20 (x.map Rw.e):=by
 intro f
 induction f with
 |zero=>
  intro r p hf hb hd hn hl
  have:r=[]:=List.length_eq_zero_iff.mp (by omega)
  subst this
  simp only[List.length_nil]at hn
  obtain⟨w,w1,w2,w3⟩:=ZEe [] p [] (by simp;omega) (a:=p.length) (b:=n) rfl (by simp;omega)
  have:w=[]:=w1.eq_nil
  subst this
  refine⟨p,by simp,hb,?_⟩
  simp only[List.append_nil]at w3⊢
  rw[Z6O,show leI ((p.length+20:Nat):Int) (n:Nat)=false from leF (by omega),cond_false,w3]
  rfl
 |succ f ih=>
  intro r p hf hb hd hn hl
  by_cases hr:20≤r.length
  ·obtain⟨r1,r2,rfl,hr1⟩:=ZCe (u:=r) (t:=20) hr
   simp only[List.length_append]at hn hf hr
   obtain⟨w,w1,w2,w3⟩:=ZEe r1 p r2 (by simp only[List.length_append];omega) (a:=p.length) (b:=p.length+20) rfl (by omega)
   have hw:=w1.length_eq
   obtain⟨x,x1,x2,x3⟩:=ih r2 (p++w) (by omega) (hb.app (by omega) hd w2 (by omega)) (by simp only[List.length_append];omega) (by simp only[List.length_append];omega) hl
   refine⟨x,x1.trans ?_,x2,?_⟩
   ·rw[List.append_assoc]
    exact List.Perm.append_left p (List.Perm.append_right r2 w1)
   ·rw[Z6O,leT (by omega),cond_true,w3]
    simp only[gA]
    rw[show w64 (((p.length+20:Nat):Int)+20)=((p.length+20+20:Nat):Int)from ZAx _ 20 (by omega)]
    simp only[List.length_append,hw,hr1,List.append_assoc]at x3
    exact x3
  ·obtain⟨w,w1,w2,w3⟩:=ZEe r p [] (by simp;omega) (a:=p.length) (b:=n) rfl (by omega)
   have hw:=w1.length_eq
   refine⟨p++w,List.Perm.append_left p w1,hb.app (by omega) hd w2 (by omega),?_⟩
   simp only[List.append_nil]at w3
   rw[Z6O,leF (by omega),cond_false,w3]
   rfl
theorem ZCf (k:Nat) (h:k<1152921504606846976):w64 (2*(k:Int))=((2*k:Nat):Int)∧w64 ((k:Int)*2)=((2*k:Nat):Int):=by
 constructor<;>(rw[Z5g ⟨by omega,by omega⟩];omega)
theorem st2 (n k:Nat) (hk:0<k) (hk2:k<1152921504606846976):∀(f:Nat) (r p:List Rw),r.length≤f→Blk (2*k) p→(2*k)∣p.length→Blk k r→n=p.length+r.length→n<1152921504606846976→
  ∃x,x.Perm (p++r)∧Blk (2*k) x∧Z5q (n:Nat) (k:Nat) (p.length:Nat) ((p.length+2*k:Nat):Int) ((p++r).map Rw.e)=Z5P (n:Nat) ((2*k:Nat):Int) (x.map Rw.e):=by
 have small:∀(r p:List Rw),r.length≤k→Blk (2*k) p→(2*k)∣p.length→Blk k r→n=p.length+r.length→n<1152921504606846976→
   ∃x,x.Perm (p++r)∧Blk (2*k) x∧Z5q (n:Nat) (k:Nat) (p.length:Nat) ((p.length+2*k:Nat):Int) ((p++r).map Rw.e)=Z5P (n:Nat) ((2*k:Nat):Int) (x.map Rw.e):=fun r p h1 hb hd hr hn hl=>by
  refine⟨p++r,List.Perm.refl _,hb.app (by omega) hd (hr.srt h1) (by omega),?_⟩
  rw[Z6P,leF (by omega),cond_false,ZAx _ _ (by omega),ltF (by omega),cond_false,(ZCf k hk2).2]
 intro f
 induction f with
 |zero=>exact fun r p hf hb hd hr hn hl=>small r p (by omega) hb hd hr hn hl
 |succ f ih=>
  intro r p hf hb hd hr hn hl
  by_cases h1:r.length≤k
  ·exact small r p h1 hb hd hr hn hl
  ·obtain⟨u,r',rfl,hu⟩:=ZCe (u:=r) (t:=k) (by omega)
   obtain⟨su,hr'⟩:=hr.cut hk hu
   simp only[List.length_append]at hn hf h1
   by_cases h2:k≤r'.length
   ·obtain⟨v,r2,rfl,hv⟩:=ZCe (u:=r') (t:=k) h2
    obtain⟨sv,hr2⟩:=hr'.cut hk hv
    simp only[List.length_append]at hn hf h1 h2
    obtain⟨w,w1,w2⟩:=ZHK _ u v p r2 (Nat.le_refl _) (by omega) (by omega) su sv (by simp only[List.length_append];omega)
    have hw:=w1.1.length_eq
    simp only[List.length_append]at hw
    obtain⟨x,x1,x2,x3⟩:=ih r2 (p++w) (by omega) (hb.app (by omega) hd w1.2 (by omega)) (by
     simp only[List.length_append]
     rw[hw,hu,hv,←Nat.two_mul]
     exact Nat.dvd_add hd (Nat.dvd_refl _)) hr2 (by simp only[List.length_append];omega) hl
    refine⟨x,x1.trans ?_,x2,?_⟩
    ·rw[List.append_assoc,←List.append_assoc u]
     exact List.Perm.append_left p (List.Perm.append_right r2 w1.1)
    ·rw[Z6P,leT (by omega),cond_true,ZAx _ _ (by omega),w2 _ _ _ rfl (by omega) (by omega)]
     simp only[gA]
     rw[(ZCf k hk2).1,ZAx _ _ (by omega)]
     simp only[List.length_append,hw,hu,hv,List.append_assoc,←Nat.two_mul]at x3
     exact x3
   ·have sv:=hr'.srt (by omega)
    obtain⟨w,w1,w2⟩:=ZHK _ u r' p [] (Nat.le_refl _) (by omega) (by omega) su sv (by simp only[List.length_append,List.length_nil];omega)
    have hw:=w1.1.length_eq
    simp only[List.length_append]at hw
    refine⟨p++w,List.Perm.append_left p w1.1,hb.app (by omega) hd w1.2 (by omega),?_⟩
    have w2:=w2 (p.length:Nat) ((p.length+k:Nat):Int) (n:Nat) rfl (by omega) (by omega)
    simp only[List.append_nil]at w2
    rw[Z6P,leF (by omega),cond_false,ZAx _ _ (by omega),ltT (by omega),cond_true,w2]
    simp only[gA]
    rw[(ZCf k hk2).2]
theorem st1 (n:Nat) (hn:n<1152921504606846976):∀(f k:Nat) (x:List Rw),0<k→n≤k+f→k<1152921504606846976→Blk k x→x.length=n→
  ∃y,y.Perm x∧Srt y∧Z5P (n:Nat) (k:Nat) (x.map Rw.e)=some [.sl (y.map Rw.e)]:=by
 intro f
 induction f with
 |zero=>
  intro k x hk hf hk2 hb hx
  refine⟨x,List.Perm.refl _,hb.srt (by omega),?_⟩
  rw[Z5i,ltF (by omega),cond_false]
 |succ f ih=>
  intro k x hk hf hk2 hb hx
  by_cases h:k<n
  ·obtain⟨y,y1,y2,y3⟩:=st2 n k hk hk2 x.length x [] (Nat.le_refl _) (fun i j hi hj=>by simp at hj) (by simp) hb (by simpa using hx.symm) hn
   have hy:=y1.length_eq
   simp only[List.nil_append,List.length_nil,Nat.zero_add]at hy y1 y3
   by_cases h3:2*k<1152921504606846976
   ·obtain⟨z,z1,z2,z3⟩:=ih (2*k) y (by omega) (by omega) h3 y2 (by omega)
    refine⟨z,z1.trans y1,z2,?_⟩
    rw[Z5i,ltT (by omega),cond_true,(ZCf k hk2).1]
    exact y3.trans z3
   ·refine⟨y,y1,y2.srt (by omega),?_⟩
    rw[Z5i,ltT (by omega),cond_true,(ZCf k hk2).1]
    refine y3.trans ?_
    rw[Z5i,ltF (by omega),cond_false]
  ·refine⟨x,List.Perm.refl _,hb.srt (by omega),?_⟩
   rw[Z5i,ltF (by omega),cond_false]
theorem ZFW (x:List Rw) (hx:x.length<1152921504606846976):∃y,y.Perm x∧Srt y∧callI tE Z6k [.sl (x.map Rw.e)]=some [.sl (y.map Rw.e)]:=by
 obtain⟨z,z1,z2,z3⟩:=st0 x.length x.length x [] (Nat.le_refl _) (fun i j hi hj=>by simp at hj) (by simp) (by simp) hx
 simp only[List.nil_append,List.length_nil,Nat.zero_add]at z1 z3
 obtain⟨y,y1,y2,y3⟩:=st1 x.length hx x.length 20 z (by omega) (by omega) (by omega) z2 z1.length_eq
 refine⟨y,y1.trans z1,y2,?_⟩
 rw[Z9X,Z5L,Z9k]
 have z3:Z5p (x.length:Nat) 20 0 20 (x.map Rw.e)=Z5P (x.length:Nat) 20 (z.map Rw.e):=z3
 have y3:Z5P (x.length:Nat) 20 (z.map Rw.e)=some [.sl (y.map Rw.e)]:=y3
 rw[z3,y3]
 rfl
set_option maxRecDepth 100000
theorem ZDb (a0:Rows) (a1 a2:Int):callI tE Z6F [.sl a0,.int a1,.int a2]=(bif(ltI a1 (lenI a0))then(bif(inR a1 (lenI a0))then(bif(ltI a2 (lenI (gl (at' a0 (tn a1)))))then(bif(inR a1 (lenI a0))then(bif(inR a2 (lenI (gl (at' a0 (tn a1)))))then(some [(.sl [[(.int (gn (at' (gl (at' a0 (tn a1))) (tn a2)))),(.int (gn (tk 1 (at' (gl (at' a0 (tn a1))) (tn a2))))),(.int (gn (tk 2 (at' (gl (at' a0 (tn a1))) (tn a2)))))]])])else none)else none)else(some [(.sl [])]))else none)else(some [(.sl [])])):=(callI_run rfl (by kernel_rfl)).trans (by kernel_rfl)
theorem ZAy (a0:Rows) (a1:Int) (a2 a3 a4 a5:Rows) (a6 a7 a8 a9:Int):callI tE Z6i [.sl a0,.int a1,.sl a2,.sl a3,.sl a4,.sl a5,.int a6,.int a7,.int a8,.int a9]=(bif(eqI a8 1)then(((callI tE Z6K [(.sl a2)])).bind (fun r0=>(((callI tE Z6K [(.sl a3)])).bind (fun r1=>(some [(.int (w64 ((gn r0)+(gn r1))))])))))else(bif(eqI a8 2)then(bif(ltI a6 0)then(some [(.int 0)])else(bif(ltI a7 0)then(some [(.int 0)])else(((callI tE Z6F [(.sl a5),(.int 0),(.int a6)])).bind (fun r0=>(((callI tE Z6K [(.sl (gl r0))])).bind (fun r1=>(((callI tE Z6F [(.sl a5),(.int 1),(.int a7)])).bind (fun r2=>(((callI tE Z6K [(.sl (gl r2))])).bind (fun r3=>(some [(.int (w64 ((gn r1)+(gn r3))))])))))))))))else(bif(eqI a8 3)then(bif(ltI a6 0)then(some [(.int 0)])else(((callI tE Z6F [(.sl a5),(.int 0),(.int a6)])).bind (fun r0=>(((callI tE Z6K [(.sl (gl r0))])).bind (fun r1=>(some [(.int (gn r1))]))))))else(some [(.int 0)])))):=(callI_run rfl (by kernel_rfl)).trans (by kernel_rfl)
noncomputable def Z73 (x0:Rows) (x1:Int):Option (List Dat):=loopK tE Z7K 0 ⟨[(0,(.ro 277 Bool.false x0)),(3,(.i .i64 x1))],[]⟩
theorem Z8N (x0:Rows) (x1:Int):Z73 x0 x1=(bif(ltI x1 (lenI x0))then(bif(inR x1 (lenI x0))then(bif(eqI (lenI (gl (at' x0 (tn x1)))) 0)then(some [(.bool Bool.false)])else(bif(inR x1 (lenI x0))then(((callI tE Z7g [(.sl (gl (at' x0 (tn x1))))])).bind (fun r0=>(bif(!(gb r0))then(some [(.bool Bool.false)])else(bif(inR x1 (lenI x0))then(((callI tE Z5r [(.sl (gl (at' x0 (tn x1))))])).bind (fun r1=>(bif(!(gb r1))then(some [(.bool Bool.false)])else(Z73 x0 (w64 (x1+1))))))else none))))else none))else none)else(some [(.bool Bool.true)])):=(loopK_run (by kernel_rfl)).trans (by kernel_rfl)
theorem ZAz (a0:Rows):callI tE Z7K [.sl a0]=(Z73 a0 0):=(callI_run rfl (by kernel_rfl)).trans (by kernel_rfl)
noncomputable def Z63 (x0:Rows) (x1:Int) (x2:Rows):Option (List Dat):=loopK tE Z6Y 0 ⟨[(0,(.ro 277 Bool.false x0)),(3,(.own (500000,0))),(4,(.i .i64 x1))],[((500000,0),(.row 224 x2 Bool.true 0 []))]⟩
theorem Z8b (x0:Rows) (x1:Int) (x2:Rows):Z63 x0 x1 x2=(bif(ltI x1 (lenI x0))then(bif(inR x1 (lenI x0))then(bif(fitM ((len x2)+(len (gl (at' x0 (tn x1))))) 24)then(Z63 x0 (w64 (x1+1)) (List.append x2 (gl (at' x0 (tn x1)))))else none)else none)else(some [(.sl x2)])):=(loopK_run (by kernel_rfl)).trans (by kernel_rfl)
theorem ZBD (a0:Rows):callI tE Z6Y [.sl a0]=(Z63 a0 0 []):=(callI_run rfl (by kernel_rfl)).trans (by kernel_rfl)
noncomputable def Z5a (x0 x1:Rows) (x2 x3:Int) (x4:Rows):Option (List Dat):=loopK tE Z6q 0 ⟨[(0,(.ro 224 Bool.false x0)),(1,(.ro 224 Bool.false x1)),(5,(.own (500000,0))),(6,(.i .i64 x2)),(7,(.i .i64 x3))],[((500000,0),(.row 224 x4 Bool.true 0 []))]⟩
theorem Z6f (x0 x1:Rows) (x2 x3:Int) (x4:Rows):Z5a x0 x1 x2 x3 x4=(bif(ltI x2 (lenI x0))then(bif(eqI x3 (lenI x1))then(bif(inR x2 (lenI x0))then(bif(fitM (Nat.succ (len x4)) 24)then(Z5a x0 x1 (w64 (x2+1)) x3 (List.append x4 [[(.int (gn (at' x0 (tn x2)))),(.int (gn (tk 1 (at' x0 (tn x2))))),(.int (gn (tk 2 (at' x0 (tn x2)))))]]))else none)else none)else(bif(ltI x2 (lenI x0))then(bif(inR x2 (lenI x0))then(bif(inR x3 (lenI x1))then(((callI tE Z5f [(.int (gn (at' x0 (tn x2)))),(.int (gn (tk 1 (at' x0 (tn x2))))),(.int (gn (tk 2 (at' x0 (tn x2))))),(.int (gn (at' x1 (tn x3)))),(.int (gn (tk 1 (at' x1 (tn x3))))),(.int (gn (tk 2 (at' x1 (tn x3)))))])).bind (fun r0=>(bif(leI (gn r0) 0)then(bif(inR x2 (lenI x0))then(bif(fitM (Nat.succ (len x4)) 24)then(Z5a x0 x1 (w64 (x2+1)) x3 (List.append x4 [[(.int (gn (at' x0 (tn x2)))),(.int (gn (tk 1 (at' x0 (tn x2))))),(.int (gn (tk 2 (at' x0 (tn x2)))))]]))else none)else none)else(bif(inR x3 (lenI x1))then(bif(fitM (Nat.succ (len x4)) 24)then(Z5a x0 x1 x2 (w64 (x3+1)) (List.append x4 [[(.int (gn (at' x1 (tn x3)))),(.int (gn (tk 1 (at' x1 (tn x3))))),(.int (gn (tk 2 (at' x1 (tn x3)))))]]))else none)else none))))else none)else none)else(bif(inR x3 (lenI x1))then(bif(fitM (Nat.succ (len x4)) 24)then(Z5a x0 x1 x2 (w64 (x3+1)) (List.append x4 [[(.int (gn (at' x1 (tn x3)))),(.int (gn (tk 1 (at' x1 (tn x3))))),(.int (gn (tk 2 (at' x1 (tn x3)))))]]))else none)else none)))else(bif(ltI x3 (lenI x1))then(bif(eqI x3 (lenI x1))then(bif(inR x2 (lenI x0))then(bif(fitM (Nat.succ (len x4)) 24)then(Z5a x0 x1 (w64 (x2+1)) x3 (List.append x4 [[(.int (gn (at' x0 (tn x2)))),(.int (gn (tk 1 (at' x0 (tn x2))))),(.int (gn (tk 2 (at' x0 (tn x2)))))]]))else none)else none)else(bif(ltI x2 (lenI x0))then(bif(inR x2 (lenI x0))then(bif(inR x3 (lenI x1))then(((callI tE Z5f [(.int (gn (at' x0 (tn x2)))),(.int (gn (tk 1 (at' x0 (tn x2))))),(.int (gn (tk 2 (at' x0 (tn x2))))),(.int (gn (at' x1 (tn x3)))),(.int (gn (tk 1 (at' x1 (tn x3))))),(.int (gn (tk 2 (at' x1 (tn x3)))))])).bind (fun r0=>(bif(leI (gn r0) 0)then(bif(inR x2 (lenI x0))then(bif(fitM (Nat.succ (len x4)) 24)then(Z5a x0 x1 (w64 (x2+1)) x3 (List.append x4 [[(.int (gn (at' x0 (tn x2)))),(.int (gn (tk 1 (at' x0 (tn x2))))),(.int (gn (tk 2 (at' x0 (tn x2)))))]]))else none)else none)else(bif(inR x3 (lenI x1))then(bif(fitM (Nat.succ (len x4)) 24)then(Z5a x0 x1 x2 (w64 (x3+1)) (List.append x4 [[(.int (gn (at' x1 (tn x3)))),(.int (gn (tk 1 (at' x1 (tn x3))))),(.int (gn (tk 2 (at' x1 (tn x3)))))]]))else none)else none))))else none)else none)else(bif(inR x3 (lenI x1))then(bif(fitM (Nat.succ (len x4)) 24)then(Z5a x0 x1 x2 (w64 (x3+1)) (List.append x4 [[(.int (gn (at' x1 (tn x3)))),(.int (gn (tk 1 (at' x1 (tn x3))))),(.int (gn (tk 2 (at' x1 (tn x3)))))]]))else none)else none)))else(some [(.sl x4)]))):=(loopK_run (by kernel_rfl)).trans (by kernel_rfl)
theorem ZBE (a0 a1:Rows):callI tE Z6q [.sl a0,.sl a1]=(Z5a a0 a1 0 0 []):=(callI_run rfl (by kernel_rfl)).trans (by kernel_rfl)
noncomputable def Z65 (x0 x1 x2:Int) (x3:Rows) (x4:Int) (x5 x6 x7 x8:Rows) (x9 x10 x11 x12:Int):Option (List Dat):=loopK tE Z61 0 ⟨[(1,(.ptr (500000,0) x0 0)),(3,(.i .i64 x1)),(4,(.i .i64 x2))],[((500000,0),(.box 54 [(.ro 224 Bool.false x3),(.i .i64 x4),(.ro 224 Bool.false x5),(.ro 224 Bool.false x6),(.ro 224 Bool.false x7),(.ro 277 Bool.false x8),(.i .i64 x9),(.i .i64 x10),(.i .i64 x11),(.i .i64 x12)]))]⟩
theorem Z88 (x0 x1 x2:Int) (x3:Rows) (x4:Int) (x5 x6 x7 x8:Rows) (x9 x10 x11 x12:Int):Z65 x0 x1 x2 x3 x4 x5 x6 x7 x8 x9 x10 x11 x12=(bif(ltI x2 (lenI x5))then(bif(leI 0 x1)then(bif(inR x2 (lenI x5))then(bif(inR x1 (lenI x7))then(((callI tE Z5f [(.int (gn (at' x5 (tn x2)))),(.int (gn (tk 1 (at' x5 (tn x2))))),(.int (gn (tk 2 (at' x5 (tn x2))))),(.int (gn (at' x7 (tn x1)))),(.int (gn (tk 1 (at' x7 (tn x1))))),(.int (gn (tk 2 (at' x7 (tn x1)))))])).bind (fun r0=>(bif(ltI (gn r0) 0)then(some [(.bool Bool.false)])else(Z65 x0 x1 (w64 (x2+1)) x3 x4 x5 x6 x7 x8 x9 x10 x11 x12))))else none)else none)else(Z65 x0 x1 (w64 (x2+1)) x3 x4 x5 x6 x7 x8 x9 x10 x11 x12))else(bif(eqI x11 1)then(((callI tE Z6Y [(.sl x8)])).bind (fun r0=>(bif(fitM ((len (gl r0))+(len x7)) 24)then(bif(fitM ((len (List.append (gl r0) x7))+(len x5)) 24)then(bif(fitM ((len (List.append (List.append (gl r0) x7) x5))+(len x6)) 24)then(bif(eqI x9 0)then(bif(eqI x10 0)then(bif(eqI (lenI x6) 0)then(((callI tE Z6i [(.sl x3),(.int x4),(.sl x5),(.sl x6),(.sl x7),(.sl x8),(.int x9),(.int x10),(.int x11),(.int x12)])).bind (fun r1=>(bif(leI (gn r1) 60)then(bif((leI 0 x4)&&(leI x4 (lenI x3)))then(((callI tE Z6a [(.sl (List.append (List.append (List.append (gl r0) x7) x5) x6)),(.sl (List.take (tn (x4-0)) (List.drop (tn 0) x3)))])).bind (fun r2=>(some [(.bool (gb r2))])))else none)else(some [(.bool Bool.false)]))))else(bif(leI 0 x1)then(((callI tE Z6i [(.sl x3),(.int x4),(.sl x5),(.sl x6),(.sl x7),(.sl x8),(.int x9),(.int x10),(.int x11),(.int x12)])).bind (fun r1=>(bif(leI (gn r1) 60)then(bif((leI 0 x4)&&(leI x4 (lenI x3)))then(((callI tE Z6a [(.sl (List.append (List.append (List.append (gl r0) x7) x5) x6)),(.sl (List.take (tn (x4-0)) (List.drop (tn 0) x3)))])).bind (fun r2=>(some [(.bool (gb r2))])))else none)else(some [(.bool Bool.false)]))))else(some [(.bool Bool.false)])))else(some [(.bool Bool.false)]))else(some [(.bool Bool.false)]))else none)else none)else none)))else(bif(!(eqI x4 (lenI x3)))then(some [(.bool Bool.false)])else(bif(ltI 0 (w64 ((lenI x5)+(lenI x6))))then(some [(.bool Bool.false)])else(bif(eqI x11 2)then(bif(ltI (lenI x8) 2)then(some [(.bool Bool.false)])else(bif(inR 0 (lenI x8))then(((callI tE Z6Z [(.int x9),(.int 0),(.int (lenI (gl (at' x8 (tn 0)))))])).bind (fun r0=>(bif(!(gb r0))then(some [(.bool Bool.false)])else(bif(inR 1 (lenI x8))then(((callI tE Z6Z [(.int x10),(.int 0),(.int (lenI (gl (at' x8 (tn 1)))))])).bind (fun r1=>(bif(!(gb r1))then(some [(.bool Bool.false)])else(bif(inR 0 (lenI x8))then(bif((leI 0 x9)&&(leI x9 (lenI (gl (at' x8 (tn 0))))))then(bif(inR 1 (lenI x8))then(bif((leI 0 x10)&&(leI x10 (lenI (gl (at' x8 (tn 1))))))then(((callI tE Z6q [(.sl (List.take (tn (x9-0)) (List.drop (tn 0) (gl (at' x8 (tn 0)))))),(.sl (List.take (tn (x10-0)) (List.drop (tn 0) (gl (at' x8 (tn 1))))))])).bind (fun r2=>(bif(inR 0 (lenI x8))then(bif(inR 1 (lenI x8))then(((callI tE Z6q [(.sl (gl (at' x8 (tn 0)))),(.sl (gl (at' x8 (tn 1))))])).bind (fun r3=>(bif((leI 0 (w64 (x9+x10)))&&(leI (w64 (x9+x10)) (lenI (gl r3))))then(((callI tE Z7l [(.sl x7),(.sl (List.take (tn ((w64 (x9+x10))-0)) (List.drop (tn 0) (gl r3))))])).bind (fun r4=>(bif(gb r4)then(((callI tE Z7l [(.sl (gl r2)),(.sl x7)])).bind (fun r5=>(bif(gb r5)then(((callI tE Z6Y [(.sl x8)])).bind (fun r6=>(((callI tE Z6a [(.sl (gl r6)),(.sl x3)])).bind (fun r7=>(some [(.bool (gb r7))])))))else(some [(.bool Bool.false)]))))else(some [(.bool Bool.false)]))))else none)))else none)else none)))else none)else none)else none)else none))))else none))))else none))else(bif(ltI 1 (lenI x8))then(some [(.bool Bool.false)])else(bif(!(eqI x10 0))then(some [(.bool Bool.false)])else(bif(ltI 0 (lenI x7))then(some [(.bool Bool.false)])else(((callI tE Z6Y [(.sl x8)])).bind (fun r0=>(((callI tE Z6a [(.sl (gl r0)),(.sl x3)])).bind (fun r1=>(bif(!(gb r1))then(some [(.bool Bool.false)])else(bif(eqI x11 3)then(bif(eqI (lenI x8) 1)then(((callI tE Z6Z [(.int x9),(.int 0),(.int (w64 ((lenI x3)-1)))])).bind (fun r2=>(some [(.bool (gb r2))])))else(some [(.bool Bool.false)]))else(bif(eqI x11 4)then(some [(.bool (eqI x9 (lenI x3)))])else(some [(.bool Bool.false)])))))))))))))))):=(loopK_run (by kernel_rfl)).trans (by kernel_rfl)
theorem ZAk (a0:Rows) (a1:Int) (a2 a3 a4 a5:Rows) (a6 a7 a8 a9:Int):callI tE Z61 [.sl a0,.int a1,.sl a2,.sl a3,.sl a4,.sl a5,.int a6,.int a7,.int a8,.int a9]=(((callI tE Z5r [(.sl a0)])).bind (fun r0=>(bif(!(gb r0))then(some [(.bool Bool.false)])else(((callI tE Z6Z [(.int a1),(.int 0),(.int (lenI a0))])).bind (fun r1=>(bif(!(gb r1))then(some [(.bool Bool.false)])else(((callI tE Z7K [(.sl a5)])).bind (fun r2=>(bif(!(gb r2))then(some [(.bool Bool.false)])else(bif(ltI a9 0)then(some [(.bool Bool.false)])else(((callI tE Z7g [(.sl a4)])).bind (fun r3=>(bif(!(gb r3))then(some [(.bool Bool.false)])else(Z65 0 (w64 ((lenI a4)-1)) 0 a0 a1 a2 a3 a4 a5 a6 a7 a8 a9)))))))))))))):=(callI_run rfl (by kernel_rfl)).trans (by kernel_rfl)
noncomputable def Z6b (x0:Rows) (x1:Int) (x2:Rows):Option (List Dat):=loopK tE Z91 0 ⟨[(0,(.ro 277 Bool.false x0)),(3,(.own (500000,0))),(4,(.i .i64 x1))],[((500000,0),(.row 277 x2 Bool.true 0 []))]⟩
theorem Z9Z (x0:Rows) (x1:Int) (x2:Rows):Z6b x0 x1 x2=(bif(ltI x1 (lenI x0))then(bif(inR x1 (lenI x0))then(bif(fitM (0+(len (gl (at' x0 (tn x1))))) 24)then(bif(fitM (Nat.succ (len x2)) 24)then(Z6b x0 (w64 (x1+1)) (List.append x2 [[(.sl (gl (at' x0 (tn x1))))]]))else none)else none)else none)else(some [(.sl x2)])):=(loopK_run (by kernel_rfl)).trans (by kernel_rfl)
theorem ZD2 (a0:Rows):callI tE Z91 [.sl a0]=(Z6b a0 0 []):=(callI_run rfl (by kernel_rfl)).trans (by kernel_rfl)
theorem ZD3 (a0:Rows) (a1:Int) (a2 a3 a4 a5:Rows) (a6 a7 a8 a9:Int):callI tE Z9w [.sl a0,.int a1,.sl a2,.sl a3,.sl a4,.sl a5,.int a6,.int a7,.int a8,.int a9]=(bif(fitM (0+(len a0)) 24)then(bif(fitM (0+(len a2)) 24)then(bif(fitM (0+(len a3)) 24)then(bif(fitM (0+(len a4)) 24)then(((callI tE Z91 [(.sl a5)])).bind (fun r0=>(some [(.sl a0),(.int a1),(.sl a2),(.sl a3),(.sl a4),(.sl (gl r0)),(.int a6),(.int a7),(.int a8),(.int a9)])))else none)else none)else none)else none):=(callI_run rfl (by kernel_rfl)).trans (by kernel_rfl)
theorem ZD4 (a0:Rows) (a1:Int) (a2 a3 a4 a5:Rows) (a6 a7 a8 a9 a10 a11:Int):callI tE Z87 [.sl a0,.int a1,.sl a2,.sl a3,.sl a4,.sl a5,.int a6,.int a7,.int a8,.int a9,.int a10,.int a11]=(bif(leI (lenI a5) a10)then(some [(.int 0)])else(bif(ltI a11 0)then(some [(.int 0)])else(bif(inR a10 (lenI a5))then(bif(leI (lenI (gl (at' a5 (tn a10)))) a11)then(some [(.int 0)])else(bif(inR a10 (lenI a5))then(bif(inR a11 (lenI (gl (at' a5 (tn a10)))))then(((callI tE Z5O [(.int (gn (at' (gl (at' a5 (tn a10))) (tn a11)))),(.int (gn (tk 1 (at' (gl (at' a5 (tn a10))) (tn a11))))),(.int (gn (tk 2 (at' (gl (at' a5 (tn a10))) (tn a11)))))])).bind (fun r0=>(some [(.int (gn r0))])))else none)else none))else none))):=(callI_run rfl (by kernel_rfl)).trans (by kernel_rfl)
theorem ZB0 (a0:Rows) (a1:Int) (a2 a3 a4 a5:Rows) (a6 a7 a8 a9:Int):callI tE Z6j [.sl a0,.int a1,.sl a2,.sl a3,.sl a4,.sl a5,.int a6,.int a7,.int a8,.int a9]=(bif(eqI a8 1)then(((callI tE Z7Q [(.sl a2)])).bind (fun r0=>(((callI tE Z7Q [(.sl a3)])).bind (fun r1=>(some [(.int (w64 ((gn r0)+(gn r1))))])))))else(bif(eqI a8 2)then(bif(ltI a6 0)then(some [(.int 0)])else(bif(ltI a7 0)then(some [(.int 0)])else(((callI tE Z87 [(.sl a0),(.int a1),(.sl a2),(.sl a3),(.sl a4),(.sl a5),(.int a6),(.int a7),(.int a8),(.int a9),(.int 0),(.int a6)])).bind (fun r0=>(((callI tE Z87 [(.sl a0),(.int a1),(.sl a2),(.sl a3),(.sl a4),(.sl a5),(.int a6),(.int a7),(.int a8),(.int a9),(.int 1),(.int a7)])).bind (fun r1=>(some [(.int (w64 ((gn r0)+(gn r1))))])))))))else(bif(eqI a8 3)then(((callI tE Z87 [(.sl a0),(.int a1),(.sl a2),(.sl a3),(.sl a4),(.sl a5),(.int a6),(.int a7),(.int a8),(.int a9),(.int 0),(.int a6)])).bind (fun r0=>(some [(.int (gn r0))])))else(some [(.int 0)])))):=(callI_run rfl (by kernel_rfl)).trans (by kernel_rfl)
theorem ZE8 (a0 a1 a2:Int) (a3:Rows):callI tE Z9l [.int a0,.int a1,.int a2,.sl a3]=(bif(ltI 0 (lenI a3))then(bif(inR (w64 ((lenI a3)-1)) (lenI a3))then(((callI tE Z5Q [(.int a0),(.int a1),(.int a2),(.int (gn (at' a3 (tn (w64 ((lenI a3)-1)))))),(.int (gn (tk 1 (at' a3 (tn (w64 ((lenI a3)-1))))))),(.int (gn (tk 2 (at' a3 (tn (w64 ((lenI a3)-1)))))))])).bind (fun r0=>(some [(.bool (ltI (gn r0) 0))])))else none)else(some [(.bool Bool.false)])):=(callI_run rfl (by kernel_rfl)).trans (by kernel_rfl)
noncomputable def Z74 (x0:Rows) (x1 x2:Int):Option (List Dat):=loopK tE Z7L 0 ⟨[(5,(.ro 277 Bool.false x0)),(6,(.i .i64 x1)),(7,(.i .i64 x2))],[]⟩
theorem Z8O (x0:Rows) (x1 x2:Int):Z74 x0 x1 x2=(bif(ltI x2 x1)then(bif(inR x2 (lenI x0))then(bif(eqI (lenI (gl (at' x0 (tn x2)))) 0)then(some [(.bool Bool.false)])else(((callI tE Z7i [(.sl (gl (at' x0 (tn x2))))])).bind (fun r0=>(bif(!(gb r0))then(some [(.bool Bool.false)])else(((callI tE Z68 [(.sl (gl (at' x0 (tn x2))))])).bind (fun r1=>(bif(!(gb r1))then(some [(.bool Bool.false)])else(Z74 x0 x1 (w64 (x2+1))))))))))else none)else(some [(.bool Bool.true)])):=(loopK_run (by kernel_rfl)).trans (by kernel_rfl)
theorem ZB1 (a0:Rows):callI tE Z7L [.sl a0]=(Z74 a0 (lenI a0) 0):=(callI_run rfl (by kernel_rfl)).trans (by kernel_rfl)
noncomputable def Z64 (x0:Rows) (x1 x2:Int) (x3:Rows):Option (List Dat):=loopK tE Z7Z 0 ⟨[(3,(.own (500000,0))),(7,(.ro 277 Bool.false x0)),(8,(.i .i64 x1)),(9,(.i .i64 x2))],[((500000,0),(.row 224 x3 Bool.true 0 []))]⟩
theorem Z8c (x0:Rows) (x1 x2:Int) (x3:Rows):Z64 x0 x1 x2 x3=(bif(ltI x2 x1)then(bif(inR x2 (lenI x0))then(bif(fitM ((len x3)+(len (gl (at' x0 (tn x2))))) 24)then(Z64 x0 x1 (w64 (x2+1)) (List.append x3 (gl (at' x0 (tn x2)))))else none)else none)else(some [(.sl x3)])):=(loopK_run (by kernel_rfl)).trans (by kernel_rfl)
theorem ZBF (a0:Rows):callI tE Z7Z [.sl a0]=(Z64 a0 (lenI a0) 0 []):=(callI_run rfl (by kernel_rfl)).trans (by kernel_rfl)
noncomputable def Z6R (x0:Rows) (x1 x2:Int) (x3:Rows):Option (List Dat):=loopK tE Z7B 0 ⟨[(3,(.own (500000,0))),(7,(.ro 51 Bool.false x0)),(8,(.i .i64 x1)),(9,(.i .i64 x2))],[((500000,0),(.row 224 x3 Bool.true 0 []))]⟩
theorem Z9P (x0:Rows) (x1 x2:Int) (x3:Rows):Z6R x0 x1 x2 x3=(bif(ltI x2 x1)then(bif(inR x2 (lenI x0))then(bif(fitM ((len x3)+(len (gl (at' x0 (tn x2))))) 24)then(Z6R x0 x1 (w64 (x2+1)) (List.append x3 (gl (at' x0 (tn x2)))))else none)else none)else(some [(.sl x3)])):=(loopK_run (by kernel_rfl)).trans (by kernel_rfl)
theorem ZCg (a0:Rows):callI tE Z7B [.sl a0]=(Z6R a0 (lenI a0) 0 []):=(callI_run rfl (by kernel_rfl)).trans (by kernel_rfl)
noncomputable def Z5b (x0 x1 x2:Rows):Option (List Dat):=loopK tE Z6r 0 ⟨[(0,(.ro 224 Bool.false x0)),(1,(.ro 224 Bool.false x1)),(5,(.own (500000,0)))],[((500000,0),(.row 224 x2 Bool.true 0 []))]⟩
theorem Z6g (x0 x1 x2:Rows):Z5b x0 x1 x2=(bif(ltI 0 (lenI x0))then(bif(eqI (lenI x1) 0)then(bif(inR 0 (lenI x0))then(bif(fitM (Nat.succ (len x2)) 24)then(bif((leI 0 1)&&(leI 1 (lenI x0)))then(Z5b (List.take (tn ((lenI x0)-1)) (List.drop (tn 1) x0)) x1 (List.append x2 [[(.int (gn (at' x0 (tn 0)))),(.int (gn (tk 1 (at' x0 (tn 0))))),(.int (gn (tk 2 (at' x0 (tn 0)))))]]))else none)else none)else none)else(bif(ltI 0 (lenI x0))then(bif(inR 0 (lenI x0))then(bif(inR 0 (lenI x1))then(((callI tE Z5Q [(.int (gn (at' x0 (tn 0)))),(.int (gn (tk 1 (at' x0 (tn 0))))),(.int (gn (tk 2 (at' x0 (tn 0))))),(.int (gn (at' x1 (tn 0)))),(.int (gn (tk 1 (at' x1 (tn 0))))),(.int (gn (tk 2 (at' x1 (tn 0)))))])).bind (fun r0=>(bif(leI (gn r0) 0)then(bif(inR 0 (lenI x0))then(bif(fitM (Nat.succ (len x2)) 24)then(bif((leI 0 1)&&(leI 1 (lenI x0)))then(Z5b (List.take (tn ((lenI x0)-1)) (List.drop (tn 1) x0)) x1 (List.append x2 [[(.int (gn (at' x0 (tn 0)))),(.int (gn (tk 1 (at' x0 (tn 0))))),(.int (gn (tk 2 (at' x0 (tn 0)))))]]))else none)else none)else none)else(bif(inR 0 (lenI x1))then(bif(fitM (Nat.succ (len x2)) 24)then(bif((leI 0 1)&&(leI 1 (lenI x1)))then(Z5b x0 (List.take (tn ((lenI x1)-1)) (List.drop (tn 1) x1)) (List.append x2 [[(.int (gn (at' x1 (tn 0)))),(.int (gn (tk 1 (at' x1 (tn 0))))),(.int (gn (tk 2 (at' x1 (tn 0)))))]]))else none)else none)else none))))else none)else none)else(bif(inR 0 (lenI x1))then(bif(fitM (Nat.succ (len x2)) 24)then(bif((leI 0 1)&&(leI 1 (lenI x1)))then(Z5b x0 (List.take (tn ((lenI x1)-1)) (List.drop (tn 1) x1)) (List.append x2 [[(.int (gn (at' x1 (tn 0)))),(.int (gn (tk 1 (at' x1 (tn 0))))),(.int (gn (tk 2 (at' x1 (tn 0)))))]]))else none)else none)else none)))else(bif(ltI 0 (lenI x1))then(bif(eqI (lenI x1) 0)then(bif(inR 0 (lenI x0))then(bif(fitM (Nat.succ (len x2)) 24)then(bif((leI 0 1)&&(leI 1 (lenI x0)))then(Z5b (List.take (tn ((lenI x0)-1)) (List.drop (tn 1) x0)) x1 (List.append x2 [[(.int (gn (at' x0 (tn 0)))),(.int (gn (tk 1 (at' x0 (tn 0))))),(.int (gn (tk 2 (at' x0 (tn 0)))))]]))else none)else none)else none)else(bif(ltI 0 (lenI x0))then(bif(inR 0 (lenI x0))then(bif(inR 0 (lenI x1))then(((callI tE Z5Q [(.int (gn (at' x0 (tn 0)))),(.int (gn (tk 1 (at' x0 (tn 0))))),(.int (gn (tk 2 (at' x0 (tn 0))))),(.int (gn (at' x1 (tn 0)))),(.int (gn (tk 1 (at' x1 (tn 0))))),(.int (gn (tk 2 (at' x1 (tn 0)))))])).bind (fun r0=>(bif(leI (gn r0) 0)then(bif(inR 0 (lenI x0))then(bif(fitM (Nat.succ (len x2)) 24)then(bif((leI 0 1)&&(leI 1 (lenI x0)))then(Z5b (List.take (tn ((lenI x0)-1)) (List.drop (tn 1) x0)) x1 (List.append x2 [[(.int (gn (at' x0 (tn 0)))),(.int (gn (tk 1 (at' x0 (tn 0))))),(.int (gn (tk 2 (at' x0 (tn 0)))))]]))else none)else none)else none)else(bif(inR 0 (lenI x1))then(bif(fitM (Nat.succ (len x2)) 24)then(bif((leI 0 1)&&(leI 1 (lenI x1)))then(Z5b x0 (List.take (tn ((lenI x1)-1)) (List.drop (tn 1) x1)) (List.append x2 [[(.int (gn (at' x1 (tn 0)))),(.int (gn (tk 1 (at' x1 (tn 0))))),(.int (gn (tk 2 (at' x1 (tn 0)))))]]))else none)else none)else none))))else none)else none)else(bif(inR 0 (lenI x1))then(bif(fitM (Nat.succ (len x2)) 24)then(bif((leI 0 1)&&(leI 1 (lenI x1)))then(Z5b x0 (List.take (tn ((lenI x1)-1)) (List.drop (tn 1) x1)) (List.append x2 [[(.int (gn (at' x1 (tn 0)))),(.int (gn (tk 1 (at' x1 (tn 0))))),(.int (gn (tk 2 (at' x1 (tn 0)))))]]))else none)else none)else none)))else(some [(.sl x2)]))):=(loopK_run (by kernel_rfl)).trans (by kernel_rfl)
theorem ZBG (a0 a1:Rows):callI tE Z6r [.sl a0,.sl a1]=(Z5b a0 a1 []):=(callI_run rfl (by kernel_rfl)).trans (by kernel_rfl)
noncomputable def Z6N (x0:Int) (x1:Rows) (x2 x3:Int) (x4:Rows) (x5:Int) (x6 x7 x8 x9:Rows) (x10 x11 x12 x13:Int):Option (List Dat):=loopK tE Z62 0 ⟨[(3,(.ptr (500000,0) x0 0)),(41,(.ro 224 Bool.false x1)),(42,(.i .i64 x2)),(43,(.i .i64 x3))],[((500000,0),(.box 54 [(.ro 224 Bool.false x4),(.i .i64 x5),(.ro 224 Bool.false x6),(.ro 224 Bool.false x7),(.ro 224 Bool.false x8),(.ro 277 Bool.false x9),(.i .i64 x10),(.i .i64 x11),(.i .i64 x12),(.i .i64 x13)]))]⟩
theorem Z89 (x0:Int) (x1:Rows) (x2 x3:Int) (x4:Rows) (x5:Int) (x6 x7 x8 x9:Rows) (x10 x11 x12 x13:Int):Z6N x0 x1 x2 x3 x4 x5 x6 x7 x8 x9 x10 x11 x12 x13=(bif(ltI x3 x2)then(bif(inR x3 (lenI x1))then(((callI tE Z9l [(.int (gn (at' x1 (tn x3)))),(.int (gn (tk 1 (at' x1 (tn x3))))),(.int (gn (tk 2 (at' x1 (tn x3))))),(.sl x8)])).bind (fun r0=>(bif(gb r0)then(some [(.bool Bool.false)])else(Z6N x0 x1 x2 (w64 (x3+1)) x4 x5 x6 x7 x8 x9 x10 x11 x12 x13))))else none)else(((callI tE Z7Z [(.sl x9)])).bind (fun r0=>(bif(eqI x12 1)then(bif(eqI x10 0)then(bif(eqI x11 0)then(bif(ltI 0 (lenI x8))then(((callI tE Z6j [(.sl x4),(.int x5),(.sl x6),(.sl x7),(.sl x8),(.sl x9),(.int x10),(.int x11),(.int x12),(.int x13)])).bind (fun r1=>(bif(leI (gn r1) 60)then(((callI tE Z7B [(.sl [[(.sl (gl r0))],[(.sl x8)],[(.sl x6)],[(.sl x7)]])])).bind (fun r2=>(bif((leI 0 x5)&&(leI x5 (lenI x4)))then(((callI tE Z7R [(.sl (gl r2)),(.sl (List.take (tn (x5-0)) (List.drop (tn 0) x4)))])).bind (fun r3=>(some [(.bool (gb r3))])))else none)))else(some [(.bool Bool.false)]))))else(bif(eqI (lenI x7) 0)then(((callI tE Z6j [(.sl x4),(.int x5),(.sl x6),(.sl x7),(.sl x8),(.sl x9),(.int x10),(.int x11),(.int x12),(.int x13)])).bind (fun r1=>(bif(leI (gn r1) 60)then(((callI tE Z7B [(.sl [[(.sl (gl r0))],[(.sl x8)],[(.sl x6)],[(.sl x7)]])])).bind (fun r2=>(bif((leI 0 x5)&&(leI x5 (lenI x4)))then(((callI tE Z7R [(.sl (gl r2)),(.sl (List.take (tn (x5-0)) (List.drop (tn 0) x4)))])).bind (fun r3=>(some [(.bool (gb r3))])))else none)))else(some [(.bool Bool.false)]))))else(some [(.bool Bool.false)])))else(some [(.bool Bool.false)]))else(some [(.bool Bool.false)]))else(bif(!(eqI x5 (lenI x4)))then(some [(.bool Bool.false)])else(bif(ltI 0 (lenI x6))then(some [(.bool Bool.false)])else(bif(ltI 0 (lenI x7))then(some [(.bool Bool.false)])else(((callI tE Z7R [(.sl (gl r0)),(.sl x4)])).bind (fun r1=>(bif(!(gb r1))then(some [(.bool Bool.false)])else(bif(eqI x12 2)then(bif(ltI (lenI x9) 2)then(some [(.bool Bool.false)])else(bif(inR 0 (lenI x9))then(bif(inR 1 (lenI x9))then(((callI tE Z6G [(.int x10),(.int 0),(.int (lenI (gl (at' x9 (tn 0)))))])).bind (fun r2=>(bif(!(gb r2))then(some [(.bool Bool.false)])else(((callI tE Z6G [(.int x11),(.int 0),(.int (lenI (gl (at' x9 (tn 1)))))])).bind (fun r3=>(bif(!(gb r3))then(some [(.bool Bool.false)])else(bif((leI 0 x10)&&(leI x10 (lenI (gl (at' x9 (tn 0))))))then(bif((leI 0 x11)&&(leI x11 (lenI (gl (at' x9 (tn 1))))))then(((callI tE Z6r [(.sl (List.take (tn (x10-0)) (List.drop (tn 0) (gl (at' x9 (tn 0)))))),(.sl (List.take (tn (x11-0)) (List.drop (tn 0) (gl (at' x9 (tn 1))))))])).bind (fun r4=>(((callI tE Z7h [(.sl x8),(.sl (gl r4))])).bind (fun r5=>(bif(gb r5)then(((callI tE Z6r [(.sl (gl (at' x9 (tn 0)))),(.sl (gl (at' x9 (tn 1))))])).bind (fun r6=>(bif((leI 0 (w64 (x10+x11)))&&(leI (w64 (x10+x11)) (lenI (gl r6))))then(((callI tE Z7h [(.sl x8),(.sl (List.take (tn ((w64 (x10+x11))-0)) (List.drop (tn 0) (gl r6))))])).bind (fun r7=>(some [(.bool (gb r7))])))else none)))else(some [(.bool Bool.false)]))))))else none)else none)))))))else none)else none))else(bif(eqI x12 3)then(bif(eqI (lenI x9) 1)then(((callI tE Z6G [(.int x10),(.int 0),(.int (w64 ((lenI x4)-1)))])).bind (fun r2=>(bif(gb r2)then(bif(eqI x11 0)then(some [(.bool (eqI (lenI x8) 0))])else(some [(.bool Bool.false)]))else(some [(.bool Bool.false)]))))else(some [(.bool Bool.false)]))else(bif(eqI x12 4)then(bif(leI (lenI x9) 1)then(bif(eqI x10 (lenI x4))then(bif(eqI x11 0)then(some [(.bool (eqI (lenI x8) 0))])else(some [(.bool Bool.false)]))else(some [(.bool Bool.false)]))else(some [(.bool Bool.false)]))else(some [(.bool Bool.false)])))))))))))))):=(loopK_run (by kernel_rfl)).trans (by kernel_rfl)
theorem ZAl (a0:Rows) (a1:Int) (a2 a3 a4 a5:Rows) (a6 a7 a8 a9:Int):callI tE Z62 [.sl a0,.int a1,.sl a2,.sl a3,.sl a4,.sl a5,.int a6,.int a7,.int a8,.int a9]=(((callI tE Z68 [(.sl a0)])).bind (fun r0=>(bif(!(gb r0))then(some [(.bool Bool.false)])else(((callI tE Z6G [(.int a1),(.int 0),(.int (lenI a0))])).bind (fun r1=>(bif(!(gb r1))then(some [(.bool Bool.false)])else(((callI tE Z7L [(.sl a5)])).bind (fun r2=>(bif(!(gb r2))then(some [(.bool Bool.false)])else(bif(ltI a9 0)then(some [(.bool Bool.false)])else(((callI tE Z7i [(.sl a4)])).bind (fun r3=>(bif(!(gb r3))then(some [(.bool Bool.false)])else(Z6N 0 a2 (lenI a2) 0 a0 a1 a2 a3 a4 a5 a6 a7 a8 a9)))))))))))))):=(callI_run rfl (by kernel_rfl)).trans (by kernel_rfl)
noncomputable def Z6H (x0:Rows) (x1 x2:Int) (x3:Rows):Option (List Dat):=loopK tE Z8C 0 ⟨[(3,(.own (500000,0))),(6,(.ro 277 Bool.false x0)),(7,(.i .i64 x1)),(8,(.i .i64 x2))],[((500000,0),(.row 277 x3 Bool.true 0 []))]⟩
theorem Z98 (x0:Rows) (x1 x2:Int) (x3:Rows):Z6H x0 x1 x2 x3=(bif(ltI x2 x1)then(bif(inR x2 (lenI x0))then(((callI tE Z6h [(.sl (gl (at' x0 (tn x2))))])).bind (fun r0=>(bif(fitM (Nat.succ (len x3)) 24)then(Z6H x0 x1 (w64 (x2+1)) (List.append x3 [[(.sl (gl r0))]]))else none)))else none)else(some [(.sl x3)])):=(loopK_run (by kernel_rfl)).trans (by kernel_rfl)
theorem ZCA (a0:Rows):callI tE Z8C [.sl a0]=(Z6H a0 (lenI a0) 0 []):=(callI_run rfl (by kernel_rfl)).trans (by kernel_rfl)
theorem ZBH (a0:Rows) (a1:Int) (a2 a3 a4 a5:Rows) (a6 a7 a8 a9:Int):callI tE Z8T [.sl a0,.int a1,.sl a2,.sl a3,.sl a4,.sl a5,.int a6,.int a7,.int a8,.int a9]=(((callI tE Z6h [(.sl a0)])).bind (fun r0=>(((callI tE Z6h [(.sl a2)])).bind (fun r1=>(((callI tE Z6h [(.sl a3)])).bind (fun r2=>(((callI tE Z6h [(.sl a4)])).bind (fun r3=>(((callI tE Z8C [(.sl a5)])).bind (fun r4=>(some [(.sl (gl r0)),(.int a1),(.sl (gl r1)),(.sl (gl r2)),(.sl (gl r3)),(.sl (gl r4)),(.int a6),(.int a7),(.int a8),(.int a9)]))))))))))):=(callI_run rfl (by kernel_rfl)).trans (by kernel_rfl)
noncomputable def Z6S (x0:Rows) (x1 x2:Int):Option (List Dat):=loopK tE Z7n 0 ⟨[(0,(.ro 224 Bool.false x0)),(3,(.i .i64 x1)),(4,(.i .i64 x2))],[]⟩
theorem Z7X (x0:Rows) (x1 x2:Int):Z6S x0 x1 x2=(bif(ltI x2 (lenI x0))then(bif(ltI x1 0)then(Z6S x0 x2 (w64 (x2+1)))else(bif(inR x2 (lenI x0))then(bif(inR x1 (lenI x0))then(((callI tE Z5f [(.int (gn (at' x0 (tn x2)))),(.int (gn (tk 1 (at' x0 (tn x2))))),(.int (gn (tk 2 (at' x0 (tn x2))))),(.int (gn (at' x0 (tn x1)))),(.int (gn (tk 1 (at' x0 (tn x1))))),(.int (gn (tk 2 (at' x0 (tn x1)))))])).bind (fun r0=>(bif(ltI (gn r0) 0)then(Z6S x0 x2 (w64 (x2+1)))else(Z6S x0 x1 (w64 (x2+1))))))else none)else none))else(some [(.int x1)])):=(loopK_run (by kernel_rfl)).trans (by kernel_rfl)
theorem ZBf (a0:Rows):callI tE Z7n [.sl a0]=(Z6S a0 (-1) 0):=(callI_run rfl (by kernel_rfl)).trans (by kernel_rfl)
theorem ZD5 (a0:Rows) (a1:Int):callI tE Z9x [.sl a0,.int a1]=(bif((leI 0 a1)&&(leI a1 (lenI a0)))then(bif(fitM (0+(len (List.take (tn (a1-0)) (List.drop (tn 0) a0)))) 24)then(bif((leI 0 (w64 (a1+1)))&&(leI (w64 (a1+1)) (lenI a0)))then(bif(fitM ((len (List.take (tn (a1-0)) (List.drop (tn 0) a0)))+(len (List.take (tn ((lenI a0)-(w64 (a1+1)))) (List.drop (tn (w64 (a1+1))) a0)))) 24)then(some [(.sl (List.append (List.take (tn (a1-0)) (List.drop (tn 0) a0)) (List.take (tn ((lenI a0)-(w64 (a1+1)))) (List.drop (tn (w64 (a1+1))) a0))))])else none)else none)else none)else none):=(callI_run rfl (by kernel_rfl)).trans (by kernel_rfl)
theorem ZBI (a0:Rows) (a1:Int) (a2 a3 a4 a5:Rows) (a6 a7 a8 a9:Int):callI tE Z9R [.sl a0,.int a1,.sl a2,.sl a3,.sl a4,.sl a5,.int a6,.int a7,.int a8,.int a9]=(bif(eqI (lenI a2) 0)then(bif(fitM (Nat.succ (len a5)) 24)then(some [(.sl a0),(.int a1),(.sl a3),(.sl []),(.sl []),(.sl (List.append a5 [[(.sl a4)]])),(.int a6),(.int a7),(.int a8),(.int a9)])else none)else(((callI tE Z7n [(.sl a2)])).bind (fun r0=>(bif(inR (gn r0) (lenI a2))then(((callI tE Z5m [(.int (gn (at' a2 (tn (gn r0))))),(.int (gn (tk 1 (at' a2 (tn (gn r0)))))),(.int (gn (tk 2 (at' a2 (tn (gn r0))))))])).bind (fun r1=>(bif(inR (gn r0) (lenI a2))then(bif(fitM (Nat.succ (len a4)) 24)then(((callI tE Z9x [(.sl a2),(.int (gn r0))])).bind (fun r2=>(some [(.sl a0),(.int a1),(.sl (gl r2)),(.sl a3),(.sl (List.append a4 [[(.int (gn (at' a2 (tn (gn r0))))),(.int (gn (tk 1 (at' a2 (tn (gn r0)))))),(.int (gn (tk 2 (at' a2 (tn (gn r0))))))]])),(.sl a5),(.int a6),(.int a7),(.int a8),(.int (w64 (a9+(gn r1))))])))else none)else none)))else none)))):=(callI_run rfl (by kernel_rfl)).trans (by kernel_rfl)
theorem ZD6 (a0:Rows) (a1:Int) (a2 a3 a4 a5:Rows) (a6 a7 a8 a9:Int):callI tE Z6E [.sl a0,.int a1,.sl a2,.sl a3,.sl a4,.sl a5,.int a6,.int a7,.int a8,.int a9]=(bif(eqI (lenI a5) 1)then(bif(eqI (lenI a5) 0)then(some [(.sl a0),(.int a1),(.sl a2),(.sl a3),(.sl a4),(.sl a5),(.int 0),(.int 0),(.int 4),(.int a9)])else(some [(.sl a0),(.int a1),(.sl a2),(.sl a3),(.sl a4),(.sl a5),(.int 0),(.int 0),(.int 3),(.int a9)]))else(bif(eqI (lenI a5) 0)then(some [(.sl a0),(.int a1),(.sl a2),(.sl a3),(.sl a4),(.sl a5),(.int 0),(.int 0),(.int 4),(.int a9)])else(some [(.sl a0),(.int a1),(.sl a2),(.sl a3),(.sl a4),(.sl a5),(.int 0),(.int 0),(.int 2),(.int a9)]))):=(callI_run rfl (by kernel_rfl)).trans (by kernel_rfl)
theorem ZBg (a0:Rows) (a1:Int) (a2 a3 a4 a5:Rows) (a6 a7 a8 a9 a10:Int):callI tE Z8s [.sl a0,.int a1,.sl a2,.sl a3,.sl a4,.sl a5,.int a6,.int a7,.int a8,.int a9,.int a10]=(((callI tE Z9w [(.sl a0),(.int a1),(.sl a2),(.sl a3),(.sl a4),(.sl a5),(.int a6),(.int a7),(.int a8),(.int a9)])).bind (fun r0=>(((callI tE Z61 [(.sl a0),(.int a1),(.sl a2),(.sl a3),(.sl a4),(.sl a5),(.int a6),(.int a7),(.int a8),(.int a9)])).bind (fun r1=>(bif(!(gb r1))then(some [(.sl (gl r0)),(.int (gn (tk 1 r0))),(.sl (gl (tk 2 r0))),(.sl (gl (tk 3 r0))),(.sl (gl (tk 4 r0))),(.sl (gl (tk 5 r0))),(.int (gn (tk 6 r0))),(.int (gn (tk 7 r0))),(.int (gn (tk 8 r0))),(.int (gn (tk 9 r0))),(.sl []),(.bool Bool.false)])else(((callI tE Z6Z [(.int a10),(.int 8),(.int 60)])).bind (fun r2=>(bif(!(gb r2))then(some [(.sl (gl r0)),(.int (gn (tk 1 r0))),(.sl (gl (tk 2 r0))),(.sl (gl (tk 3 r0))),(.sl (gl (tk 4 r0))),(.sl (gl (tk 5 r0))),(.int (gn (tk 6 r0))),(.int (gn (tk 7 r0))),(.int (gn (tk 8 r0))),(.int (gn (tk 9 r0))),(.sl []),(.bool Bool.false)])else(bif(eqI a8 4)then(some [(.sl (gl r0)),(.int (gn (tk 1 r0))),(.sl (gl (tk 2 r0))),(.sl (gl (tk 3 r0))),(.sl (gl (tk 4 r0))),(.sl (gl (tk 5 r0))),(.int (gn (tk 6 r0))),(.int (gn (tk 7 r0))),(.int (gn (tk 8 r0))),(.int (gn (tk 9 r0))),(.sl []),(.bool Bool.false)])else(bif(eqI a8 1)then(bif(ltI a1 (lenI a0))then(((callI tE Z6i [(.sl a0),(.int a1),(.sl a2),(.sl a3),(.sl a4),(.sl a5),(.int a6),(.int a7),(.int a8),(.int a9)])).bind (fun r3=>(bif(inR a1 (lenI a0))then(((callI tE Z5m [(.int (gn (at' a0 (tn a1)))),(.int (gn (tk 1 (at' a0 (tn a1))))),(.int (gn (tk 2 (at' a0 (tn a1)))))])).bind (fun r4=>(bif(leI (w64 ((gn r3)+(gn r4))) a10)then(bif(inR a1 (lenI a0))then(bif(ltI 0 (lenI a4))then(bif(inR (w64 ((lenI a4)-1)) (lenI a4))then(((callI tE Z5f [(.int (gn (at' a0 (tn a1)))),(.int (gn (tk 1 (at' a0 (tn a1))))),(.int (gn (tk 2 (at' a0 (tn a1))))),(.int (gn (at' a4 (tn (w64 ((lenI a4)-1)))))),(.int (gn (tk 1 (at' a4 (tn (w64 ((lenI a4)-1))))))),(.int (gn (tk 2 (at' a4 (tn (w64 ((lenI a4)-1)))))))])).bind (fun r5=>(bif(ltI (gn r5) 0)then(bif(fitM (Nat.succ (len (gl (tk 3 r0)))) 24)then(some [(.sl (gl r0)),(.int (w64 (a1+1))),(.sl (gl (tk 2 r0))),(.sl (List.append (gl (tk 3 r0)) [[(.int (gn (at' a0 (tn a1)))),(.int (gn (tk 1 (at' a0 (tn a1))))),(.int (gn (tk 2 (at' a0 (tn a1)))))]])),(.sl (gl (tk 4 r0))),(.sl (gl (tk 5 r0))),(.int (gn (tk 6 r0))),(.int (gn (tk 7 r0))),(.int (gn (tk 8 r0))),(.int (gn (tk 9 r0))),(.sl []),(.bool Bool.true)])else none)else(bif(fitM (Nat.succ (len (gl (tk 2 r0)))) 24)then(some [(.sl (gl r0)),(.int (w64 (a1+1))),(.sl (List.append (gl (tk 2 r0)) [[(.int (gn (at' a0 (tn a1)))),(.int (gn (tk 1 (at' a0 (tn a1))))),(.int (gn (tk 2 (at' a0 (tn a1)))))]])),(.sl (gl (tk 3 r0))),(.sl (gl (tk 4 r0))),(.sl (gl (tk 5 r0))),(.int (gn (tk 6 r0))),(.int (gn (tk 7 r0))),(.int (gn (tk 8 r0))),(.int (gn (tk 9 r0))),(.sl []),(.bool Bool.true)])else none))))else none)else(bif(fitM (Nat.succ (len (gl (tk 2 r0)))) 24)then(some [(.sl (gl r0)),(.int (w64 (a1+1))),(.sl (List.append (gl (tk 2 r0)) [[(.int (gn (at' a0 (tn a1)))),(.int (gn (tk 1 (at' a0 (tn a1))))),(.int (gn (tk 2 (at' a0 (tn a1)))))]])),(.sl (gl (tk 3 r0))),(.sl (gl (tk 4 r0))),(.sl (gl (tk 5 r0))),(.int (gn (tk 6 r0))),(.int (gn (tk 7 r0))),(.int (gn (tk 8 r0))),(.int (gn (tk 9 r0))),(.sl []),(.bool Bool.true)])else none))else none)else(bif(ltI 0 (w64 ((lenI a2)+(lenI a3))))then(((callI tE Z9R [(.sl (gl r0)),(.int (gn (tk 1 r0))),(.sl (gl (tk 2 r0))),(.sl (gl (tk 3 r0))),(.sl (gl (tk 4 r0))),(.sl (gl (tk 5 r0))),(.int (gn (tk 6 r0))),(.int (gn (tk 7 r0))),(.int (gn (tk 8 r0))),(.int (gn (tk 9 r0)))])).bind (fun r5=>(some [(.sl (gl r5)),(.int (gn (tk 1 r5))),(.sl (gl (tk 2 r5))),(.sl (gl (tk 3 r5))),(.sl (gl (tk 4 r5))),(.sl (gl (tk 5 r5))),(.int (gn (tk 6 r5))),(.int (gn (tk 7 r5))),(.int (gn (tk 8 r5))),(.int (gn (tk 9 r5))),(.sl []),(.bool Bool.true)])))else(bif(ltI 0 (lenI a4))then(bif(fitM (Nat.succ (len (gl (tk 5 r0)))) 24)then(((callI tE Z6E [(.sl (gl r0)),(.int (gn (tk 1 r0))),(.sl (gl (tk 2 r0))),(.sl (gl (tk 3 r0))),(.sl []),(.sl (List.append (gl (tk 5 r0)) [[(.sl (gl (tk 4 r0)))]])),(.int (gn (tk 6 r0))),(.int (gn (tk 7 r0))),(.int (gn (tk 8 r0))),(.int (gn (tk 9 r0)))])).bind (fun r5=>(some [(.sl (gl r5)),(.int (gn (tk 1 r5))),(.sl (gl (tk 2 r5))),(.sl (gl (tk 3 r5))),(.sl (gl (tk 4 r5))),(.sl (gl (tk 5 r5))),(.int (gn (tk 6 r5))),(.int (gn (tk 7 r5))),(.int (gn (tk 8 r5))),(.int (gn (tk 9 r5))),(.sl []),(.bool Bool.true)])))else none)else(((callI tE Z6E [(.sl (gl r0)),(.int (gn (tk 1 r0))),(.sl (gl (tk 2 r0))),(.sl (gl (tk 3 r0))),(.sl (gl (tk 4 r0))),(.sl (gl (tk 5 r0))),(.int (gn (tk 6 r0))),(.int (gn (tk 7 r0))),(.int (gn (tk 8 r0))),(.int (gn (tk 9 r0)))])).bind (fun r5=>(some [(.sl (gl r5)),(.int (gn (tk 1 r5))),(.sl (gl (tk 2 r5))),(.sl (gl (tk 3 r5))),(.sl (gl (tk 4 r5))),(.sl (gl (tk 5 r5))),(.int (gn (tk 6 r5))),(.int (gn (tk 7 r5))),(.int (gn (tk 8 r5))),(.int (gn (tk 9 r5))),(.sl []),(.bool Bool.true)]))))))))else none)))else(bif(ltI 0 (w64 ((lenI a2)+(lenI a3))))then(((callI tE Z9R [(.sl (gl r0)),(.int (gn (tk 1 r0))),(.sl (gl (tk 2 r0))),(.sl (gl (tk 3 r0))),(.sl (gl (tk 4 r0))),(.sl (gl (tk 5 r0))),(.int (gn (tk 6 r0))),(.int (gn (tk 7 r0))),(.int (gn (tk 8 r0))),(.int (gn (tk 9 r0)))])).bind (fun r3=>(some [(.sl (gl r3)),(.int (gn (tk 1 r3))),(.sl (gl (tk 2 r3))),(.sl (gl (tk 3 r3))),(.sl (gl (tk 4 r3))),(.sl (gl (tk 5 r3))),(.int (gn (tk 6 r3))),(.int (gn (tk 7 r3))),(.int (gn (tk 8 r3))),(.int (gn (tk 9 r3))),(.sl []),(.bool Bool.true)])))else(bif(ltI 0 (lenI a4))then(bif(fitM (Nat.succ (len (gl (tk 5 r0)))) 24)then(((callI tE Z6E [(.sl (gl r0)),(.int (gn (tk 1 r0))),(.sl (gl (tk 2 r0))),(.sl (gl (tk 3 r0))),(.sl []),(.sl (List.append (gl (tk 5 r0)) [[(.sl (gl (tk 4 r0)))]])),(.int (gn (tk 6 r0))),(.int (gn (tk 7 r0))),(.int (gn (tk 8 r0))),(.int (gn (tk 9 r0)))])).bind (fun r3=>(some [(.sl (gl r3)),(.int (gn (tk 1 r3))),(.sl (gl (tk 2 r3))),(.sl (gl (tk 3 r3))),(.sl (gl (tk 4 r3))),(.sl (gl (tk 5 r3))),(.int (gn (tk 6 r3))),(.int (gn (tk 7 r3))),(.int (gn (tk 8 r3))),(.int (gn (tk 9 r3))),(.sl []),(.bool Bool.true)])))else none)else(((callI tE Z6E [(.sl (gl r0)),(.int (gn (tk 1 r0))),(.sl (gl (tk 2 r0))),(.sl (gl (tk 3 r0))),(.sl (gl (tk 4 r0))),(.sl (gl (tk 5 r0))),(.int (gn (tk 6 r0))),(.int (gn (tk 7 r0))),(.int (gn (tk 8 r0))),(.int (gn (tk 9 r0)))])).bind (fun r3=>(some [(.sl (gl r3)),(.int (gn (tk 1 r3))),(.sl (gl (tk 2 r3))),(.sl (gl (tk 3 r3))),(.sl (gl (tk 4 r3))),(.sl (gl (tk 5 r3))),(.int (gn (tk 6 r3))),(.int (gn (tk 7 r3))),(.int (gn (tk 8 r3))),(.int (gn (tk 9 r3))),(.sl []),(.bool Bool.true)]))))))else(bif(eqI a8 2)then(((callI tE Z6F [(.sl a5),(.int 0),(.int a6)])).bind (fun r3=>(((callI tE Z6F [(.sl a5),(.int 1),(.int a7)])).bind (fun r4=>(bif(eqI (w64 ((lenI (gl r3))+(lenI (gl r4)))) 0)then(bif((leI 0 2)&&(leI 2 (lenI (gl (tk 5 r0)))))then(bif(fitM (Nat.succ (len (List.take (tn ((lenI (gl (tk 5 r0)))-2)) (List.drop (tn 2) (gl (tk 5 r0)))))) 24)then(((callI tE Z6E [(.sl (gl r0)),(.int (gn (tk 1 r0))),(.sl (gl (tk 2 r0))),(.sl (gl (tk 3 r0))),(.sl []),(.sl (List.append (List.take (tn ((lenI (gl (tk 5 r0)))-2)) (List.drop (tn 2) (gl (tk 5 r0)))) [[(.sl (gl (tk 4 r0)))]])),(.int (gn (tk 6 r0))),(.int (gn (tk 7 r0))),(.int (gn (tk 8 r0))),(.int (gn (tk 9 r0)))])).bind (fun r5=>(some [(.sl (gl r5)),(.int (gn (tk 1 r5))),(.sl (gl (tk 2 r5))),(.sl (gl (tk 3 r5))),(.sl (gl (tk 4 r5))),(.sl (gl (tk 5 r5))),(.int (gn (tk 6 r5))),(.int (gn (tk 7 r5))),(.int (gn (tk 8 r5))),(.int (gn (tk 9 r5))),(.sl []),(.bool Bool.true)])))else none)else none)else(bif(eqI (lenI (gl r4)) 0)then(bif(inR 0 (lenI (gl r3)))then(bif(fitM (Nat.succ (len (gl (tk 4 r0)))) 24)then(bif(inR 0 (lenI (gl r3)))then(((callI tE Z5m [(.int (gn (at' (gl r3) (tn 0)))),(.int (gn (tk 1 (at' (gl r3) (tn 0))))),(.int (gn (tk 2 (at' (gl r3) (tn 0)))))])).bind (fun r5=>(some [(.sl (gl r0)),(.int (gn (tk 1 r0))),(.sl (gl (tk 2 r0))),(.sl (gl (tk 3 r0))),(.sl (List.append (gl (tk 4 r0)) [[(.int (gn (at' (gl r3) (tn 0)))),(.int (gn (tk 1 (at' (gl r3) (tn 0))))),(.int (gn (tk 2 (at' (gl r3) (tn 0)))))]])),(.sl (gl (tk 5 r0))),(.int (w64 (a6+1))),(.int (gn (tk 7 r0))),(.int (gn (tk 8 r0))),(.int (w64 ((gn (tk 9 r0))+(gn r5)))),(.sl []),(.bool Bool.true)])))else none)else none)else none)else(bif(ltI 0 (lenI (gl r3)))then(bif(inR 0 (lenI (gl r3)))then(bif(inR 0 (lenI (gl r4)))then(((callI tE Z5f [(.int (gn (at' (gl r3) (tn 0)))),(.int (gn (tk 1 (at' (gl r3) (tn 0))))),(.int (gn (tk 2 (at' (gl r3) (tn 0))))),(.int (gn (at' (gl r4) (tn 0)))),(.int (gn (tk 1 (at' (gl r4) (tn 0))))),(.int (gn (tk 2 (at' (gl r4) (tn 0)))))])).bind (fun r5=>(bif(leI (gn r5) 0)then(bif(inR 0 (lenI (gl r3)))then(bif(fitM (Nat.succ (len (gl (tk 4 r0)))) 24)then(bif(inR 0 (lenI (gl r3)))then(((callI tE Z5m [(.int (gn (at' (gl r3) (tn 0)))),(.int (gn (tk 1 (at' (gl r3) (tn 0))))),(.int (gn (tk 2 (at' (gl r3) (tn 0)))))])).bind (fun r6=>(some [(.sl (gl r0)),(.int (gn (tk 1 r0))),(.sl (gl (tk 2 r0))),(.sl (gl (tk 3 r0))),(.sl (List.append (gl (tk 4 r0)) [[(.int (gn (at' (gl r3) (tn 0)))),(.int (gn (tk 1 (at' (gl r3) (tn 0))))),(.int (gn (tk 2 (at' (gl r3) (tn 0)))))]])),(.sl (gl (tk 5 r0))),(.int (w64 (a6+1))),(.int (gn (tk 7 r0))),(.int (gn (tk 8 r0))),(.int (w64 ((gn (tk 9 r0))+(gn r6)))),(.sl []),(.bool Bool.true)])))else none)else none)else none)else(bif(inR 0 (lenI (gl r4)))then(bif(fitM (Nat.succ (len (gl (tk 4 r0)))) 24)then(bif(inR 0 (lenI (gl r4)))then(((callI tE Z5m [(.int (gn (at' (gl r4) (tn 0)))),(.int (gn (tk 1 (at' (gl r4) (tn 0))))),(.int (gn (tk 2 (at' (gl r4) (tn 0)))))])).bind (fun r6=>(some [(.sl (gl r0)),(.int (gn (tk 1 r0))),(.sl (gl (tk 2 r0))),(.sl (gl (tk 3 r0))),(.sl (List.append (gl (tk 4 r0)) [[(.int (gn (at' (gl r4) (tn 0)))),(.int (gn (tk 1 (at' (gl r4) (tn 0))))),(.int (gn (tk 2 (at' (gl r4) (tn 0)))))]])),(.sl (gl (tk 5 r0))),(.int (gn (tk 6 r0))),(.int (w64 (a7+1))),(.int (gn (tk 8 r0))),(.int (w64 ((gn (tk 9 r0))+(gn r6)))),(.sl []),(.bool Bool.true)])))else none)else none)else none))))else none)else none)else(bif(inR 0 (lenI (gl r4)))then(bif(fitM (Nat.succ (len (gl (tk 4 r0)))) 24)then(bif(inR 0 (lenI (gl r4)))then(((callI tE Z5m [(.int (gn (at' (gl r4) (tn 0)))),(.int (gn (tk 1 (at' (gl r4) (tn 0))))),(.int (gn (tk 2 (at' (gl r4) (tn 0)))))])).bind (fun r5=>(some [(.sl (gl r0)),(.int (gn (tk 1 r0))),(.sl (gl (tk 2 r0))),(.sl (gl (tk 3 r0))),(.sl (List.append (gl (tk 4 r0)) [[(.int (gn (at' (gl r4) (tn 0)))),(.int (gn (tk 1 (at' (gl r4) (tn 0))))),(.int (gn (tk 2 (at' (gl r4) (tn 0)))))]])),(.sl (gl (tk 5 r0))),(.int (gn (tk 6 r0))),(.int (w64 (a7+1))),(.int (gn (tk 8 r0))),(.int (w64 ((gn (tk 9 r0))+(gn r5)))),(.sl []),(.bool Bool.true)])))else none)else none)else none))))))))else(bif(eqI (w64 (a6+1)) (lenI a0))then(bif(inR 0 (lenI a5))then(bif(inR a6 (lenI (gl (at' a5 (tn 0)))))then(some [(.sl (gl r0)),(.int (gn (tk 1 r0))),(.sl (gl (tk 2 r0))),(.sl (gl (tk 3 r0))),(.sl (gl (tk 4 r0))),(.sl (gl (tk 5 r0))),(.int (w64 (a6+1))),(.int (gn (tk 7 r0))),(.int 4),(.int (gn (tk 9 r0))),(.sl [[(.int (gn (at' (gl (at' a5 (tn 0))) (tn a6)))),(.int (gn (tk 1 (at' (gl (at' a5 (tn 0))) (tn a6))))),(.int (gn (tk 2 (at' (gl (at' a5 (tn 0))) (tn a6)))))]]),(.bool Bool.true)])else none)else none)else(bif(inR 0 (lenI a5))then(bif(inR a6 (lenI (gl (at' a5 (tn 0)))))then(some [(.sl (gl r0)),(.int (gn (tk 1 r0))),(.sl (gl (tk 2 r0))),(.sl (gl (tk 3 r0))),(.sl (gl (tk 4 r0))),(.sl (gl (tk 5 r0))),(.int (w64 (a6+1))),(.int (gn (tk 7 r0))),(.int (gn (tk 8 r0))),(.int (gn (tk 9 r0))),(.sl [[(.int (gn (at' (gl (at' a5 (tn 0))) (tn a6)))),(.int (gn (tk 1 (at' (gl (at' a5 (tn 0))) (tn a6))))),(.int (gn (tk 2 (at' (gl (at' a5 (tn 0))) (tn a6)))))]]),(.bool Bool.true)])else none)else none))))))))))))):=(callI_run rfl (by kernel_rfl)).trans (by kernel_rfl)
theorem ZDc (a0:Rows) (a1:Int) (a2 a3 a4 a5:Rows) (a6 a7 a8 a9:Int):callI tE Z5v [.sl a0,.int a1,.sl a2,.sl a3,.sl a4,.sl a5,.int a6,.int a7,.int a8,.int a9]=(bif(fitM (Nat.succ (len a5)) 24)then(some [(.sl a0),(.int a1),(.sl a2),(.sl a3),(.sl []),(.sl (List.append a5 [[(.sl a4)]])),(.int a6),(.int a7),(.int a8),(.int a9)])else none):=(callI_run rfl (by kernel_rfl)).trans (by kernel_rfl)
noncomputable def Z6T (x0:Rows) (x1:Int) (x2:Rows) (x3 x4:Int):Option (List Dat):=loopK tE Z5w 0 ⟨[(0,(.ro 224 Bool.false x0)),(3,(.i .i64 x1)),(6,(.ro 224 Bool.false x2)),(7,(.i .i64 x3)),(8,(.i .i64 x4))],[]⟩
theorem Z7Y (x0:Rows) (x1:Int) (x2:Rows) (x3 x4:Int):Z6T x0 x1 x2 x3 x4=(bif(ltI x4 x3)then(bif(inR x4 (lenI x2))then(bif(ltI x1 0)then(Z6T x0 x4 x2 x3 (w64 (x4+1)))else(bif(inR x1 (lenI x0))then(((callI tE Z5Q [(.int (gn (at' x2 (tn x4)))),(.int (gn (tk 1 (at' x2 (tn x4))))),(.int (gn (tk 2 (at' x2 (tn x4))))),(.int (gn (at' x0 (tn x1)))),(.int (gn (tk 1 (at' x0 (tn x1))))),(.int (gn (tk 2 (at' x0 (tn x1)))))])).bind (fun r0=>(bif(ltI (gn r0) 0)then(Z6T x0 x4 x2 x3 (w64 (x4+1)))else(Z6T x0 x1 x2 x3 (w64 (x4+1))))))else none))else none)else(some [(.int x1)])):=(loopK_run (by kernel_rfl)).trans (by kernel_rfl)
theorem ZBh (a0:Rows):callI tE Z5w [.sl a0]=(Z6T a0 (-1) a0 (lenI a0) 0):=(callI_run rfl (by kernel_rfl)).trans (by kernel_rfl)
theorem ZE9 (a0:Rows) (a1:Int):callI tE Z7J [.sl a0,.int a1]=(bif((leI 0 a1)&&(leI a1 (lenI a0)))then(((callI tE Z6h [(.sl (List.take (tn (a1-0)) (List.drop (tn 0) a0)))])).bind (fun r0=>(bif((leI 0 (w64 (a1+1)))&&(leI (w64 (a1+1)) (lenI a0)))then(bif(fitM ((len (gl r0))+(len (List.take (tn ((lenI a0)-(w64 (a1+1)))) (List.drop (tn (w64 (a1+1))) a0)))) 24)then(some [(.sl (List.append (gl r0) (List.take (tn ((lenI a0)-(w64 (a1+1)))) (List.drop (tn (w64 (a1+1))) a0))))])else none)else none)))else none):=(callI_run rfl (by kernel_rfl)).trans (by kernel_rfl)
theorem ZCB (a0:Rows) (a1:Int) (a2 a3 a4 a5:Rows) (a6 a7 a8 a9:Int):callI tE Z5X [.sl a0,.int a1,.sl a2,.sl a3,.sl a4,.sl a5,.int a6,.int a7,.int a8,.int a9]=(bif(eqI (lenI a5) 0)then(some [(.sl a0),(.int a1),(.sl a2),(.sl a3),(.sl a4),(.sl a5),(.int 0),(.int 0),(.int 4),(.int a9)])else(bif(eqI (lenI a5) 1)then(some [(.sl a0),(.int a1),(.sl a2),(.sl a3),(.sl a4),(.sl a5),(.int 0),(.int 0),(.int 3),(.int a9)])else(some [(.sl a0),(.int a1),(.sl a2),(.sl a3),(.sl a4),(.sl a5),(.int 0),(.int 0),(.int 2),(.int a9)]))):=(callI_run rfl (by kernel_rfl)).trans (by kernel_rfl)
theorem ZBi (a0:Rows) (a1:Int) (a2 a3 a4 a5:Rows) (a6 a7 a8 a9 a10:Int):callI tE Z8t [.sl a0,.int a1,.sl a2,.sl a3,.sl a4,.sl a5,.int a6,.int a7,.int a8,.int a9,.int a10]=(((callI tE Z8T [(.sl a0),(.int a1),(.sl a2),(.sl a3),(.sl a4),(.sl a5),(.int a6),(.int a7),(.int a8),(.int a9)])).bind (fun r0=>(((callI tE Z62 [(.sl a0),(.int a1),(.sl a2),(.sl a3),(.sl a4),(.sl a5),(.int a6),(.int a7),(.int a8),(.int a9)])).bind (fun r1=>(bif(!(gb r1))then(some [(.sl (gl r0)),(.int (gn (tk 1 r0))),(.sl (gl (tk 2 r0))),(.sl (gl (tk 3 r0))),(.sl (gl (tk 4 r0))),(.sl (gl (tk 5 r0))),(.int (gn (tk 6 r0))),(.int (gn (tk 7 r0))),(.int (gn (tk 8 r0))),(.int (gn (tk 9 r0))),(.sl []),(.bool Bool.false)])else(((callI tE Z92 [(.int a10)])).bind (fun r2=>(bif(!(gb r2))then(some [(.sl (gl r0)),(.int (gn (tk 1 r0))),(.sl (gl (tk 2 r0))),(.sl (gl (tk 3 r0))),(.sl (gl (tk 4 r0))),(.sl (gl (tk 5 r0))),(.int (gn (tk 6 r0))),(.int (gn (tk 7 r0))),(.int (gn (tk 8 r0))),(.int (gn (tk 9 r0))),(.sl []),(.bool Bool.false)])else(bif(eqI a8 4)then(some [(.sl (gl r0)),(.int (gn (tk 1 r0))),(.sl (gl (tk 2 r0))),(.sl (gl (tk 3 r0))),(.sl (gl (tk 4 r0))),(.sl (gl (tk 5 r0))),(.int (gn (tk 6 r0))),(.int (gn (tk 7 r0))),(.int (gn (tk 8 r0))),(.int (gn (tk 9 r0))),(.sl []),(.bool Bool.false)])else(bif(eqI (gn (tk 8 r0)) 1)then(bif(ltI (gn (tk 1 r0)) (lenI (gl r0)))then(((callI tE Z6j [(.sl (gl r0)),(.int (gn (tk 1 r0))),(.sl (gl (tk 2 r0))),(.sl (gl (tk 3 r0))),(.sl (gl (tk 4 r0))),(.sl (gl (tk 5 r0))),(.int (gn (tk 6 r0))),(.int (gn (tk 7 r0))),(.int (gn (tk 8 r0))),(.int (gn (tk 9 r0)))])).bind (fun r3=>(bif(inR (gn (tk 1 r0)) (lenI (gl r0)))then(((callI tE Z5O [(.int (gn (at' (gl r0) (tn (gn (tk 1 r0)))))),(.int (gn (tk 1 (at' (gl r0) (tn (gn (tk 1 r0))))))),(.int (gn (tk 2 (at' (gl r0) (tn (gn (tk 1 r0)))))))])).bind (fun r4=>(bif(leI (w64 ((gn r3)+(gn r4))) a10)then(bif(inR (gn (tk 1 r0)) (lenI (gl r0)))then(((callI tE Z9l [(.int (gn (at' (gl r0) (tn (gn (tk 1 r0)))))),(.int (gn (tk 1 (at' (gl r0) (tn (gn (tk 1 r0))))))),(.int (gn (tk 2 (at' (gl r0) (tn (gn (tk 1 r0))))))),(.sl (gl (tk 4 r0)))])).bind (fun r5=>(bif(gb r5)then(bif(fitM (Nat.succ (len (gl (tk 3 r0)))) 24)then(some [(.sl (gl r0)),(.int (w64 ((gn (tk 1 r0))+1))),(.sl (gl (tk 2 r0))),(.sl (List.append (gl (tk 3 r0)) [[(.int (gn (at' (gl r0) (tn (gn (tk 1 r0)))))),(.int (gn (tk 1 (at' (gl r0) (tn (gn (tk 1 r0))))))),(.int (gn (tk 2 (at' (gl r0) (tn (gn (tk 1 r0)))))))]])),(.sl (gl (tk 4 r0))),(.sl (gl (tk 5 r0))),(.int (gn (tk 6 r0))),(.int (gn (tk 7 r0))),(.int (gn (tk 8 r0))),(.int (gn (tk 9 r0))),(.sl []),(.bool Bool.true)])else none)else(bif(fitM (Nat.succ (len (gl (tk 2 r0)))) 24)then(some [(.sl (gl r0)),(.int (w64 ((gn (tk 1 r0))+1))),(.sl (List.append (gl (tk 2 r0)) [[(.int (gn (at' (gl r0) (tn (gn (tk 1 r0)))))),(.int (gn (tk 1 (at' (gl r0) (tn (gn (tk 1 r0))))))),(.int (gn (tk 2 (at' (gl r0) (tn (gn (tk 1 r0)))))))]])),(.sl (gl (tk 3 r0))),(.sl (gl (tk 4 r0))),(.sl (gl (tk 5 r0))),(.int (gn (tk 6 r0))),(.int (gn (tk 7 r0))),(.int (gn (tk 8 r0))),(.int (gn (tk 9 r0))),(.sl []),(.bool Bool.true)])else none))))else none)else(bif(eqI (lenI (gl (tk 2 r0))) 0)then(bif(ltI 0 (lenI (gl (tk 3 r0))))then(((callI tE Z5v [(.sl (gl r0)),(.int (gn (tk 1 r0))),(.sl (gl (tk 2 r0))),(.sl (gl (tk 3 r0))),(.sl (gl (tk 4 r0))),(.sl (gl (tk 5 r0))),(.int (gn (tk 6 r0))),(.int (gn (tk 7 r0))),(.int (gn (tk 8 r0))),(.int (gn (tk 9 r0)))])).bind (fun r5=>(some [(.sl (gl r5)),(.int (gn (tk 1 r5))),(.sl (gl (tk 3 r5))),(.sl []),(.sl (gl (tk 4 r5))),(.sl (gl (tk 5 r5))),(.int (gn (tk 6 r5))),(.int (gn (tk 7 r5))),(.int (gn (tk 8 r5))),(.int (gn (tk 9 r5))),(.sl []),(.bool Bool.true)])))else(bif(ltI 0 (lenI (gl (tk 2 r0))))then(((callI tE Z5w [(.sl (gl (tk 2 r0)))])).bind (fun r5=>(bif(inR (gn r5) (lenI (gl (tk 2 r0))))then(((callI tE Z7J [(.sl (gl (tk 2 r0))),(.int (gn r5))])).bind (fun r6=>(bif(fitM (Nat.succ (len (gl (tk 4 r0)))) 24)then(((callI tE Z5O [(.int (gn (at' (gl (tk 2 r0)) (tn (gn r5))))),(.int (gn (tk 1 (at' (gl (tk 2 r0)) (tn (gn r5)))))),(.int (gn (tk 2 (at' (gl (tk 2 r0)) (tn (gn r5))))))])).bind (fun r7=>(some [(.sl (gl r0)),(.int (gn (tk 1 r0))),(.sl (gl r6)),(.sl (gl (tk 3 r0))),(.sl (List.append (gl (tk 4 r0)) [[(.int (gn (at' (gl (tk 2 r0)) (tn (gn r5))))),(.int (gn (tk 1 (at' (gl (tk 2 r0)) (tn (gn r5)))))),(.int (gn (tk 2 (at' (gl (tk 2 r0)) (tn (gn r5))))))]])),(.sl (gl (tk 5 r0))),(.int (gn (tk 6 r0))),(.int (gn (tk 7 r0))),(.int (gn (tk 8 r0))),(.int (w64 ((gn (tk 9 r0))+(gn r7)))),(.sl []),(.bool Bool.true)])))else none)))else none)))else(bif(ltI 0 (lenI (gl (tk 4 r0))))then(((callI tE Z5v [(.sl (gl r0)),(.int (gn (tk 1 r0))),(.sl (gl (tk 2 r0))),(.sl (gl (tk 3 r0))),(.sl (gl (tk 4 r0))),(.sl (gl (tk 5 r0))),(.int (gn (tk 6 r0))),(.int (gn (tk 7 r0))),(.int (gn (tk 8 r0))),(.int (gn (tk 9 r0)))])).bind (fun r5=>(((callI tE Z5X [(.sl (gl r5)),(.int (gn (tk 1 r5))),(.sl (gl (tk 2 r5))),(.sl (gl (tk 3 r5))),(.sl (gl (tk 4 r5))),(.sl (gl (tk 5 r5))),(.int (gn (tk 6 r5))),(.int (gn (tk 7 r5))),(.int (gn (tk 8 r5))),(.int (gn (tk 9 r5)))])).bind (fun r6=>(some [(.sl (gl r6)),(.int (gn (tk 1 r6))),(.sl (gl (tk 2 r6))),(.sl (gl (tk 3 r6))),(.sl (gl (tk 4 r6))),(.sl (gl (tk 5 r6))),(.int (gn (tk 6 r6))),(.int (gn (tk 7 r6))),(.int (gn (tk 8 r6))),(.int (gn (tk 9 r6))),(.sl []),(.bool Bool.true)])))))else(((callI tE Z5X [(.sl (gl r0)),(.int (gn (tk 1 r0))),(.sl (gl (tk 2 r0))),(.sl (gl (tk 3 r0))),(.sl (gl (tk 4 r0))),(.sl (gl (tk 5 r0))),(.int (gn (tk 6 r0))),(.int (gn (tk 7 r0))),(.int (gn (tk 8 r0))),(.int (gn (tk 9 r0)))])).bind (fun r5=>(some [(.sl (gl r5)),(.int (gn (tk 1 r5))),(.sl (gl (tk 2 r5))),(.sl (gl (tk 3 r5))),(.sl (gl (tk 4 r5))),(.sl (gl (tk 5 r5))),(.int (gn (tk 6 r5))),(.int (gn (tk 7 r5))),(.int (gn (tk 8 r5))),(.int (gn (tk 9 r5))),(.sl []),(.bool Bool.true)]))))))else(bif(ltI 0 (lenI (gl (tk 2 r0))))then(((callI tE Z5w [(.sl (gl (tk 2 r0)))])).bind (fun r5=>(bif(inR (gn r5) (lenI (gl (tk 2 r0))))then(((callI tE Z7J [(.sl (gl (tk 2 r0))),(.int (gn r5))])).bind (fun r6=>(bif(fitM (Nat.succ (len (gl (tk 4 r0)))) 24)then(((callI tE Z5O [(.int (gn (at' (gl (tk 2 r0)) (tn (gn r5))))),(.int (gn (tk 1 (at' (gl (tk 2 r0)) (tn (gn r5)))))),(.int (gn (tk 2 (at' (gl (tk 2 r0)) (tn (gn r5))))))])).bind (fun r7=>(some [(.sl (gl r0)),(.int (gn (tk 1 r0))),(.sl (gl r6)),(.sl (gl (tk 3 r0))),(.sl (List.append (gl (tk 4 r0)) [[(.int (gn (at' (gl (tk 2 r0)) (tn (gn r5))))),(.int (gn (tk 1 (at' (gl (tk 2 r0)) (tn (gn r5)))))),(.int (gn (tk 2 (at' (gl (tk 2 r0)) (tn (gn r5))))))]])),(.sl (gl (tk 5 r0))),(.int (gn (tk 6 r0))),(.int (gn (tk 7 r0))),(.int (gn (tk 8 r0))),(.int (w64 ((gn (tk 9 r0))+(gn r7)))),(.sl []),(.bool Bool.true)])))else none)))else none)))else(bif(ltI 0 (lenI (gl (tk 4 r0))))then(((callI tE Z5v [(.sl (gl r0)),(.int (gn (tk 1 r0))),(.sl (gl (tk 2 r0))),(.sl (gl (tk 3 r0))),(.sl (gl (tk 4 r0))),(.sl (gl (tk 5 r0))),(.int (gn (tk 6 r0))),(.int (gn (tk 7 r0))),(.int (gn (tk 8 r0))),(.int (gn (tk 9 r0)))])).bind (fun r5=>(((callI tE Z5X [(.sl (gl r5)),(.int (gn (tk 1 r5))),(.sl (gl (tk 2 r5))),(.sl (gl (tk 3 r5))),(.sl (gl (tk 4 r5))),(.sl (gl (tk 5 r5))),(.int (gn (tk 6 r5))),(.int (gn (tk 7 r5))),(.int (gn (tk 8 r5))),(.int (gn (tk 9 r5)))])).bind (fun r6=>(some [(.sl (gl r6)),(.int (gn (tk 1 r6))),(.sl (gl (tk 2 r6))),(.sl (gl (tk 3 r6))),(.sl (gl (tk 4 r6))),(.sl (gl (tk 5 r6))),(.int (gn (tk 6 r6))),(.int (gn (tk 7 r6))),(.int (gn (tk 8 r6))),(.int (gn (tk 9 r6))),(.sl []),(.bool Bool.true)])))))else(((callI tE Z5X [(.sl (gl r0)),(.int (gn (tk 1 r0))),(.sl (gl (tk 2 r0))),(.sl (gl (tk 3 r0))),(.sl (gl (tk 4 r0))),(.sl (gl (tk 5 r0))),(.int (gn (tk 6 r0))),(.int (gn (tk 7 r0))),(.int (gn (tk 8 r0))),(.int (gn (tk 9 r0)))])).bind (fun r5=>(some [(.sl (gl r5)),(.int (gn (tk 1 r5))),(.sl (gl (tk 2 r5))),(.sl (gl (tk 3 r5))),(.sl (gl (tk 4 r5))),(.sl (gl (tk 5 r5))),(.int (gn (tk 6 r5))),(.int (gn (tk 7 r5))),(.int (gn (tk 8 r5))),(.int (gn (tk 9 r5))),(.sl []),(.bool Bool.true)])))))))))else none)))else(bif(eqI (lenI (gl (tk 2 r0))) 0)then(bif(ltI 0 (lenI (gl (tk 3 r0))))then(((callI tE Z5v [(.sl (gl r0)),(.int (gn (tk 1 r0))),(.sl (gl (tk 2 r0))),(.sl (gl (tk 3 r0))),(.sl (gl (tk 4 r0))),(.sl (gl (tk 5 r0))),(.int (gn (tk 6 r0))),(.int (gn (tk 7 r0))),(.int (gn (tk 8 r0))),(.int (gn (tk 9 r0)))])).bind (fun r3=>(some [(.sl (gl r3)),(.int (gn (tk 1 r3))),(.sl (gl (tk 3 r3))),(.sl []),(.sl (gl (tk 4 r3))),(.sl (gl (tk 5 r3))),(.int (gn (tk 6 r3))),(.int (gn (tk 7 r3))),(.int (gn (tk 8 r3))),(.int (gn (tk 9 r3))),(.sl []),(.bool Bool.true)])))else(bif(ltI 0 (lenI (gl (tk 2 r0))))then(((callI tE Z5w [(.sl (gl (tk 2 r0)))])).bind (fun r3=>(bif(inR (gn r3) (lenI (gl (tk 2 r0))))then(((callI tE Z7J [(.sl (gl (tk 2 r0))),(.int (gn r3))])).bind (fun r4=>(bif(fitM (Nat.succ (len (gl (tk 4 r0)))) 24)then(((callI tE Z5O [(.int (gn (at' (gl (tk 2 r0)) (tn (gn r3))))),(.int (gn (tk 1 (at' (gl (tk 2 r0)) (tn (gn r3)))))),(.int (gn (tk 2 (at' (gl (tk 2 r0)) (tn (gn r3))))))])).bind (fun r5=>(some [(.sl (gl r0)),(.int (gn (tk 1 r0))),(.sl (gl r4)),(.sl (gl (tk 3 r0))),(.sl (List.append (gl (tk 4 r0)) [[(.int (gn (at' (gl (tk 2 r0)) (tn (gn r3))))),(.int (gn (tk 1 (at' (gl (tk 2 r0)) (tn (gn r3)))))),(.int (gn (tk 2 (at' (gl (tk 2 r0)) (tn (gn r3))))))]])),(.sl (gl (tk 5 r0))),(.int (gn (tk 6 r0))),(.int (gn (tk 7 r0))),(.int (gn (tk 8 r0))),(.int (w64 ((gn (tk 9 r0))+(gn r5)))),(.sl []),(.bool Bool.true)])))else none)))else none)))else(bif(ltI 0 (lenI (gl (tk 4 r0))))then(((callI tE Z5v [(.sl (gl r0)),(.int (gn (tk 1 r0))),(.sl (gl (tk 2 r0))),(.sl (gl (tk 3 r0))),(.sl (gl (tk 4 r0))),(.sl (gl (tk 5 r0))),(.int (gn (tk 6 r0))),(.int (gn (tk 7 r0))),(.int (gn (tk 8 r0))),(.int (gn (tk 9 r0)))])).bind (fun r3=>(((callI tE Z5X [(.sl (gl r3)),(.int (gn (tk 1 r3))),(.sl (gl (tk 2 r3))),(.sl (gl (tk 3 r3))),(.sl (gl (tk 4 r3))),(.sl (gl (tk 5 r3))),(.int (gn (tk 6 r3))),(.int (gn (tk 7 r3))),(.int (gn (tk 8 r3))),(.int (gn (tk 9 r3)))])).bind (fun r4=>(some [(.sl (gl r4)),(.int (gn (tk 1 r4))),(.sl (gl (tk 2 r4))),(.sl (gl (tk 3 r4))),(.sl (gl (tk 4 r4))),(.sl (gl (tk 5 r4))),(.int (gn (tk 6 r4))),(.int (gn (tk 7 r4))),(.int (gn (tk 8 r4))),(.int (gn (tk 9 r4))),(.sl []),(.bool Bool.true)])))))else(((callI tE Z5X [(.sl (gl r0)),(.int (gn (tk 1 r0))),(.sl (gl (tk 2 r0))),(.sl (gl (tk 3 r0))),(.sl (gl (tk 4 r0))),(.sl (gl (tk 5 r0))),(.int (gn (tk 6 r0))),(.int (gn (tk 7 r0))),(.int (gn (tk 8 r0))),(.int (gn (tk 9 r0)))])).bind (fun r3=>(some [(.sl (gl r3)),(.int (gn (tk 1 r3))),(.sl (gl (tk 2 r3))),(.sl (gl (tk 3 r3))),(.sl (gl (tk 4 r3))),(.sl (gl (tk 5 r3))),(.int (gn (tk 6 r3))),(.int (gn (tk 7 r3))),(.int (gn (tk 8 r3))),(.int (gn (tk 9 r3))),(.sl []),(.bool Bool.true)]))))))else(bif(ltI 0 (lenI (gl (tk 2 r0))))then(((callI tE Z5w [(.sl (gl (tk 2 r0)))])).bind (fun r3=>(bif(inR (gn r3) (lenI (gl (tk 2 r0))))then(((callI tE Z7J [(.sl (gl (tk 2 r0))),(.int (gn r3))])).bind (fun r4=>(bif(fitM (Nat.succ (len (gl (tk 4 r0)))) 24)then(((callI tE Z5O [(.int (gn (at' (gl (tk 2 r0)) (tn (gn r3))))),(.int (gn (tk 1 (at' (gl (tk 2 r0)) (tn (gn r3)))))),(.int (gn (tk 2 (at' (gl (tk 2 r0)) (tn (gn r3))))))])).bind (fun r5=>(some [(.sl (gl r0)),(.int (gn (tk 1 r0))),(.sl (gl r4)),(.sl (gl (tk 3 r0))),(.sl (List.append (gl (tk 4 r0)) [[(.int (gn (at' (gl (tk 2 r0)) (tn (gn r3))))),(.int (gn (tk 1 (at' (gl (tk 2 r0)) (tn (gn r3)))))),(.int (gn (tk 2 (at' (gl (tk 2 r0)) (tn (gn r3))))))]])),(.sl (gl (tk 5 r0))),(.int (gn (tk 6 r0))),(.int (gn (tk 7 r0))),(.int (gn (tk 8 r0))),(.int (w64 ((gn (tk 9 r0))+(gn r5)))),(.sl []),(.bool Bool.true)])))else none)))else none)))else(bif(ltI 0 (lenI (gl (tk 4 r0))))then(((callI tE Z5v [(.sl (gl r0)),(.int (gn (tk 1 r0))),(.sl (gl (tk 2 r0))),(.sl (gl (tk 3 r0))),(.sl (gl (tk 4 r0))),(.sl (gl (tk 5 r0))),(.int (gn (tk 6 r0))),(.int (gn (tk 7 r0))),(.int (gn (tk 8 r0))),(.int (gn (tk 9 r0)))])).bind (fun r3=>(((callI tE Z5X [(.sl (gl r3)),(.int (gn (tk 1 r3))),(.sl (gl (tk 2 r3))),(.sl (gl (tk 3 r3))),(.sl (gl (tk 4 r3))),(.sl (gl (tk 5 r3))),(.int (gn (tk 6 r3))),(.int (gn (tk 7 r3))),(.int (gn (tk 8 r3))),(.int (gn (tk 9 r3)))])).bind (fun r4=>(some [(.sl (gl r4)),(.int (gn (tk 1 r4))),(.sl (gl (tk 2 r4))),(.sl (gl (tk 3 r4))),(.sl (gl (tk 4 r4))),(.sl (gl (tk 5 r4))),(.int (gn (tk 6 r4))),(.int (gn (tk 7 r4))),(.int (gn (tk 8 r4))),(.int (gn (tk 9 r4))),(.sl []),(.bool Bool.true)])))))else(((callI tE Z5X [(.sl (gl r0)),(.int (gn (tk 1 r0))),(.sl (gl (tk 2 r0))),(.sl (gl (tk 3 r0))),(.sl (gl (tk 4 r0))),(.sl (gl (tk 5 r0))),(.int (gn (tk 6 r0))),(.int (gn (tk 7 r0))),(.int (gn (tk 8 r0))),(.int (gn (tk 9 r0)))])).bind (fun r3=>(some [(.sl (gl r3)),(.int (gn (tk 1 r3))),(.sl (gl (tk 2 r3))),(.sl (gl (tk 3 r3))),(.sl (gl (tk 4 r3))),(.sl (gl (tk 5 r3))),(.int (gn (tk 6 r3))),(.int (gn (tk 7 r3))),(.int (gn (tk 8 r3))),(.int (gn (tk 9 r3))),(.sl []),(.bool Bool.true)])))))))else(bif(eqI (gn (tk 8 r0)) 2)then(bif(inR 0 (lenI (gl (tk 5 r0))))then(bif(inR 1 (lenI (gl (tk 5 r0))))then(bif(eqI (gn (tk 6 r0)) (lenI (gl (at' (gl (tk 5 r0)) (tn 0)))))then(bif(eqI (gn (tk 7 r0)) (lenI (gl (at' (gl (tk 5 r0)) (tn 1)))))then(bif((leI 0 2)&&(leI 2 (lenI (gl (tk 5 r0)))))then(((callI tE Z5v [(.sl (gl r0)),(.int (gn (tk 1 r0))),(.sl (gl (tk 2 r0))),(.sl (gl (tk 3 r0))),(.sl (gl (tk 4 r0))),(.sl (List.take (tn ((lenI (gl (tk 5 r0)))-2)) (List.drop (tn 2) (gl (tk 5 r0))))),(.int (gn (tk 6 r0))),(.int (gn (tk 7 r0))),(.int (gn (tk 8 r0))),(.int (gn (tk 9 r0)))])).bind (fun r3=>(((callI tE Z5X [(.sl (gl r3)),(.int (gn (tk 1 r3))),(.sl (gl (tk 2 r3))),(.sl (gl (tk 3 r3))),(.sl (gl (tk 4 r3))),(.sl (gl (tk 5 r3))),(.int (gn (tk 6 r3))),(.int (gn (tk 7 r3))),(.int (gn (tk 8 r3))),(.int (gn (tk 9 r3)))])).bind (fun r4=>(some [(.sl (gl r4)),(.int (gn (tk 1 r4))),(.sl (gl (tk 2 r4))),(.sl (gl (tk 3 r4))),(.sl (gl (tk 4 r4))),(.sl (gl (tk 5 r4))),(.int (gn (tk 6 r4))),(.int (gn (tk 7 r4))),(.int (gn (tk 8 r4))),(.int (gn (tk 9 r4))),(.sl []),(.bool Bool.true)])))))else none)else(bif(eqI (gn (tk 7 r0)) (lenI (gl (at' (gl (tk 5 r0)) (tn 1)))))then(bif(inR (gn (tk 6 r0)) (lenI (gl (at' (gl (tk 5 r0)) (tn 0)))))then(bif(fitM (Nat.succ (len (gl (tk 4 r0)))) 24)then(((callI tE Z5O [(.int (gn (at' (gl (at' (gl (tk 5 r0)) (tn 0))) (tn (gn (tk 6 r0)))))),(.int (gn (tk 1 (at' (gl (at' (gl (tk 5 r0)) (tn 0))) (tn (gn (tk 6 r0))))))),(.int (gn (tk 2 (at' (gl (at' (gl (tk 5 r0)) (tn 0))) (tn (gn (tk 6 r0)))))))])).bind (fun r3=>(some [(.sl (gl r0)),(.int (gn (tk 1 r0))),(.sl (gl (tk 2 r0))),(.sl (gl (tk 3 r0))),(.sl (List.append (gl (tk 4 r0)) [[(.int (gn (at' (gl (at' (gl (tk 5 r0)) (tn 0))) (tn (gn (tk 6 r0)))))),(.int (gn (tk 1 (at' (gl (at' (gl (tk 5 r0)) (tn 0))) (tn (gn (tk 6 r0))))))),(.int (gn (tk 2 (at' (gl (at' (gl (tk 5 r0)) (tn 0))) (tn (gn (tk 6 r0)))))))]])),(.sl (gl (tk 5 r0))),(.int (w64 ((gn (tk 6 r0))+1))),(.int (gn (tk 7 r0))),(.int (gn (tk 8 r0))),(.int (w64 ((gn (tk 9 r0))+(gn r3)))),(.sl []),(.bool Bool.true)])))else none)else none)else(bif(ltI (gn (tk 6 r0)) (lenI (gl (at' (gl (tk 5 r0)) (tn 0)))))then(bif(inR (gn (tk 6 r0)) (lenI (gl (at' (gl (tk 5 r0)) (tn 0)))))then(bif(inR (gn (tk 7 r0)) (lenI (gl (at' (gl (tk 5 r0)) (tn 1)))))then(((callI tE Z5Q [(.int (gn (at' (gl (at' (gl (tk 5 r0)) (tn 0))) (tn (gn (tk 6 r0)))))),(.int (gn (tk 1 (at' (gl (at' (gl (tk 5 r0)) (tn 0))) (tn (gn (tk 6 r0))))))),(.int (gn (tk 2 (at' (gl (at' (gl (tk 5 r0)) (tn 0))) (tn (gn (tk 6 r0))))))),(.int (gn (at' (gl (at' (gl (tk 5 r0)) (tn 1))) (tn (gn (tk 7 r0)))))),(.int (gn (tk 1 (at' (gl (at' (gl (tk 5 r0)) (tn 1))) (tn (gn (tk 7 r0))))))),(.int (gn (tk 2 (at' (gl (at' (gl (tk 5 r0)) (tn 1))) (tn (gn (tk 7 r0)))))))])).bind (fun r3=>(bif(leI (gn r3) 0)then(bif(inR (gn (tk 6 r0)) (lenI (gl (at' (gl (tk 5 r0)) (tn 0)))))then(bif(fitM (Nat.succ (len (gl (tk 4 r0)))) 24)then(((callI tE Z5O [(.int (gn (at' (gl (at' (gl (tk 5 r0)) (tn 0))) (tn (gn (tk 6 r0)))))),(.int (gn (tk 1 (at' (gl (at' (gl (tk 5 r0)) (tn 0))) (tn (gn (tk 6 r0))))))),(.int (gn (tk 2 (at' (gl (at' (gl (tk 5 r0)) (tn 0))) (tn (gn (tk 6 r0)))))))])).bind (fun r4=>(some [(.sl (gl r0)),(.int (gn (tk 1 r0))),(.sl (gl (tk 2 r0))),(.sl (gl (tk 3 r0))),(.sl (List.append (gl (tk 4 r0)) [[(.int (gn (at' (gl (at' (gl (tk 5 r0)) (tn 0))) (tn (gn (tk 6 r0)))))),(.int (gn (tk 1 (at' (gl (at' (gl (tk 5 r0)) (tn 0))) (tn (gn (tk 6 r0))))))),(.int (gn (tk 2 (at' (gl (at' (gl (tk 5 r0)) (tn 0))) (tn (gn (tk 6 r0)))))))]])),(.sl (gl (tk 5 r0))),(.int (w64 ((gn (tk 6 r0))+1))),(.int (gn (tk 7 r0))),(.int (gn (tk 8 r0))),(.int (w64 ((gn (tk 9 r0))+(gn r4)))),(.sl []),(.bool Bool.true)])))else none)else none)else(bif(inR (gn (tk 7 r0)) (lenI (gl (at' (gl (tk 5 r0)) (tn 1)))))then(bif(fitM (Nat.succ (len (gl (tk 4 r0)))) 24)then(((callI tE Z5O [(.int (gn (at' (gl (at' (gl (tk 5 r0)) (tn 1))) (tn (gn (tk 7 r0)))))),(.int (gn (tk 1 (at' (gl (at' (gl (tk 5 r0)) (tn 1))) (tn (gn (tk 7 r0))))))),(.int (gn (tk 2 (at' (gl (at' (gl (tk 5 r0)) (tn 1))) (tn (gn (tk 7 r0)))))))])).bind (fun r4=>(some [(.sl (gl r0)),(.int (gn (tk 1 r0))),(.sl (gl (tk 2 r0))),(.sl (gl (tk 3 r0))),(.sl (List.append (gl (tk 4 r0)) [[(.int (gn (at' (gl (at' (gl (tk 5 r0)) (tn 1))) (tn (gn (tk 7 r0)))))),(.int (gn (tk 1 (at' (gl (at' (gl (tk 5 r0)) (tn 1))) (tn (gn (tk 7 r0))))))),(.int (gn (tk 2 (at' (gl (at' (gl (tk 5 r0)) (tn 1))) (tn (gn (tk 7 r0)))))))]])),(.sl (gl (tk 5 r0))),(.int (gn (tk 6 r0))),(.int (w64 ((gn (tk 7 r0))+1))),(.int (gn (tk 8 r0))),(.int (w64 ((gn (tk 9 r0))+(gn r4)))),(.sl []),(.bool Bool.true)])))else none)else none))))else none)else none)else(bif(inR (gn (tk 7 r0)) (lenI (gl (at' (gl (tk 5 r0)) (tn 1)))))then(bif(fitM (Nat.succ (len (gl (tk 4 r0)))) 24)then(((callI tE Z5O [(.int (gn (at' (gl (at' (gl (tk 5 r0)) (tn 1))) (tn (gn (tk 7 r0)))))),(.int (gn (tk 1 (at' (gl (at' (gl (tk 5 r0)) (tn 1))) (tn (gn (tk 7 r0))))))),(.int (gn (tk 2 (at' (gl (at' (gl (tk 5 r0)) (tn 1))) (tn (gn (tk 7 r0)))))))])).bind (fun r3=>(some [(.sl (gl r0)),(.int (gn (tk 1 r0))),(.sl (gl (tk 2 r0))),(.sl (gl (tk 3 r0))),(.sl (List.append (gl (tk 4 r0)) [[(.int (gn (at' (gl (at' (gl (tk 5 r0)) (tn 1))) (tn (gn (tk 7 r0)))))),(.int (gn (tk 1 (at' (gl (at' (gl (tk 5 r0)) (tn 1))) (tn (gn (tk 7 r0))))))),(.int (gn (tk 2 (at' (gl (at' (gl (tk 5 r0)) (tn 1))) (tn (gn (tk 7 r0)))))))]])),(.sl (gl (tk 5 r0))),(.int (gn (tk 6 r0))),(.int (w64 ((gn (tk 7 r0))+1))),(.int (gn (tk 8 r0))),(.int (w64 ((gn (tk 9 r0))+(gn r3)))),(.sl []),(.bool Bool.true)])))else none)else none))))else(bif(eqI (gn (tk 7 r0)) (lenI (gl (at' (gl (tk 5 r0)) (tn 1)))))then(bif(inR (gn (tk 6 r0)) (lenI (gl (at' (gl (tk 5 r0)) (tn 0)))))then(bif(fitM (Nat.succ (len (gl (tk 4 r0)))) 24)then(((callI tE Z5O [(.int (gn (at' (gl (at' (gl (tk 5 r0)) (tn 0))) (tn (gn (tk 6 r0)))))),(.int (gn (tk 1 (at' (gl (at' (gl (tk 5 r0)) (tn 0))) (tn (gn (tk 6 r0))))))),(.int (gn (tk 2 (at' (gl (at' (gl (tk 5 r0)) (tn 0))) (tn (gn (tk 6 r0)))))))])).bind (fun r3=>(some [(.sl (gl r0)),(.int (gn (tk 1 r0))),(.sl (gl (tk 2 r0))),(.sl (gl (tk 3 r0))),(.sl (List.append (gl (tk 4 r0)) [[(.int (gn (at' (gl (at' (gl (tk 5 r0)) (tn 0))) (tn (gn (tk 6 r0)))))),(.int (gn (tk 1 (at' (gl (at' (gl (tk 5 r0)) (tn 0))) (tn (gn (tk 6 r0))))))),(.int (gn (tk 2 (at' (gl (at' (gl (tk 5 r0)) (tn 0))) (tn (gn (tk 6 r0)))))))]])),(.sl (gl (tk 5 r0))),(.int (w64 ((gn (tk 6 r0))+1))),(.int (gn (tk 7 r0))),(.int (gn (tk 8 r0))),(.int (w64 ((gn (tk 9 r0))+(gn r3)))),(.sl []),(.bool Bool.true)])))else none)else none)else(bif(ltI (gn (tk 6 r0)) (lenI (gl (at' (gl (tk 5 r0)) (tn 0)))))then(bif(inR (gn (tk 6 r0)) (lenI (gl (at' (gl (tk 5 r0)) (tn 0)))))then(bif(inR (gn (tk 7 r0)) (lenI (gl (at' (gl (tk 5 r0)) (tn 1)))))then(((callI tE Z5Q [(.int (gn (at' (gl (at' (gl (tk 5 r0)) (tn 0))) (tn (gn (tk 6 r0)))))),(.int (gn (tk 1 (at' (gl (at' (gl (tk 5 r0)) (tn 0))) (tn (gn (tk 6 r0))))))),(.int (gn (tk 2 (at' (gl (at' (gl (tk 5 r0)) (tn 0))) (tn (gn (tk 6 r0))))))),(.int (gn (at' (gl (at' (gl (tk 5 r0)) (tn 1))) (tn (gn (tk 7 r0)))))),(.int (gn (tk 1 (at' (gl (at' (gl (tk 5 r0)) (tn 1))) (tn (gn (tk 7 r0))))))),(.int (gn (tk 2 (at' (gl (at' (gl (tk 5 r0)) (tn 1))) (tn (gn (tk 7 r0)))))))])).bind (fun r3=>(bif(leI (gn r3) 0)then(bif(inR (gn (tk 6 r0)) (lenI (gl (at' (gl (tk 5 r0)) (tn 0)))))then(bif(fitM (Nat.succ (len (gl (tk 4 r0)))) 24)then(((callI tE Z5O [(.int (gn (at' (gl (at' (gl (tk 5 r0)) (tn 0))) (tn (gn (tk 6 r0)))))),(.int (gn (tk 1 (at' (gl (at' (gl (tk 5 r0)) (tn 0))) (tn (gn (tk 6 r0))))))),(.int (gn (tk 2 (at' (gl (at' (gl (tk 5 r0)) (tn 0))) (tn (gn (tk 6 r0)))))))])).bind (fun r4=>(some [(.sl (gl r0)),(.int (gn (tk 1 r0))),(.sl (gl (tk 2 r0))),(.sl (gl (tk 3 r0))),(.sl (List.append (gl (tk 4 r0)) [[(.int (gn (at' (gl (at' (gl (tk 5 r0)) (tn 0))) (tn (gn (tk 6 r0)))))),(.int (gn (tk 1 (at' (gl (at' (gl (tk 5 r0)) (tn 0))) (tn (gn (tk 6 r0))))))),(.int (gn (tk 2 (at' (gl (at' (gl (tk 5 r0)) (tn 0))) (tn (gn (tk 6 r0)))))))]])),(.sl (gl (tk 5 r0))),(.int (w64 ((gn (tk 6 r0))+1))),(.int (gn (tk 7 r0))),(.int (gn (tk 8 r0))),(.int (w64 ((gn (tk 9 r0))+(gn r4)))),(.sl []),(.bool Bool.true)])))else none)else none)else(bif(inR (gn (tk 7 r0)) (lenI (gl (at' (gl (tk 5 r0)) (tn 1)))))then(bif(fitM (Nat.succ (len (gl (tk 4 r0)))) 24)then(((callI tE Z5O [(.int (gn (at' (gl (at' (gl (tk 5 r0)) (tn 1))) (tn (gn (tk 7 r0)))))),(.int (gn (tk 1 (at' (gl (at' (gl (tk 5 r0)) (tn 1))) (tn (gn (tk 7 r0))))))),(.int (gn (tk 2 (at' (gl (at' (gl (tk 5 r0)) (tn 1))) (tn (gn (tk 7 r0)))))))])).bind (fun r4=>(some [(.sl (gl r0)),(.int (gn (tk 1 r0))),(.sl (gl (tk 2 r0))),(.sl (gl (tk 3 r0))),(.sl (List.append (gl (tk 4 r0)) [[(.int (gn (at' (gl (at' (gl (tk 5 r0)) (tn 1))) (tn (gn (tk 7 r0)))))),(.int (gn (tk 1 (at' (gl (at' (gl (tk 5 r0)) (tn 1))) (tn (gn (tk 7 r0))))))),(.int (gn (tk 2 (at' (gl (at' (gl (tk 5 r0)) (tn 1))) (tn (gn (tk 7 r0)))))))]])),(.sl (gl (tk 5 r0))),(.int (gn (tk 6 r0))),(.int (w64 ((gn (tk 7 r0))+1))),(.int (gn (tk 8 r0))),(.int (w64 ((gn (tk 9 r0))+(gn r4)))),(.sl []),(.bool Bool.true)])))else none)else none))))else none)else none)else(bif(inR (gn (tk 7 r0)) (lenI (gl (at' (gl (tk 5 r0)) (tn 1)))))then(bif(fitM (Nat.succ (len (gl (tk 4 r0)))) 24)then(((callI tE Z5O [(.int (gn (at' (gl (at' (gl (tk 5 r0)) (tn 1))) (tn (gn (tk 7 r0)))))),(.int (gn (tk 1 (at' (gl (at' (gl (tk 5 r0)) (tn 1))) (tn (gn (tk 7 r0))))))),(.int (gn (tk 2 (at' (gl (at' (gl (tk 5 r0)) (tn 1))) (tn (gn (tk 7 r0)))))))])).bind (fun r3=>(some [(.sl (gl r0)),(.int (gn (tk 1 r0))),(.sl (gl (tk 2 r0))),(.sl (gl (tk 3 r0))),(.sl (List.append (gl (tk 4 r0)) [[(.int (gn (at' (gl (at' (gl (tk 5 r0)) (tn 1))) (tn (gn (tk 7 r0)))))),(.int (gn (tk 1 (at' (gl (at' (gl (tk 5 r0)) (tn 1))) (tn (gn (tk 7 r0))))))),(.int (gn (tk 2 (at' (gl (at' (gl (tk 5 r0)) (tn 1))) (tn (gn (tk 7 r0)))))))]])),(.sl (gl (tk 5 r0))),(.int (gn (tk 6 r0))),(.int (w64 ((gn (tk 7 r0))+1))),(.int (gn (tk 8 r0))),(.int (w64 ((gn (tk 9 r0))+(gn r3)))),(.sl []),(.bool Bool.true)])))else none)else none))))else none)else none)else(bif(eqI (gn (tk 8 r0)) 3)then(bif(inR 0 (lenI (gl (tk 5 r0))))then(bif(inR (gn (tk 6 r0)) (lenI (gl (at' (gl (tk 5 r0)) (tn 0)))))then(bif(fitM 1 24)then(bif(eqI (w64 ((gn (tk 6 r0))+1)) (lenI (gl r0)))then(some [(.sl (gl r0)),(.int (gn (tk 1 r0))),(.sl (gl (tk 2 r0))),(.sl (gl (tk 3 r0))),(.sl (gl (tk 4 r0))),(.sl (gl (tk 5 r0))),(.int (w64 ((gn (tk 6 r0))+1))),(.int (gn (tk 7 r0))),(.int 4),(.int (gn (tk 9 r0))),(.sl [[(.int (gn (at' (gl (at' (gl (tk 5 r0)) (tn 0))) (tn (gn (tk 6 r0)))))),(.int (gn (tk 1 (at' (gl (at' (gl (tk 5 r0)) (tn 0))) (tn (gn (tk 6 r0))))))),(.int (gn (tk 2 (at' (gl (at' (gl (tk 5 r0)) (tn 0))) (tn (gn (tk 6 r0)))))))]]),(.bool Bool.true)])else(some [(.sl (gl r0)),(.int (gn (tk 1 r0))),(.sl (gl (tk 2 r0))),(.sl (gl (tk 3 r0))),(.sl (gl (tk 4 r0))),(.sl (gl (tk 5 r0))),(.int (w64 ((gn (tk 6 r0))+1))),(.int (gn (tk 7 r0))),(.int (gn (tk 8 r0))),(.int (gn (tk 9 r0))),(.sl [[(.int (gn (at' (gl (at' (gl (tk 5 r0)) (tn 0))) (tn (gn (tk 6 r0)))))),(.int (gn (tk 1 (at' (gl (at' (gl (tk 5 r0)) (tn 0))) (tn (gn (tk 6 r0))))))),(.int (gn (tk 2 (at' (gl (at' (gl (tk 5 r0)) (tn 0))) (tn (gn (tk 6 r0)))))))]]),(.bool Bool.true)]))else none)else none)else none)else(some [(.sl (gl r0)),(.int (gn (tk 1 r0))),(.sl (gl (tk 2 r0))),(.sl (gl (tk 3 r0))),(.sl (gl (tk 4 r0))),(.sl (gl (tk 5 r0))),(.int (gn (tk 6 r0))),(.int (gn (tk 7 r0))),(.int (gn (tk 8 r0))),(.int (gn (tk 9 r0))),(.sl []),(.bool Bool.true)]))))))))))))):=(callI_run rfl (by kernel_rfl)).trans (by kernel_rfl)
theorem ZCC (a0:Rows):callI tE Z9D [.sl a0]=(((callI tE Z5r [(.sl a0)])).bind (fun r0=>(bif(!(gb r0))then(some [(.sl []),(.int 0),(.sl []),(.sl []),(.sl []),(.sl []),(.int 0),(.int 0),(.int 0),(.int 0),(.bool Bool.false)])else(bif(fitM (0+(len a0)) 24)then(some [(.sl a0),(.int 0),(.sl []),(.sl []),(.sl []),(.sl []),(.int 0),(.int 0),(.int 1),(.int 0),(.bool Bool.true)])else none)))):=(callI_run rfl (by kernel_rfl)).trans (by kernel_rfl)
noncomputable def Z5t (x0:Rows) (x1:ByteArray) (x2:Int):Option (List Dat):=loopK tE Z7o 0 ⟨[(0,(.ro 277 Bool.false x0)),(3,(.s x1)),(4,(.i .i64 x2))],[]⟩
theorem Z8p (x0:Rows) (x1:ByteArray) (x2:Int):Z5t x0 x1 x2=(bif(ltI x2 (lenI x0))then(bif(ltI 0 x2)then(bif(fitS x1 (S [124]))then(bif(inR x2 (lenI x0))then(((callI tE Z5n [(.sl (gl (at' x0 (tn x2))))])).bind (fun r0=>(bif(fitS (x1++(S [124])) (gs r0))then(Z5t x0 ((x1++(S [124]))++(gs r0)) (w64 (x2+1)))else none)))else none)else none)else(bif(inR x2 (lenI x0))then(((callI tE Z5n [(.sl (gl (at' x0 (tn x2))))])).bind (fun r0=>(bif(fitS x1 (gs r0))then(Z5t x0 (x1++(gs r0)) (w64 (x2+1)))else none)))else none))else(some [(.str x1)])):=(loopK_run (by kernel_rfl)).trans (by kernel_rfl)
theorem ZBj (a0:Rows):callI tE Z7o [.sl a0]=(Z5t a0 (S []) 0):=(callI_run rfl (by kernel_rfl)).trans (by kernel_rfl)
theorem ZB2 (a0:Rows) (a1:Int) (a2 a3 a4 a5:Rows) (a6 a7 a8 a9:Int):callI tE Z8H [.sl a0,.int a1,.sl a2,.sl a3,.sl a4,.sl a5,.int a6,.int a7,.int a8,.int a9]=(((callI tE Z61 [(.sl a0),(.int a1),(.sl a2),(.sl a3),(.sl a4),(.sl a5),(.int a6),(.int a7),(.int a8),(.int a9)])).bind (fun r0=>(bif(!(gb r0))then(some [(.str (S []))])else(((callI tE Z5n [(.sl a0)])).bind (fun r1=>(bif(fitS (gs r1) (S [47]))then(((callI tE Z5N [(.int a1)])).bind (fun r2=>(bif(fitS ((gs r1)++(S [47])) (gs r2))then(bif(fitS (((gs r1)++(S [47]))++(gs r2)) (S [47]))then(((callI tE Z5n [(.sl a2)])).bind (fun r3=>(bif(fitS ((((gs r1)++(S [47]))++(gs r2))++(S [47])) (gs r3))then(bif(fitS (((((gs r1)++(S [47]))++(gs r2))++(S [47]))++(gs r3)) (S [47]))then(((callI tE Z5n [(.sl a3)])).bind (fun r4=>(bif(fitS ((((((gs r1)++(S [47]))++(gs r2))++(S [47]))++(gs r3))++(S [47])) (gs r4))then(bif(fitS (((((((gs r1)++(S [47]))++(gs r2))++(S [47]))++(gs r3))++(S [47]))++(gs r4)) (S [47]))then(((callI tE Z5n [(.sl a4)])).bind (fun r5=>(bif(fitS ((((((((gs r1)++(S [47]))++(gs r2))++(S [47]))++(gs r3))++(S [47]))++(gs r4))++(S [47])) (gs r5))then(bif(fitS (((((((((gs r1)++(S [47]))++(gs r2))++(S [47]))++(gs r3))++(S [47]))++(gs r4))++(S [47]))++(gs r5)) (S [47]))then(((callI tE Z7o [(.sl a5)])).bind (fun r6=>(bif(fitS ((((((((((gs r1)++(S [47]))++(gs r2))++(S [47]))++(gs r3))++(S [47]))++(gs r4))++(S [47]))++(gs r5))++(S [47])) (gs r6))then(bif(fitS (((((((((((gs r1)++(S [47]))++(gs r2))++(S [47]))++(gs r3))++(S [47]))++(gs r4))++(S [47]))++(gs r5))++(S [47]))++(gs r6)) (S [47]))then(((callI tE Z5N [(.int a6)])).bind (fun r7=>(bif(fitS ((((((((((((gs r1)++(S [47]))++(gs r2))++(S [47]))++(gs r3))++(S [47]))++(gs r4))++(S [47]))++(gs r5))++(S [47]))++(gs r6))++(S [47])) (gs r7))then(bif(fitS (((((((((((((gs r1)++(S [47]))++(gs r2))++(S [47]))++(gs r3))++(S [47]))++(gs r4))++(S [47]))++(gs r5))++(S [47]))++(gs r6))++(S [47]))++(gs r7)) (S [47]))then(((callI tE Z5N [(.int a7)])).bind (fun r8=>(bif(fitS ((((((((((((((gs r1)++(S [47]))++(gs r2))++(S [47]))++(gs r3))++(S [47]))++(gs r4))++(S [47]))++(gs r5))++(S [47]))++(gs r6))++(S [47]))++(gs r7))++(S [47])) (gs r8))then(bif(fitS (((((((((((((((gs r1)++(S [47]))++(gs r2))++(S [47]))++(gs r3))++(S [47]))++(gs r4))++(S [47]))++(gs r5))++(S [47]))++(gs r6))++(S [47]))++(gs r7))++(S [47]))++(gs r8)) (S [47]))then(((callI tE Z5N [(.int a8)])).bind (fun r9=>(bif(fitS ((((((((((((((((gs r1)++(S [47]))++(gs r2))++(S [47]))++(gs r3))++(S [47]))++(gs r4))++(S [47]))++(gs r5))++(S [47]))++(gs r6))++(S [47]))++(gs r7))++(S [47]))++(gs r8))++(S [47])) (gs r9))then(bif(fitS (((((((((((((((((gs r1)++(S [47]))++(gs r2))++(S [47]))++(gs r3))++(S [47]))++(gs r4))++(S [47]))++(gs r5))++(S [47]))++(gs r6))++(S [47]))++(gs r7))++(S [47]))++(gs r8))++(S [47]))++(gs r9)) (S [47]))then(((callI tE Z5N [(.int a9)])).bind (fun r10=>(bif(fitS ((((((((((((((((((gs r1)++(S [47]))++(gs r2))++(S [47]))++(gs r3))++(S [47]))++(gs r4))++(S [47]))++(gs r5))++(S [47]))++(gs r6))++(S [47]))++(gs r7))++(S [47]))++(gs r8))++(S [47]))++(gs r9))++(S [47])) (gs r10))then(some [(.str (((((((((((((((((((gs r1)++(S [47]))++(gs r2))++(S [47]))++(gs r3))++(S [47]))++(gs r4))++(S [47]))++(gs r5))++(S [47]))++(gs r6))++(S [47]))++(gs r7))++(S [47]))++(gs r8))++(S [47]))++(gs r9))++(S [47]))++(gs r10)))])else none)))else none)else none)))else none)else none)))else none)else none)))else none)else none)))else none)else none)))else none)else none)))else none)else none)))else none)else none)))else none)))))):=(callI_run rfl (by kernel_rfl)).trans (by kernel_rfl)
noncomputable def Z69 (x0:Rows) (x1 x2:Int) (x3:Rows):Option (List Dat):=loopK tE Z7q 0 ⟨[(3,(.own (500000,0))),(7,(.ro 277 Bool.false x0)),(8,(.i .i64 x1)),(9,(.i .i64 x2))],[((500000,0),(.row 9 x3 Bool.true 0 []))]⟩
theorem Z8q (x0:Rows) (x1 x2:Int) (x3:Rows):Z69 x0 x1 x2 x3=(bif(ltI x2 x1)then(bif(inR x2 (lenI x0))then(((callI tE Z7C [(.sl (gl (at' x0 (tn x2))))])).bind (fun r0=>(bif(fitM (Nat.succ (len x3)) 16)then(Z69 x0 x1 (w64 (x2+1)) (List.append x3 [[(.str (gs r0))]]))else none)))else none)else(((callI tE Z7p [(.sl x3),(.str (S [124]))])).bind (fun r0=>(some [(.str (gs r0))])))):=(loopK_run (by kernel_rfl)).trans (by kernel_rfl)
theorem ZBk (a0:Rows):callI tE Z7q [.sl a0]=(Z69 a0 (lenI a0) 0 []):=(callI_run rfl (by kernel_rfl)).trans (by kernel_rfl)
theorem ZB3 (a0:Rows) (a1:Int) (a2 a3 a4 a5:Rows) (a6 a7 a8 a9:Int):callI tE Z8I [.sl a0,.int a1,.sl a2,.sl a3,.sl a4,.sl a5,.int a6,.int a7,.int a8,.int a9]=(((callI tE Z62 [(.sl a0),(.int a1),(.sl a2),(.sl a3),(.sl a4),(.sl a5),(.int a6),(.int a7),(.int a8),(.int a9)])).bind (fun r0=>(bif(!(gb r0))then(some [(.str (S []))])else(((callI tE Z7C [(.sl a0)])).bind (fun r1=>(((callI tE Z5Y [(.int a1)])).bind (fun r2=>(((callI tE Z6m [(.sl a2)])).bind (fun r3=>(((callI tE Z6m [(.sl a3)])).bind (fun r4=>(((callI tE Z6m [(.sl a4)])).bind (fun r5=>(((callI tE Z7q [(.sl a5)])).bind (fun r6=>(((callI tE Z5Y [(.int a6)])).bind (fun r7=>(((callI tE Z5Y [(.int a7)])).bind (fun r8=>(((callI tE Z5Y [(.int a8)])).bind (fun r9=>(((callI tE Z5Y [(.int a9)])).bind (fun r10=>(((callI tE Z7p [(.sl [[(.str (gs r1))],[(.str (gs r2))],[(.str (gs r3))],[(.str (gs r4))],[(.str (gs r5))],[(.str (gs r6))],[(.str (gs r7))],[(.str (gs r8))],[(.str (gs r9))],[(.str (gs r10))]]),(.str (S [47]))])).bind (fun r11=>(some [(.str (gs r11))])))))))))))))))))))))))))):=(callI_run rfl (by kernel_rfl)).trans (by kernel_rfl)
theorem ZCD (a0:Rows):callI tE Z9F [.sl a0]=(((callI tE Z68 [(.sl a0)])).bind (fun r0=>(bif(!(gb r0))then(some [(.sl []),(.int 0),(.sl []),(.sl []),(.sl []),(.sl []),(.int 0),(.int 0),(.int 0),(.int 0),(.bool Bool.false)])else(((callI tE Z6h [(.sl a0)])).bind (fun r1=>(some [(.sl (gl r1)),(.int 0),(.sl []),(.sl []),(.sl []),(.sl []),(.int 0),(.int 0),(.int 1),(.int 0),(.bool Bool.true)])))))):=(callI_run rfl (by kernel_rfl)).trans (by kernel_rfl)
theorem ZAm (a0:Rows) (a1:Int) (a2 a3 a4 a5:Rows) (a6 a7 a8 a9:Int):callI tE Z80 [.sl a0,.int a1,.sl a2,.sl a3,.sl a4,.sl a5,.int a6,.int a7,.int a8,.int a9]=(((callI tE Z62 [(.sl a0),(.int a1),(.sl a2),(.sl a3),(.sl a4),(.sl a5),(.int a6),(.int a7),(.int a8),(.int a9)])).bind (fun r0=>(bif(!(gb r0))then(some [(.int 0)])else(bif(eqI a8 3)then(some [(.int (w64 ((lenI a0)-a6)))])else(bif(eqI a8 4)then(some [(.int (w64 ((lenI a0)-a6)))])else(some [(.int (lenI a0))])))))):=(callI_run rfl (by kernel_rfl)).trans (by kernel_rfl)
theorem ZAA (a0:Rows) (a1:Int) (a2 a3 a4 a5:Rows) (a6 a7 a8 a9:Int) (a10:Rows):callI tE Z7F [.sl a0,.int a1,.sl a2,.sl a3,.sl a4,.sl a5,.int a6,.int a7,.int a8,.int a9,.sl a10]=(((callI tE Z62 [(.sl a0),(.int a1),(.sl a2),(.sl a3),(.sl a4),(.sl a5),(.int a6),(.int a7),(.int a8),(.int a9)])).bind (fun r0=>(bif(gb r0)then(((callI tE Z68 [(.sl a10)])).bind (fun r1=>(bif(gb r1)then(((callI tE Z80 [(.sl a0),(.int a1),(.sl a2),(.sl a3),(.sl a4),(.sl a5),(.int a6),(.int a7),(.int a8),(.int a9)])).bind (fun r2=>(bif(eqI (w64 ((lenI a10)+(gn r2))) (lenI a0))then(((callI tE Z6l [(.sl a0)])).bind (fun r3=>(bif((leI 0 (lenI a10))&&(leI (lenI a10) (lenI (gl r3))))then(((callI tE Z7h [(.sl a10),(.sl (List.take (tn ((lenI a10)-0)) (List.drop (tn 0) (gl r3))))])).bind (fun r4=>(some [(.bool (gb r4))])))else none)))else(some [(.bool Bool.false)]))))else(some [(.bool Bool.false)]))))else(some [(.bool Bool.false)])))):=(callI_run rfl (by kernel_rfl)).trans (by kernel_rfl)
theorem ZAM (a0:Rows) (a1:Int) (a2 a3 a4 a5:Rows) (a6 a7 a8 a9:Int) (a10:Rows):callI tE Z6d [.sl a0,.int a1,.sl a2,.sl a3,.sl a4,.sl a5,.int a6,.int a7,.int a8,.int a9,.sl a10]=(((callI tE Z7F [(.sl a0),(.int a1),(.sl a2),(.sl a3),(.sl a4),(.sl a5),(.int a6),(.int a7),(.int a8),(.int a9),(.sl a10)])).bind (fun r0=>(bif(!(gb r0))then(some [(.str (S []))])else(((callI tE Z8I [(.sl a0),(.int a1),(.sl a2),(.sl a3),(.sl a4),(.sl a5),(.int a6),(.int a7),(.int a8),(.int a9)])).bind (fun r1=>(bif(fitS (gs r1) (S [33]))then(((callI tE Z7C [(.sl a10)])).bind (fun r2=>(bif(fitS ((gs r1)++(S [33])) (gs r2))then(some [(.str (((gs r1)++(S [33]))++(gs r2)))])else none)))else none)))))):=(callI_run rfl (by kernel_rfl)).trans (by kernel_rfl)
theorem ZAn (a0:Rows) (a1:Int) (a2 a3 a4 a5:Rows) (a6 a7 a8 a9:Int):callI tE Z81 [.sl a0,.int a1,.sl a2,.sl a3,.sl a4,.sl a5,.int a6,.int a7,.int a8,.int a9]=(((callI tE Z61 [(.sl a0),(.int a1),(.sl a2),(.sl a3),(.sl a4),(.sl a5),(.int a6),(.int a7),(.int a8),(.int a9)])).bind (fun r0=>(bif(!(gb r0))then(some [(.int 0)])else(bif(eqI a8 3)then(some [(.int (w64 ((lenI a0)-a6)))])else(bif(eqI a8 4)then(some [(.int (w64 ((lenI a0)-a6)))])else(some [(.int (lenI a0))])))))):=(callI_run rfl (by kernel_rfl)).trans (by kernel_rfl)
theorem ZAB (a0:Rows) (a1:Int) (a2 a3 a4 a5:Rows) (a6 a7 a8 a9:Int) (a10:Rows):callI tE Z7G [.sl a0,.int a1,.sl a2,.sl a3,.sl a4,.sl a5,.int a6,.int a7,.int a8,.int a9,.sl a10]=(((callI tE Z61 [(.sl a0),(.int a1),(.sl a2),(.sl a3),(.sl a4),(.sl a5),(.int a6),(.int a7),(.int a8),(.int a9)])).bind (fun r0=>(bif(!(gb r0))then(some [(.bool Bool.false)])else(((callI tE Z5r [(.sl a10)])).bind (fun r1=>(bif(!(gb r1))then(some [(.bool Bool.false)])else(((callI tE Z81 [(.sl a0),(.int a1),(.sl a2),(.sl a3),(.sl a4),(.sl a5),(.int a6),(.int a7),(.int a8),(.int a9)])).bind (fun r2=>(bif(!(eqI (w64 ((lenI a10)+(gn r2))) (lenI a0)))then(some [(.bool Bool.false)])else(((callI tE Z6V [(.sl a0)])).bind (fun r3=>(bif((leI 0 (lenI a10))&&(leI (lenI a10) (lenI (gl r3))))then(((callI tE Z7l [(.sl a10),(.sl (List.take (tn ((lenI a10)-0)) (List.drop (tn 0) (gl r3))))])).bind (fun r4=>(some [(.bool (gb r4))])))else none)))))))))))):=(callI_run rfl (by kernel_rfl)).trans (by kernel_rfl)
theorem ZAN (a0:Rows) (a1:Int) (a2 a3 a4 a5:Rows) (a6 a7 a8 a9:Int) (a10:Rows):callI tE Z6e [.sl a0,.int a1,.sl a2,.sl a3,.sl a4,.sl a5,.int a6,.int a7,.int a8,.int a9,.sl a10]=(((callI tE Z7G [(.sl a0),(.int a1),(.sl a2),(.sl a3),(.sl a4),(.sl a5),(.int a6),(.int a7),(.int a8),(.int a9),(.sl a10)])).bind (fun r0=>(bif(!(gb r0))then(some [(.str (S []))])else(((callI tE Z8H [(.sl a0),(.int a1),(.sl a2),(.sl a3),(.sl a4),(.sl a5),(.int a6),(.int a7),(.int a8),(.int a9)])).bind (fun r1=>(bif(fitS (gs r1) (S [33]))then(((callI tE Z5n [(.sl a10)])).bind (fun r2=>(bif(fitS ((gs r1)++(S [33])) (gs r2))then(some [(.str (((gs r1)++(S [33]))++(gs r2)))])else none)))else none)))))):=(callI_run rfl (by kernel_rfl)).trans (by kernel_rfl)
noncomputable def Z7e (x0:Rows) (x1:Int):Option (List Dat):=loopK tE Z8E 0 ⟨[(0,(.ro 3 Bool.false x0)),(3,(.i .i64 x1))],[]⟩
theorem Z99 (x0:Rows) (x1:Int):Z7e x0 x1=(bif(ltI x1 (lenI x0))then(bif(inR x1 (lenI x0))then(((callI tE Z6Z [(.int (gn (at' x0 (tn x1)))),(.int 8),(.int 60)])).bind (fun r0=>(bif(!(gb r0))then(some [(.bool Bool.false)])else(Z7e x0 (w64 (x1+1))))))else none)else(some [(.bool (ltI 0 (lenI x0)))])):=(loopK_run (by kernel_rfl)).trans (by kernel_rfl)
theorem ZCE (a0:Rows):callI tE Z8E [.sl a0]=(Z7e a0 0):=(callI_run rfl (by kernel_rfl)).trans (by kernel_rfl)
noncomputable def Z5u (x0:Rows) (x1 x2:Int) (x3:ByteArray) (x4:Bool) (x5 x6 x7 x8 x9 x10:Int) (x11 x12 x13 x14 x15 x16:Rows):Option (List Dat):=loopK tE Z6U 0 ⟨[(1,(.ro 3 Bool.false x0)),(2,(.i .i64 x1)),(10,(.ptr (500000,0) x2 0)),(11,(.s x3)),(12,(.b x4)),(13,(.i .i64 x5))],[((500000,0),(.box 128 [(.own (500001,0)),(.i .i64 x6),(.own (500002,0)),(.own (500003,0)),(.own (500004,0)),(.own (500005,0)),(.i .i64 x7),(.i .i64 x8),(.i .i64 x9),(.i .i64 x10),(.own (500006,0))])),((500001,0),(.row 224 x11 Bool.true 0 [])),((500002,0),(.row 224 x12 Bool.true 0 [])),((500003,0),(.row 224 x13 Bool.true 0 [])),((500004,0),(.row 224 x14 Bool.true 0 [])),((500005,0),(.row 277 x15 Bool.true 0 [])),((500006,0),(.row 224 x16 Bool.true 0 []))]⟩
theorem Z5k (x0:Rows) (x1 x2:Int) (x3:ByteArray) (x4:Bool) (x5 x6 x7 x8 x9 x10:Int) (x11 x12 x13 x14 x15 x16:Rows):Z5u x0 x1 x2 x3 x4 x5 x6 x7 x8 x9 x10 x11 x12 x13 x14 x15 x16=(bif(!(eqI x9 4))then(bif x4 then(bif(!(eqI (lenI x0) 0))then(bif(inR (Int.tmod x5 (lenI x0)) (lenI x0))then(((callI tE Z8s [(.sl x11),(.int x6),(.sl x12),(.sl x13),(.sl x14),(.sl x15),(.int x7),(.int x8),(.int x9),(.int x10),(.int (gn (at' x0 (tn (Int.tmod x5 (lenI x0))))))])).bind (fun r0=>(bif(fitM ((len x16)+(len (gl (tk 10 r0)))) 24)then(bif(!(eqI x1 0))then(bif(eqI (Int.tmod x5 x1) (w64 (x1-1)))then(((callI tE Z6e [(.sl (gl r0)),(.int (gn (tk 1 r0))),(.sl (gl (tk 2 r0))),(.sl (gl (tk 3 r0))),(.sl (gl (tk 4 r0))),(.sl (gl (tk 5 r0))),(.int (gn (tk 6 r0))),(.int (gn (tk 7 r0))),(.int (gn (tk 8 r0))),(.int (gn (tk 9 r0))),(.sl (List.append x16 (gl (tk 10 r0))))])).bind (fun r1=>(((callI tE Z7M [(.str x3),(.str (gs r1))])).bind (fun r2=>(Z5u x0 x1 x2 (gs r2) (gb (tk 1 r2)) (w64 (x5+1)) (gn (tk 1 r0)) (gn (tk 6 r0)) (gn (tk 7 r0)) (gn (tk 8 r0)) (gn (tk 9 r0)) (gl r0) (gl (tk 2 r0)) (gl (tk 3 r0)) (gl (tk 4 r0)) (gl (tk 5 r0)) (List.append x16 (gl (tk 10 r0))))))))else(Z5u x0 x1 x2 x3 x4 (w64 (x5+1)) (gn (tk 1 r0)) (gn (tk 6 r0)) (gn (tk 7 r0)) (gn (tk 8 r0)) (gn (tk 9 r0)) (gl r0) (gl (tk 2 r0)) (gl (tk 3 r0)) (gl (tk 4 r0)) (gl (tk 5 r0)) (List.append x16 (gl (tk 10 r0)))))else none)else none)))else none)else none)else(some [(.str x3),(.bool x4)]))else(some [(.str x3),(.bool x4)])):=(loopK_run (by kernel_rfl)).trans (by kernel_rfl)
theorem Z9z (a0 a1:Rows) (a2:Int):callI tE Z6U [.sl a0,.sl a1,.int a2]=(((callI tE Z9D [(.sl a0)])).bind (fun r0=>(bif(!(gb (tk 10 r0)))then(some [(.str (S [])),(.bool Bool.false)])else(((callI tE Z8E [(.sl a1)])).bind (fun r1=>(bif(!(gb r1))then(some [(.str (S [])),(.bool Bool.false)])else(((callI tE Z6Z [(.int a2),(.int 1),(.int 100)])).bind (fun r2=>(bif(!(gb r2))then(some [(.str (S [])),(.bool Bool.false)])else(((callI tE Z6e [(.sl (gl r0)),(.int (gn (tk 1 r0))),(.sl (gl (tk 2 r0))),(.sl (gl (tk 3 r0))),(.sl (gl (tk 4 r0))),(.sl (gl (tk 5 r0))),(.int (gn (tk 6 r0))),(.int (gn (tk 7 r0))),(.int (gn (tk 8 r0))),(.int (gn (tk 9 r0))),(.sl [])])).bind (fun r3=>(((callI tE Z7M [(.str (S [])),(.str (gs r3))])).bind (fun r4=>(Z5u a1 a2 0 (gs r4) (gb (tk 1 r4)) 0 (gn (tk 1 r0)) (gn (tk 6 r0)) (gn (tk 7 r0)) (gn (tk 8 r0)) (gn (tk 9 r0)) (gl r0) (gl (tk 2 r0)) (gl (tk 3 r0)) (gl (tk 4 r0)) (gl (tk 5 r0)) [])))))))))))))):=(callI_run rfl (by kernel_rfl)).trans (by kernel_rfl)
noncomputable def Z8d (x0:Rows) (x1 x2 x3 x4 x5 x6 x7:Int) (x8:ByteArray) (x9 x10 x11 x12 x13 x14 x15 x16 x17 x18:Int) (x19 x20 x21 x22 x23 x24 x25 x26 x27 x28 x29:Rows):Option (List Dat):=loopK tE ZAI 0 ⟨[(1,(.ro 3 Bool.false x0)),(2,(.fn 246 [(.ptr (2000003,0) x1 0),(.ptr (2000004,0) x2 0),(.ptr (2000005,0) x3 0)])),(3,(.ptr (500003,0) x4 0)),(6,(.ptr (500004,0) x5 0)),(8,(.i .i64 x6))],[((2000003,0),(.box 51 [(.own (500005,0))])),((2000004,0),(.box 3 [(.i .i64 x7)])),((2000005,0),(.box 9 [(.s x8)])),((500003,0),(.box 54 [(.own (500006,0)),(.i .i64 x9),(.own (500007,0)),(.own (500008,0)),(.own (500009,0)),(.own (500010,0)),(.i .i64 x10),(.i .i64 x11),(.i .i64 x12),(.i .i64 x13)])),((500004,0),(.box 54 [(.own (500011,0)),(.i .i64 x14),(.own (500012,0)),(.own (500013,0)),(.own (500014,0)),(.own (500015,0)),(.i .i64 x15),(.i .i64 x16),(.i .i64 x17),(.i .i64 x18)])),((500005,0),(.row 224 x19 Bool.true 0 [])),((500006,0),(.row 224 x20 Bool.true 0 [])),((500007,0),(.row 224 x21 Bool.true 0 [])),((500008,0),(.row 224 x22 Bool.true 0 [])),((500009,0),(.row 224 x23 Bool.true 0 [])),((500010,0),(.row 277 x24 Bool.true 0 [])),((500011,0),(.row 224 x25 Bool.true 0 [])),((500012,0),(.row 224 x26 Bool.true 0 [])),((500013,0),(.row 224 x27 Bool.true 0 [])),((500014,0),(.row 224 x28 Bool.true 0 [])),((500015,0),(.row 277 x29 Bool.true 0 []))]⟩
theorem Z8e (x0:Rows) (x1 x2 x3 x4 x5 x6 x7:Int) (x8:ByteArray) (x9 x10 x11 x12 x13 x14 x15 x16 x17 x18:Int) (x19 x20 x21 x22 x23 x24 x25 x26 x27 x28 x29:Rows):Z8d x0 x1 x2 x3 x4 x5 x6 x7 x8 x9 x10 x11 x12 x13 x14 x15 x16 x17 x18 x19 x20 x21 x22 x23 x24 x25 x26 x27 x28 x29=(bif(!(eqI x12 4))then(bif(!(eqI (lenI x0) 0))then(bif(inR (Int.tmod x6 (lenI x0)) (lenI x0))then(((callI tE Z8t [(.sl x20),(.int x9),(.sl x21),(.sl x22),(.sl x23),(.sl x24),(.int x10),(.int x11),(.int x12),(.int x13),(.int (gn (at' x0 (tn (Int.tmod x6 (lenI x0))))))])).bind (fun r0=>(bif(!(gb (tk 11 r0)))then(some [(.sl x20),(.int x9),(.sl x21),(.sl x22),(.sl x23),(.sl x24),(.int x10),(.int x11),(.int x12),(.int x13),(.bool Bool.false),(.sl x19),(.int x7),(.str x8)])else(((callI tE Z7j [(.sl (gl r0)),(.int (gn (tk 1 r0))),(.sl (gl (tk 2 r0))),(.sl (gl (tk 3 r0))),(.sl (gl (tk 4 r0))),(.sl (gl (tk 5 r0))),(.int (gn (tk 6 r0))),(.int (gn (tk 7 r0))),(.int (gn (tk 8 r0))),(.int (gn (tk 9 r0))),(.sl (gl (tk 10 r0))),(.int (w64 (x6+1))),(.sl x19),(.int x7),(.str x8)])).bind (fun r1=>(bif(!(gb r1))then(some [(.sl (gl r0)),(.int (gn (tk 1 r0))),(.sl (gl (tk 2 r0))),(.sl (gl (tk 3 r0))),(.sl (gl (tk 4 r0))),(.sl (gl (tk 5 r0))),(.int (gn (tk 6 r0))),(.int (gn (tk 7 r0))),(.int (gn (tk 8 r0))),(.int (gn (tk 9 r0))),(.bool Bool.false),(.sl (gl (List.drop 1 r1))),(.int (gn (List.drop 1 (List.drop 1 r1)))),(.str (gs (List.drop 1 (List.drop 1 (List.drop 1 r1)))))])else(Z8d x0 x1 x2 x3 x4 x5 (w64 (x6+1)) (gn (List.drop 1 (List.drop 1 r1))) (gs (List.drop 1 (List.drop 1 (List.drop 1 r1)))) (gn (tk 1 r0)) (gn (tk 6 r0)) (gn (tk 7 r0)) (gn (tk 8 r0)) (gn (tk 9 r0)) x14 x15 x16 x17 x18 (gl (List.drop 1 r1)) (gl r0) (gl (tk 2 r0)) (gl (tk 3 r0)) (gl (tk 4 r0)) (gl (tk 5 r0)) x25 x26 x27 x28 x29)))))))else none)else none)else(some [(.sl x20),(.int x9),(.sl x21),(.sl x22),(.sl x23),(.sl x24),(.int x10),(.int x11),(.int x12),(.int x13),(.bool Bool.true),(.sl x19),(.int x7),(.str x8)])):=(loopK_run (by kernel_rfl)).trans (by kernel_rfl)
theorem ZCh (a0:Rows) (a1:Int) (a2 a3 a4 a5:Rows) (a6 a7 a8 a9:Int) (a10 a11:Rows) (a12:Int) (a13:ByteArray):callI tE ZAI [.int 0,.sl a0,.int a1,.sl a2,.sl a3,.sl a4,.sl a5,.int a6,.int a7,.int a8,.int a9,.sl a10,.sl a11,.int a12,.str a13]=(Z8d a10 0 0 0 0 0 0 a12 a13 a1 a6 a7 a8 a9 0 0 0 0 0 a11 a0 a2 a3 a4 a5 [] [] [] [] []):=(callI_run rfl (by kernel_rfl)).trans (by kernel_rfl)
theorem ZA0 (a0 a1:Rows) (a2:Int):callI tE Z75 [.sl a0,.sl a1,.int a2]=(((callI tE Z9F [(.sl a0)])).bind (fun r0=>(bif(!(gb (tk 10 r0)))then(some [(.str (S [])),(.bool Bool.false)])else(((callI tE Z8F [(.sl a1)])).bind (fun r1=>(bif(!(gb r1))then(some [(.str (S [])),(.bool Bool.false)])else(((callI tE Z6G [(.int a2),(.int 1),(.int 100)])).bind (fun r2=>(bif(!(gb r2))then(some [(.str (S [])),(.bool Bool.false)])else(((callI tE Z6d [(.sl (gl r0)),(.int (gn (tk 1 r0))),(.sl (gl (tk 2 r0))),(.sl (gl (tk 3 r0))),(.sl (gl (tk 4 r0))),(.sl (gl (tk 5 r0))),(.int (gn (tk 6 r0))),(.int (gn (tk 7 r0))),(.int (gn (tk 8 r0))),(.int (gn (tk 9 r0))),(.sl [])])).bind (fun r3=>(((callI tE Z7N [(.str (S [])),(.str (gs r3))])).bind (fun r4=>(bif(!(gb (tk 1 r4)))then(some [(.str (gs r4)),(.bool Bool.false)])else(((callI tE ZAI [(.int 0),(.sl (gl r0)),(.int (gn (tk 1 r0))),(.sl (gl (tk 2 r0))),(.sl (gl (tk 3 r0))),(.sl (gl (tk 4 r0))),(.sl (gl (tk 5 r0))),(.int (gn (tk 6 r0))),(.int (gn (tk 7 r0))),(.int (gn (tk 8 r0))),(.int (gn (tk 9 r0))),(.sl a1),(.sl []),(.int a2),(.str (gs r4))])).bind (fun r5=>(some [(.str (gs (List.drop 1 (List.drop 1 (List.drop 11 r5))))),(.bool (gb (tk 10 r5)))]))))))))))))))))):=(callI_run rfl (by kernel_rfl)).trans (by kernel_rfl)
theorem Z9a (a0:Rows) (a1:Int) (a2 a3 a4 a5:Rows) (a6 a7 a8 a9:Int) (a10:Rows) (a11:Int) (a12:Rows) (a13:Int) (a14:ByteArray):callI tE Z7j [.sl a0,.int a1,.sl a2,.sl a3,.sl a4,.sl a5,.int a6,.int a7,.int a8,.int a9,.sl a10,.int a11,.sl a12,.int a13,.str a14]=(bif(fitM ((len a12)+(len a10)) 24)then(bif(!(eqI a13 0))then(bif(eqI (Int.tmod a11 a13) 0)then(((callI tE Z6d [(.sl a0),(.int a1),(.sl a2),(.sl a3),(.sl a4),(.sl a5),(.int a6),(.int a7),(.int a8),(.int a9),(.sl (List.append a12 a10))])).bind (fun r0=>(((callI tE Z7N [(.str a14),(.str (gs r0))])).bind (fun r1=>(some [(.bool (gb (tk 1 r1))),(.sl (List.append a12 a10)),(.int a13),(.str (gs r1))])))))else(some [(.bool Bool.true),(.sl (List.append a12 a10)),(.int a13),(.str a14)]))else none)else none):=(callI_run rfl (by kernel_rfl)).trans (by kernel_rfl)
set_option maxRecDepth 10000
theorem ZFy (x:List Rw) (hx:x.length≤1099511627776):∃y,y.Perm x∧Srt y∧callI tE Z6l [.sl (x.map Rw.e)]=some [.sl (y.map Rw.e)]:=by
 obtain⟨y,y1,y2,y3⟩:=ZFW x (by omega)
 refine⟨y,y1,y2,?_⟩
 rw[ZCP,ZBx x hx]
 simp only[gA,y3]
theorem ZGz (l u v w1 w2:List Rw) (c:Rw) (i k:Nat) (hl:l=u++c::v) (hi:u.length=i) (hk:w1.length=k) (hw:(w1++w2).length≤1099511627776) (hi2:i<1152921504606846976):
  (bif(inR (i:Int) (lenI (l.map Rw.e)))then(bif((leI 0 (k:Int))&&(leI (k:Int) (lenI ((w1++w2).map Rw.e))))then(bif(fitM (1+(len (List.take (tn ((lenI ((w1++w2).map Rw.e))-(k:Int))) (List.drop (tn (k:Int)) ((w1++w2).map Rw.e))))) 24)then(bif((leI 0 (k:Int))&&(leI (k:Int) (lenI ((w1++w2).map Rw.e))))then(bif(fitM (0+(len (List.take (tn ((k:Int)-0)) (List.drop (tn 0) ((w1++w2).map Rw.e))))) 24)then(bif(fitM (Nat.succ ((len (List.take (tn ((k:Int)-0)) (List.drop (tn 0) ((w1++w2).map Rw.e))))+(len (List.take (tn ((lenI ((w1++w2).map Rw.e))-(k:Int))) (List.drop (tn (k:Int)) ((w1++w2).map Rw.e)))))) 24)then
   (Z6B (l.map Rw.e) (w64 ((i:Int)+1)) (List.append (List.take (tn ((k:Int)-0)) (List.drop (tn 0) ((w1++w2).map Rw.e))) ([(.int (gn (at' (l.map Rw.e) (tn (i:Int))))),(.int (gn (tk 1 (at' (l.map Rw.e) (tn (i:Int)))))),(.int (gn (tk 2 (at' (l.map Rw.e) (tn (i:Int))))))]::(List.take (tn ((lenI ((w1++w2).map Rw.e))-(k:Int))) (List.drop (tn (k:Int)) ((w1++w2).map Rw.e))))))else none)else none)else none)else none)else none)else none)=
  Z6B (l.map Rw.e) ((i+1:Nat):Int) ((w1++c::w2).map Rw.e):=by
 have hc:at' (l.map Rw.e) i=c.e:=ZCa hl hi
 have hll:i<l.length:=by rw[hl,←hi];simp
 simp only[List.length_append]at hw
 have e1:List.take (tn ((k:Int)-0)) (List.drop (tn 0) ((w1++w2).map Rw.e))=w1.map Rw.e:=by
  show List.take ((k:Int)-0).toNat (List.drop 0 ((w1++w2).map Rw.e))=_
  rw[show((k:Int)-0).toNat=k by omega,List.drop_zero,List.map_append,←hk]
  simp
 have e2:List.take (tn ((lenI ((w1++w2).map Rw.e))-(k:Int))) (List.drop (tn (k:Int)) ((w1++w2).map Rw.e))=w2.map Rw.e:=by
  rw[Z5L]
  show List.take (((w1++w2).length:Int)-(k:Int)).toNat (List.drop k ((w1++w2).map Rw.e))=_
  rw[show(((w1++w2).length:Int)-(k:Int)).toNat=w2.length by simp;omega,List.map_append,←hk]
  simp[List.take_of_length_le]
 rw[ZAY hll,e1,e2,Z5l,Z5l,show leI (k:Int) (lenI ((w1++w2).map Rw.e))=true by rw[Z5L];exact leT (by simp;omega),leT (show(0:Int)≤(k:Int)by omega),show fitM (1+w2.length) 24=true from Z9C (by omega),show fitM (0+w1.length) 24=true from Z9C (by omega),show fitM (Nat.succ (w1.length+w2.length)) 24=true from Z9C (by omega),Z7k (by omega)]
 simp only[cond_true,Bool.and_self,Z84,hc,gk,gv,gw]
 congr 1
 simp[ZIT]
theorem ss1 (l u v:List Rw) (c:Rw) (i:Nat) (hl:l=u++c::v) (hi:u.length=i) (hi2:i<1152921504606846976):∀(n:Nat) (w1 w2:List Rw) (k:Nat),w1.length=n→k=n→Srt (w1++w2)→(∀y∈w2,Rw.le c y)→(w1++w2).length≤1099511627776→
  ∃w,w.Perm ((w1++w2)++[c])∧Srt w∧Z7v (l.map Rw.e) (i:Nat) (k:Nat) ((w1++w2).map Rw.e)=Z6B (l.map Rw.e) ((i+1:Nat):Int) (w.map Rw.e):=by
 have hll:i<l.length:=by rw[hl,←hi];simp
 have hc:nth l i=c:=by rw[hl,←hi,Z6M _ _ (Nat.le_refl _)];simp[nth]
 have pm:∀w1 w2:List Rw,(w1++c::w2).Perm ((w1++w2)++[c]):=fun w1 w2=>List.perm_middle.trans (by simpa using(List.perm_append_comm (l₁:=[c]) (l₂:=w1++w2)))
 intro n
 induction n with
 |zero=>
  intro w1 w2 k hn hk hs hw hlen
  have:w1=[]:=List.length_eq_zero_iff.mp hn
  subst this
  refine⟨c::w2,pm [] w2,List.pairwise_cons.mpr ⟨hw,by simpa using hs⟩,?_⟩
  rw[Z9K,ltF (by omega),cond_false]
  exact ZGz l u v [] w2 c i k hl hi (by simp;omega) hlen hi2
 |succ n ih=>
  intro w1 w2 k hn hk hs hw hlen
  obtain⟨w1,d,rfl⟩:=snoc_of (n:=n) (l:=w1) hn
  have hlen':=hlen
  simp only[List.length_append,List.length_cons,List.length_nil]at hlen' hn
  have i1:inR ((k-1:Nat):Int) (lenI ((w1++[d]++w2).map Rw.e))=true:=ZAY (by simp;omega)
  have i2:inR (i:Int) (lenI (l.map Rw.e))=true:=ZAY hll
  have hd:nth (w1++[d]++w2) (k-1)=d:=by
   rw[Z7d (w1++[d]) w2 (by simp;omega),Z6M w1 _ (by omega),show k-1-w1.length=0 by omega]
   simp[nth]
  have a1:at' ((w1++[d]++w2).map Rw.e) (k-1)=d.e:=by rw[ZF0 (by simp;omega),hd]
  have a2:at' (l.map Rw.e) i=c.e:=by rw[ZF0 hll,hc]
  rw[Z9K,ltT (by omega),cond_true,Z9t (by omega) (by omega),i1,cond_true]
  rw[show(bif inR (i:Int) (lenI (l.map Rw.e))then _ else none:Option (List Dat))=_ from by rw[i2,cond_true]]
  simp only[Z84,a1,a2,gk,gv,gw]
  rw[ZAL]
  simp only[gA]
  rw[ZEy]
  by_cases hcd:Rw.lt c d
  ·rw[decide_eq_true hcd,cond_true]
   have hs':Srt (w1++d::w2):=by simpa using hs
   obtain⟨w,q1,q2,q3⟩:=ih w1 (d::w2) (k-1) (by omega) (by omega) hs' (fun y hy=>by
    rcases List.mem_cons.mp hy with rfl|hy
    ·exact Rw.lt_le hcd
    ·exact hw y hy) (by simp;omega)
   refine⟨w,by simpa using q1,q2,?_⟩
   rw[←q3]
   simp
  ·rw[decide_eq_false hcd,cond_false]
   refine⟨(w1++[d])++c::w2,pm _ _,?_,?_⟩
   ·obtain⟨s1,s2,s3⟩:=List.pairwise_append.mp hs
    refine List.pairwise_append.mpr ⟨s1,List.pairwise_cons.mpr ⟨hw,s2⟩,fun x hx y hy=>?_⟩
    rcases List.mem_cons.mp hy with rfl|hy
    ·obtain⟨t1,t2,t3⟩:=List.pairwise_append.mp s1
     rcases List.mem_append.mp hx with hx|hx
     ·exact Rw.le_tr (t3 x hx d (by simp)) hcd
     ·simp at hx;subst hx;exact hcd
    ·exact s3 x hx y hy
   ·have:=ZGz l u v (w1++[d]) w2 c i k hl hi (by simp;omega) hlen hi2
    simp only[Z84,a2,gk,gv,gw,i2,cond_true]at this⊢
    exact this
theorem ss0 (l:List Rw) (hll:l.length≤1099511627770):∀(v u w:List Rw) (i:Nat),l=u++v→u.length=i→w.Perm u→Srt w→∃y,y.Perm l∧Srt y∧Z6B (l.map Rw.e) (i:Nat) (w.map Rw.e)=some [.sl (y.map Rw.e)]
 |[],u,w,i,hl,hi,hw,hs=>by
  rw[List.append_nil]at hl
  refine⟨w,hl▸hw,hs,?_⟩
  rw[Z9J,Z5L,ltF (by rw[hl];omega),cond_false]
 |c::v,u,w,i,hl,hi,hw,hs=>by
  have hwl:=hw.length_eq
  have hlen:l.length=u.length+(v.length+1):=by rw[hl];simp
  obtain⟨w',q1,q2,q3⟩:=ss1 l u v c i hl hi (by omega) w.length w [] w.length rfl rfl (by simpa using hs) (fun y hy=>by cases hy) (by simp;omega)
  simp only[List.append_nil]at q1 q3
  obtain⟨y,y1,y2,y3⟩:=ss0 l hll v (u++[c]) w' (i+1) (by simpa using hl) (by simp;omega) (q1.trans (List.Perm.append_right [c] hw)) q2
  refine⟨y,y1,y2,?_⟩
  rw[Z9J,Z5L,ltT (by omega),cond_true,Z5L,q3]
  exact y3
theorem ZF1 (x:List Rw) (hx:x.length≤1099511627770):∃y,y.Perm x∧Srt y∧callI tE Z6l [.sl (x.map Rw.e)]=some [.sl (y.map Rw.e)]∧callI tE Z6V [.sl (x.map Rw.e)]=some [.sl (y.map Rw.e)]:=by
 obtain⟨y,y1,y2,y3⟩:=ZFy x (by omega)
 obtain⟨z,z1,z2,z3⟩:=ss0 x hx x [] [] 0 rfl rfl (List.Perm.refl _) List.Pairwise.nil
 have:z=y:=Z7y (z1.trans y1.symm) z2 y2
 subst this
 refine⟨z,y1,y2,y3,?_⟩
 rw[ZCM]
 exact z3
def ins (c:Rw):List Rw→List Rw
 |[]=>[c]
 |d::l=>if Rw.lt c d then c::d::l else d::ins c l
def ZAO:List Rw→List Rw
 |[]=>[]
 |c::l=>ins c (ZAO l)
theorem ZDd (c:Rw):∀l,(ins c l).Perm (c::l)
 |[]=>List.Perm.refl _
 |d::l=>by
  unfold ins
  split
  ·exact List.Perm.refl _
  ·exact((ZDd c l).cons d).trans (List.Perm.swap c d l)
theorem ZFz (c:Rw):∀{l:List Rw},Srt l→Srt (ins c l)
 |[],_=>List.pairwise_singleton _ _
 |d::l,h=>by
  unfold ins
  obtain⟨h1,h2⟩:=List.pairwise_cons.mp h
  split
  ·rename_i hc
   refine List.pairwise_cons.mpr ⟨fun y hy=>?_,h⟩
   rcases List.mem_cons.mp hy with rfl|hy
   ·exact Rw.lt_le hc
   ·exact Rw.le_tr (Rw.lt_le hc) (h1 y hy)
  ·rename_i hc
   refine List.pairwise_cons.mpr ⟨fun y hy=>?_,ZFz c h2⟩
   rcases List.mem_cons.mp ((ZDd c l).mem_iff.mp hy)with rfl|hy
   ·exact hc
   ·exact h1 y hy
theorem Z7T:∀l,(ZAO l).Perm l
 |[]=>List.Perm.refl _
 |c::l=>(ZDd c _).trans ((Z7T l).cons c)
theorem ZAC:∀l,Srt (ZAO l)
 |[]=>List.Pairwise.nil
 |c::l=>ZFz c (ZAC l)
theorem ZHL (x:List Rw) (hx:x.length≤1099511627770):callI tE Z6l [.sl (x.map Rw.e)]=some [.sl ((ZAO x).map Rw.e)]:=by
 obtain⟨y,y1,y2,y3,_⟩:=ZF1 x hx
 rw[y3,Z7y (y1.trans (Z7T x).symm) y2 (ZAC x)]
theorem ZHM (x:List Rw) (hx:x.length≤1099511627770):callI tE Z6V [.sl (x.map Rw.e)]=some [.sl ((ZAO x).map Rw.e)]:=by
 obtain⟨y,y1,y2,_,y3⟩:=ZF1 x hx
 rw[y3,Z7y (y1.trans (Z7T x).symm) y2 (ZAC x)]
theorem Z8A (l:List Rw):(ZAO l).length=l.length:=(Z7T l).length_eq
theorem ZH0 (l:List Rw) (n:Nat):List.take (tn ((n:Int)-0)) (List.drop (tn 0) (l.map Rw.e))=(l.take n).map Rw.e:=by
 show List.take ((n:Int)-0).toNat (List.drop 0 (l.map Rw.e))=_
 rw[show((n:Int)-0).toNat=n by omega,List.drop_zero,List.map_take]
set_option maxRecDepth 100000
theorem ZDe (a0:ByteArray):callI tE Z7s [.str a0]=(((callI tE Z5N [(.int (szI a0))])).bind (fun r0=>(bif(fitS (gs r0) (S [58]))then(bif(fitS ((gs r0)++(S [58])) a0)then(bif(fitS (((gs r0)++(S [58]))++a0) (S [44]))then(((callI tE Z7r [(.str a0)])).bind (fun r1=>(((callI tE Z5N [(.int (gn r1))])).bind (fun r2=>(bif(fitS ((((gs r0)++(S [58]))++a0)++(S [44])) (gs r2))then(bif(fitS (((((gs r0)++(S [58]))++a0)++(S [44]))++(gs r2)) (S [59]))then(some [(.str ((((((gs r0)++(S [58]))++a0)++(S [44]))++(gs r2))++(S [59])))])else none)else none)))))else none)else none)else none))):=(callI_run rfl (by kernel_rfl)).trans (by kernel_rfl)
noncomputable def Z8f (x0:ByteArray) (x1 x2:Int):Option (List Dat):=loopK tE Z9S 0 ⟨[(0,(.s x0)),(1,(.i .i64 x1)),(6,(.i .i64 x2))],[]⟩
theorem Z8g (x0:ByteArray) (x1 x2:Int):Z8f x0 x1 x2=(bif(ltI x2 (szI x0))then(bif(inR x2 (szI x0))then(bif(!(eqI (byteAt x0 x2) 58))then(Z8f x0 x1 (w64 (x2+1)))else(bif(in3 x1 x2 (szI x0))then(((callI tE Z7E [(.str (ext x0 (tn x1) (tn x2)))])).bind (fun r0=>(bif(!(gb (tk 1 r0)))then(some [(.str (S [])),(.int (-1))])else(bif(ltI (gn r0) 0)then(some [(.str (S [])),(.int (-1))])else(bif(ltI (szI x0) (w64 ((w64 (x2+1))+(gn r0))))then(some [(.str (S [])),(.int (-1))])else(bif(in3 (w64 (x2+1)) (w64 ((w64 (x2+1))+(gn r0))) (szI x0))then(((callI tE Z7s [(.str (ext x0 (tn (w64 (x2+1))) (tn (w64 ((w64 (x2+1))+(gn r0))))))])).bind (fun r1=>(bif(ltI (szI x0) (w64 (x1+(szI (gs r1)))))then(some [(.str (S [])),(.int (-1))])else(bif(in3 x1 (w64 (x1+(szI (gs r1)))) (szI x0))then(bif(!(eqS (ext x0 (tn x1) (tn (w64 (x1+(szI (gs r1)))))) (gs r1)))then(some [(.str (S [])),(.int (-1))])else(some [(.str (ext x0 (tn (w64 (x2+1))) (tn (w64 ((w64 (x2+1))+(gn r0)))))),(.int (w64 (x1+(szI (gs r1)))))]))else none))))else none))))))else none))else none)else(bif(in3 x1 x2 (szI x0))then(((callI tE Z7E [(.str (ext x0 (tn x1) (tn x2)))])).bind (fun r0=>(bif(!(gb (tk 1 r0)))then(some [(.str (S [])),(.int (-1))])else(bif(ltI (gn r0) 0)then(some [(.str (S [])),(.int (-1))])else(bif(ltI (szI x0) (w64 ((w64 (x2+1))+(gn r0))))then(some [(.str (S [])),(.int (-1))])else(bif(in3 (w64 (x2+1)) (w64 ((w64 (x2+1))+(gn r0))) (szI x0))then(((callI tE Z7s [(.str (ext x0 (tn (w64 (x2+1))) (tn (w64 ((w64 (x2+1))+(gn r0))))))])).bind (fun r1=>(bif(ltI (szI x0) (w64 (x1+(szI (gs r1)))))then(some [(.str (S [])),(.int (-1))])else(bif(in3 x1 (w64 (x1+(szI (gs r1)))) (szI x0))then(bif(!(eqS (ext x0 (tn x1) (tn (w64 (x1+(szI (gs r1)))))) (gs r1)))then(some [(.str (S [])),(.int (-1))])else(some [(.str (ext x0 (tn (w64 (x2+1))) (tn (w64 ((w64 (x2+1))+(gn r0)))))),(.int (w64 (x1+(szI (gs r1)))))]))else none))))else none))))))else none)):=(loopK_run (by kernel_rfl)).trans (by kernel_rfl)
theorem ZDf (a0:ByteArray) (a1:Int):callI tE Z9S [.str a0,.int a1]=(Z8f a0 a1 a1):=(callI_run rfl (by kernel_rfl)).trans (by kernel_rfl)
noncomputable def Z77 (x0:ByteArray) (x1:Int) (x2:Rows):Option (List Dat):=loopK tE Z7a 0 ⟨[(0,(.s x0)),(4,(.own (500000,0))),(5,(.i .i64 x1))],[((500000,0),(.row 9 x2 Bool.true 0 []))]⟩
theorem Z7O (x0:ByteArray) (x1:Int) (x2:Rows):Z77 x0 x1 x2=(bif(ltI x1 (szI x0))then(((callI tE Z9S [(.str x0),(.int x1)])).bind (fun r0=>(bif(ltI (gn (tk 1 r0)) 0)then(some [(.sl x2),(.bool Bool.false)])else(bif(fitM (Nat.succ (len x2)) 16)then(Z77 x0 (gn (tk 1 r0)) (List.append x2 [[(.str (gs r0))]]))else none))))else(some [(.sl x2),(.bool Bool.true)])):=(loopK_run (by kernel_rfl)).trans (by kernel_rfl)
theorem ZBJ (a0:ByteArray):callI tE Z7a [.str a0]=(Z77 a0 0 []):=(callI_run rfl (by kernel_rfl)).trans (by kernel_rfl)
theorem ZB4 (a0 a1:ByteArray):callI tE Z7M [.str a0,.str a1]=(((callI tE Z7a [(.str a0)])).bind (fun r0=>(((callI tE Z7s [(.str a1)])).bind (fun r1=>(bif(!(gb (tk 1 r0)))then(some [(.str a0),(.bool Bool.false)])else(bif(ltI 20000 (w64 ((szI a0)+(szI (gs r1)))))then(some [(.str a0),(.bool Bool.false)])else(bif(fitS a0 (gs r1))then(some [(.str (a0++(gs r1))),(.bool Bool.true)])else none))))))):=(callI_run rfl (by kernel_rfl)).trans (by kernel_rfl)
noncomputable def Z7I (x0:ByteArray) (x1 x2 x3:Int):Option (List Dat):=loopK tE Z6W 0 ⟨[(0,(.s x0)),(1,(.i .i64 x1)),(2,(.i .u8 x2)),(9,(.i .i64 x3))],[]⟩
theorem Z6c (x0:ByteArray) (x1 x2 x3:Int):Z7I x0 x1 x2 x3=(bif(ltI x1 (szI x0))then(bif(ltI (w64 (x1-x3)) 11)then(bif(inR x1 (szI x0))then(bif(!(eqI (byteAt x0 x1) x2))then(Z7I x0 (w64 (x1+1)) x2 x3)else(bif(leI (szI x0) x1)then(some [(.int 0),(.int 0),(.bool Bool.false)])else(bif(inR x1 (szI x0))then(bif(!(eqI (byteAt x0 x1) x2))then(some [(.int 0),(.int 0),(.bool Bool.false)])else(bif(in3 x3 x1 (szI x0))then(((callI tE Z7D [(.str (ext x0 (tn x3) (tn x1)))])).bind (fun r0=>(bif(gb (tk 1 r0))then(some [(.int (gn r0)),(.int (w64 (x1+1))),(.bool (leI 0 (gn r0)))])else(some [(.int (gn r0)),(.int (w64 (x1+1))),(.bool Bool.false)]))))else none))else none)))else none)else(bif(leI (szI x0) x1)then(some [(.int 0),(.int 0),(.bool Bool.false)])else(bif(inR x1 (szI x0))then(bif(!(eqI (byteAt x0 x1) x2))then(some [(.int 0),(.int 0),(.bool Bool.false)])else(bif(in3 x3 x1 (szI x0))then(((callI tE Z7D [(.str (ext x0 (tn x3) (tn x1)))])).bind (fun r0=>(bif(gb (tk 1 r0))then(some [(.int (gn r0)),(.int (w64 (x1+1))),(.bool (leI 0 (gn r0)))])else(some [(.int (gn r0)),(.int (w64 (x1+1))),(.bool Bool.false)]))))else none))else none)))else(bif(leI (szI x0) x1)then(some [(.int 0),(.int 0),(.bool Bool.false)])else(bif(inR x1 (szI x0))then(bif(!(eqI (byteAt x0 x1) x2))then(some [(.int 0),(.int 0),(.bool Bool.false)])else(bif(in3 x3 x1 (szI x0))then(((callI tE Z7D [(.str (ext x0 (tn x3) (tn x1)))])).bind (fun r0=>(bif(gb (tk 1 r0))then(some [(.int (gn r0)),(.int (w64 (x1+1))),(.bool (leI 0 (gn r0)))])else(some [(.int (gn r0)),(.int (w64 (x1+1))),(.bool Bool.false)]))))else none))else none))):=(loopK_run (by kernel_rfl)).trans (by kernel_rfl)
theorem ZAa (a0:ByteArray) (a1 a2:Int):callI tE Z6W [.str a0,.int a1,.int a2]=(Z7I a0 a1 a2 a1):=(callI_run rfl (by kernel_rfl)).trans (by kernel_rfl)
theorem ZCi (a0:ByteArray) (a1:Int):callI tE Z8U [.str a0,.int a1]=(((callI tE Z6W [(.str a0),(.int a1),(.int 58)])).bind (fun r0=>(bif(!(gb (tk 2 r0)))then(some [(.str (S [])),(.int 0),(.bool Bool.false)])else(bif(leI (szI a0) (w64 ((gn (tk 1 r0))+(gn r0))))then(some [(.str (S [])),(.int 0),(.bool Bool.false)])else(bif(inR (w64 ((gn (tk 1 r0))+(gn r0))) (szI a0))then(bif(!(eqI (byteAt a0 (w64 ((gn (tk 1 r0))+(gn r0)))) 44))then(some [(.str (S [])),(.int 0),(.bool Bool.false)])else(bif(in3 (gn (tk 1 r0)) (w64 ((gn (tk 1 r0))+(gn r0))) (szI a0))then(((callI tE Z6W [(.str a0),(.int (w64 ((w64 ((gn (tk 1 r0))+(gn r0)))+1))),(.int 59)])).bind (fun r1=>(bif(gb (tk 2 r1))then(((callI tE Z7H [(.str (ext a0 (tn (gn (tk 1 r0))) (tn (w64 ((gn (tk 1 r0))+(gn r0))))))])).bind (fun r2=>(some [(.str (ext a0 (tn (gn (tk 1 r0))) (tn (w64 ((gn (tk 1 r0))+(gn r0)))))),(.int (gn (tk 1 r1))),(.bool (eqI (gn r1) (gn r2)))])))else(some [(.str (ext a0 (tn (gn (tk 1 r0))) (tn (w64 ((gn (tk 1 r0))+(gn r0)))))),(.int (gn (tk 1 r1))),(.bool Bool.false)]))))else none))else none))))):=(callI_run rfl (by kernel_rfl)).trans (by kernel_rfl)
noncomputable def Z78 (x0:ByteArray) (x1:Int) (x2:Rows):Option (List Dat):=loopK tE Z7b 0 ⟨[(0,(.s x0)),(4,(.own (500000,0))),(5,(.i .i64 x1))],[((500000,0),(.row 9 x2 Bool.true 0 []))]⟩
theorem Z7P (x0:ByteArray) (x1:Int) (x2:Rows):Z78 x0 x1 x2=(bif(ltI x1 (szI x0))then(((callI tE Z8U [(.str x0),(.int x1)])).bind (fun r0=>(bif(!(gb (tk 2 r0)))then(some [(.sl x2),(.bool Bool.false)])else(bif(fitM (Nat.succ (len x2)) 16)then(Z78 x0 (gn (tk 1 r0)) (List.append x2 [[(.str (gs r0))]]))else none))))else(some [(.sl x2),(.bool Bool.true)])):=(loopK_run (by kernel_rfl)).trans (by kernel_rfl)
theorem ZBK (a0:ByteArray):callI tE Z7b [.str a0]=(Z78 a0 0 []):=(callI_run rfl (by kernel_rfl)).trans (by kernel_rfl)
theorem ZB5 (a0 a1:ByteArray):callI tE Z7N [.str a0,.str a1]=(((callI tE Z7b [(.str a0)])).bind (fun r0=>(((callI tE Z5Y [(.int (szI a1))])).bind (fun r1=>(bif(fitS a0 (gs r1))then(bif(fitS (a0++(gs r1)) (S [58]))then(bif(fitS ((a0++(gs r1))++(S [58])) a1)then(bif(fitS (((a0++(gs r1))++(S [58]))++a1) (S [44]))then(((callI tE Z7H [(.str a1)])).bind (fun r2=>(((callI tE Z5Y [(.int (gn r2))])).bind (fun r3=>(bif(fitS ((((a0++(gs r1))++(S [58]))++a1)++(S [44])) (gs r3))then(bif(fitS (((((a0++(gs r1))++(S [58]))++a1)++(S [44]))++(gs r3)) (S [59]))then(bif(!(gb (tk 1 r0)))then(some [(.str a0),(.bool Bool.false)])else(bif(ltI 20000 (szI ((((((a0++(gs r1))++(S [58]))++a1)++(S [44]))++(gs r3))++(S [59]))))then(some [(.str a0),(.bool Bool.false)])else(some [(.str ((((((a0++(gs r1))++(S [58]))++a1)++(S [44]))++(gs r3))++(S [59]))),(.bool Bool.true)])))else none)else none)))))else none)else none)else none)else none))))):=(callI_run rfl (by kernel_rfl)).trans (by kernel_rfl)
set_option maxRecDepth 10000
theorem ZCI {α:Type} {l:List α} {n:Nat} (h:n<l.length):∃u a v,l=u++a::v∧u.length=n:=
 ⟨l.take n,l[n],l.drop (n+1),by
  have:=List.take_append_drop n l
  rw[List.drop_eq_getElem_cons h]at this
  exact this.symm,by simp;omega⟩
theorem ZDg (r:Rw) (p:List Rw):List.take (tn (lenI ((r::p).map Rw.e)-1)) (List.drop (tn 1) ((r::p).map Rw.e))=p.map Rw.e:=by
 rw[Z5L]
 show List.take ((((r::p).length:Nat):Int)-1).toNat (List.drop 1 (Rw.e r::p.map Rw.e))=_
 simp[List.take_of_length_le]
theorem Z8h {l:List (List Rw)} {a:List Rw} (h:a∈l):a.length≤szL List.length l:=ZFk h
theorem ZDJ (l:List (List Rw)) (a:List Rw):List.append (l.map rsE) [[Dat.sl (a.map Rw.e)]]=(l++[a]).map rsE:=by simp[rsE]
def Xc.B (x:Xc):Prop:=x.sz≤1073741824
theorem Xc.B.p {x:Xc} (h:x.B):szL List.length x.pend≤1073741824∧szL List.length x.que≤1073741824∧szL List.length x.got≤1073741824:=by
 simp only[Xc.B,Xc.sz]at h;omega
theorem ZG0 (l:List (List Rw)) (h:szL List.length l≤1073741824):callI tE Z7B [.sl (l.map rsE)]=some [.sl (l.flatten.map Rw.e)]:=by
 have hl:=Z7W List.length l
 have hfl:∀m:List (List Rw),m.flatten.length≤szL List.length m:=fun m=>by
  induction m with
  |nil=>simp
  |cons a m ih=>simp only[List.flatten_cons,List.length_append,szL];omega
 rw[ZCg]
 have:=Z72 (l:=l) (L:=fun(s:List Rw) i=>Z6R (l.map rsE) (lenI (l.map rsE)) i (s.map Rw.e)) (F:=fun _ _=>some [.sl (l.flatten.map Rw.e)]) (I:=fun s u _=>s=u.flatten) (by omega) (fun u a v s e hI=>by
  have h1:=hfl (u++[a])
  have h2:szL List.length (u++[a])≤szL List.length l:=by have:=ZCV List.length (u++[a]) v;rw[e,show u++a::v=(u++[a])++v by simp,this];omega
  refine .inl ⟨(u++[a]).flatten,?_,rfl,rfl⟩
  show Z6R _ _ _ _=Z6R _ _ _ _
  subst e
  rw[Z9P,hI]
  simp only[ZDD,ZDz,Z84,ZDC,cond_true,rsE,gA,Z5l,Z9s]
  have h3:(u++[a]).flatten.length=u.flatten.length+a.length:=by rw[List.flatten_append,List.length_append];simp
  rw[show fitM (u.flatten.length+a.length) 24=true from Z9C (by omega)]
  simp) (fun s hs=>by
  show Z6R _ _ _ _=_
  rw[Z9P,ZDE,cond_false,hs]) [] rfl
 exact this
def Xc.B2 (x:Xc):Prop:=x.sz≤1073741800
theorem Xc.B2.b {x:Xc} (h:x.B2):x.B:=by simp only[Xc.B2,Xc.B]at*;omega
theorem ZEA (l:List UInt8):(S l).size=l.length:=by simp[S,ByteArray.size]
theorem Z6L (l m:List UInt8):S l++S m=S (l++m):=by
 apply ByteArray.ext
 simp[S,ByteArray.data_append]
theorem ZIU {l m:List UInt8} (h:S l=S m):l=m:=by
 have:=congrArg (fun b:ByteArray=>b.data.toList) h
 simpa[S]using this
theorem ZIV {l m:List UInt8}:S l=S m↔l=m:=⟨ZIU,fun h=>by rw[h]⟩
theorem ZI0 (l:List UInt8) (i j:Nat):ext (S l) i j=S ((l.take j).drop i):=by
 apply ByteArray.ext
 simp[ext,S,ByteArray.data_extract,List.extract_eq_take_drop,List.drop_take]
theorem Z6A (l:List UInt8):szI (S l)=(l.length:Int):=by show((S l).size:Int)=_;rw[ZEA]
theorem ZHN (l m:List UInt8):eqS (S l) (S m)=decide (l=m):=by rw[ZHF];simp only[ZIV]
theorem Z5j {l m:List UInt8} (h:l.length+m.length≤9223372036854775807):fitS (S l) (S m)=true:=by unfold fitS;rw[ZEA,ZEA];exact ZIP h
theorem ZF2 {l:List UInt8} {i:Nat} (h:i<l.length):byteAt (S l) (i:Int)=((l[i]'h).toNat:Int):=by
 unfold byteAt
 rw[dif_pos (by rw[ZEA,Int.toNat_natCast];exact h)]
 simp only[Int.toNat_natCast,S]
 rfl
theorem ZG1 (n:Int):strOf [[.int n]]=S [UInt8.ofNat n.toNat]:=rfl
def dig (d:Nat):UInt8:=UInt8.ofNat (48+d)
theorem ZCj (d:Nat) (h:d<10):(dig d).toNat=48+d:=by simp[dig,UInt8.toNat_ofNat];omega
def ZEZ (n:Nat):List UInt8:=if n=0 then[]else ZEZ (n/10)++[dig (n%10)]
termination_by n
theorem ZF3:ZEZ 0=[]:=by rw[ZEZ,if_pos rfl]
theorem ZF4 {n:Nat} (h:n≠0):ZEZ n=ZEZ (n/10)++[dig (n%10)]:=by rw[ZEZ,if_neg h]
def dec (n:Nat):List UInt8:=if n=0 then[48]else ZEZ n
theorem ZBl {n:Nat} (h:n≠0):dec n=ZEZ n:=if_neg h
theorem ZG2 {d:Int} (h:0≤d) (h2:d<10):S [UInt8.ofNat (IntKind.wrap .u8 (48+d)).toNat]=S [dig d.toNat]:=by
 have:IntKind.wrap .u8 (48+d)=48+d:=by
  simp only[IntKind.wrap,IntKind.signed,IntKind.bits,Bool.false_and,Bool.false_eq_true,if_false]
  omega
 rw[this]
 unfold dig
 congr 3
 omega
theorem ZGi:∀(d n:Nat),n<10^d→(ZEZ n).length≤d:=by
 intro d
 induction d with
 |zero=>
  intro n h;have:n=0:=by simpa using h
  subst this;rw[ZF3];simp
 |succ d ih=>
  intro n h
  by_cases h0:n=0
  ·subst h0;rw[ZF3];simp
  ·rw[ZF4 h0,List.length_append]
   have:=ih (n/10) (by rw[Nat.pow_succ]at h;omega)
   simp;omega
theorem ZHO {n:Nat} (h:n<10) (h0:n≠0):ZEZ n=[dig n]:=by
 rw[ZF4 h0,show n/10=0 by omega,ZF3,show n%10=n by omega];rfl
theorem ZF5 {n:Nat} (h:n<10):dec n=[dig n]:=by
 by_cases h0:n=0
 ·subst h0;rfl
 ·rw[ZBl h0,ZHO h h0]
theorem ZF6 {n:Nat} (h:10≤n):dec n=dec (n/10)++[dig (n%10)]:=by
 rw[ZBl (by omega),ZF4 (by omega),ZBl (by omega)]
theorem ZDh {P:Nat→Prop} (h1:∀n,n<10→P n) (h2:∀n,10≤n→P (n/10)→P n) (n:Nat):P n:=by
 induction n using Nat.strongRecOn with
 |ind n ih=>
  by_cases h:n<10
  ·exact h1 n h
  ·exact h2 n (by omega) (ih (n/10) (by omega))
def ZA1 (c:UInt8):Bool:=decide (48≤c.toNat)&&decide (c.toNat≤57)
theorem ZEB {d:Nat} (h:d<10):ZA1 (dig d)=true:=by
 unfold ZA1;rw[ZCj d h];simp;omega
theorem Z9V (n:Nat):(dec n).all ZA1=true:=by
 refine ZDh (P:=fun n=>(dec n).all ZA1=true) (fun n h=>?_) (fun n h ih=>?_) n
 ·rw[ZF5 h];simp[ZEB h]
 ·rw[ZF6 h,List.all_append,ih];simp[ZEB (show n%10<10 by omega)]
theorem ZH1 (n:Nat):dec n≠[]:=by
 refine ZDh (P:=fun n=>dec n≠[]) (fun n h=>?_) (fun n h ih=>?_) n
 ·rw[ZF5 h];simp
 ·rw[ZF6 h];simp
def ZEf (l:List UInt8):Nat:=l.foldl (fun n c=>10*n+(c.toNat-48)) 0
theorem ZCk (l:List UInt8) (c:UInt8):ZEf (l++[c])=10*ZEf l+(c.toNat-48):=by simp[ZEf,List.foldl_append]
theorem ZAP (n:Nat):ZEf (dec n)=n:=by
 refine ZDh (P:=fun n=>ZEf (dec n)=n) (fun n h=>?_) (fun n h ih=>?_) n
 ·rw[ZF5 h];simp only[ZEf,List.foldl_cons,List.foldl_nil,ZCj n h];omega
 ·rw[ZF6 h,ZCk,ih,ZCj _ (by omega)];omega
theorem ZG3 {a b:Nat} (h:dec a=dec b):a=b:=by rw[←ZAP a,←ZAP b,h]
theorem ZF7:∀(l:List UInt8) (a:Nat),l.all ZA1=true→l.foldl (fun n c=>10*n+(c.toNat-48)) a+1≤(a+1)*10^l.length
 |[],a,_=>by simp
 |c::l,a,h=>by
  simp only[List.all_cons,Bool.and_eq_true,ZA1,decide_eq_true_eq]at h
  have:=ZF7 l (10*a+(c.toNat-48)) (by simpa[ZA1]using h.2)
  simp only[List.foldl_cons,List.length_cons,Nat.pow_succ]
  have h2:(10*a+(c.toNat-48)+1)*10^l.length≤((a+1)*10)*10^l.length:=Nat.mul_le_mul_right _ (by omega)
  rw[show(a+1)*(10^l.length*10)=((a+1)*10)*10^l.length by rw[Nat.mul_comm (10^l.length) 10,Nat.mul_assoc]]
  omega
theorem ZDi (l:List UInt8) (h:l.all ZA1=true):ZEf l<10^l.length:=by
 have:=ZF7 l 0 h
 unfold ZEf
 omega
theorem Z8K (d n:Nat) (hd:1≤d):(dec n).length≤d↔n<10^d:=by
 constructor
 ·intro h
  have:=ZDi (dec n) (Z9V n)
  rw[ZAP]at this
  exact Nat.lt_of_lt_of_le this (Nat.pow_le_pow_right (by omega) h)
 ·intro h
  by_cases h0:n=0
  ·subst h0;simpa[dec]using hd
  ·rw[ZBl h0];exact ZGi d n h
theorem ZBL (n:Nat):(dec n).head?≠some 45:=by
 intro h
 have:=List.all_eq_true.mp (Z9V n) 45 (List.mem_of_mem_head? (by rw[h];rfl))
 exact absurd this (by decide)
def fmt (n:Int):List UInt8:=if n<0 then 45::dec n.natAbs else dec n.natAbs
theorem Z8v {n:Int} (h:n<0):fmt n=45::dec n.natAbs:=if_pos h
theorem Z8w {n:Int} (h:0≤n):fmt n=dec n.natAbs:=if_neg (by omega)
theorem ZA2 {a b:Int} (h:fmt a=fmt b):a=b:=by
 by_cases ha:a<0<;>by_cases hb:b<0
 ·rw[Z8v ha,Z8v hb]at h
  have:=ZG3 (List.cons.inj h).2;omega
 ·rw[Z8v ha,Z8w (by omega)]at h
  exact absurd (by rw[←h];rfl) (ZBL b.natAbs)
 ·rw[Z8w (by omega),Z8v hb]at h
  exact absurd (by rw[h];rfl) (ZBL a.natAbs)
 ·rw[Z8w (by omega),Z8w (by omega)]at h
  have:=ZG3 h;omega
theorem Z6D {n:Int} (h: -9223372036854775808≤n∧n≤9223372036854775807):(fmt n).length≤20:=by
 have h1:(dec n.natAbs).length≤19:=(Z8K 19 _ (by omega)).mpr (by omega)
 by_cases hn:n<0
 ·rw[Z8v hn,List.length_cons];omega
 ·rw[Z8w (by omega)];omega
open Classical in
noncomputable def ZAr (s:List UInt8):Option Int:=if h:∃n:Int,fmt n=s∧n.natAbs<1000000000 then some h.choose else none
theorem Z9b {s:List UInt8} {n:Int}:ZAr s=some n↔fmt n=s∧n.natAbs<1000000000:=by
 unfold ZAr
 constructor
 ·intro h
  split at h
  ·rename_i hx;cases h;exact hx.choose_spec
  ·cases h
 ·intro h
  have hx:∃n:Int,fmt n=s∧n.natAbs<1000000000:=⟨n,h⟩
  rw[dif_pos hx]
  exact congrArg some (ZA2 (hx.choose_spec.1.trans h.1.symm))
theorem ZCl {s:List UInt8}:ZAr s=none↔∀n:Int,fmt n=s→¬n.natAbs<1000000000:=by
 constructor
 ·intro h n h1 h2
  rw[Z9b.mpr ⟨h1,h2⟩]at h;cases h
 ·intro h
  cases hp:ZAr s with
  |none=>rfl
  |some n=>have:=Z9b.mp hp;exact absurd this.2 (h n this.1)
theorem ZFX {n:Int} (h:n.natAbs<1000000000):ZAr (fmt n)=some n:=Z9b.mpr ⟨rfl,h⟩
noncomputable def pI (s:List UInt8):List Dat:=match ZAr s with
 |some n=>[.int n,.bool true]
 |none=>[.int 0,.bool false]
theorem ZH2 (u v:List UInt8) (c:UInt8):ltI (u.length:Int) (szI (S (u++c::v)))=true:=ltT (by rw[Z6A];simp only[List.length_append,List.length_cons];omega)
theorem ZH3 (u v:List UInt8) (c:UInt8):inR (u.length:Int) (szI (S (u++c::v)))=true:=ZDZ (by omega) (by rw[Z6A];simp only[List.length_append,List.length_cons];omega)
theorem ZGd (u v:List UInt8) (c:UInt8):byteAt (S (u++c::v)) (u.length:Int)=(c.toNat:Int):=by
 rw[ZF2 (by simp)];simp
theorem ZD7 (l:List UInt8):ltI (l.length:Int) (szI (S l))=false:=ltF (by rw[Z6A];omega)
theorem ZG4 (c:UInt8):c.toNat<256:=UInt8.toNat_lt c
theorem ZBz (c d:UInt8):eqI (c.toNat:Int) (d.toNat:Int)=decide (c=d):=by
 unfold eqI
 by_cases h:c=d
 ·subst h;simp
 ·have:¬c.toNat=d.toNat:=fun e=>h (UInt8.toNat_inj.mp e)
  simp[h];omega
def ZGj (x:Nat) (c:UInt8):Nat:=(37*x+c.toNat+1)%65521
def chk (s:List UInt8):Nat:=s.foldl ZGj 11
theorem ZEg (x:Nat) (c:UInt8):ZGj x c<65521:=Nat.mod_lt _ (by decide)
theorem ZDK:∀(s:List UInt8) (x:Nat),x<65521→s.foldl ZGj x<65521
 |[],_,h=>h
 |c::s,x,_=>ZDK s _ (ZEg x c)
theorem ZDL (s:List UInt8):chk s<65521:=ZDK s 11 (by decide)
theorem ZF8 {x:Nat} (h:x<65521) (c:UInt8):Int.tmod (w64 ((w64 ((w64 (37*(x:Int)))+(w64 (c.toNat:Int))))+1)) 65521=((ZGj x c:Nat):Int):=by
 have:=ZG4 c
 rw[Z5g (n:=37*(x:Int)) ⟨by omega,by omega⟩,Z5g (n:=(c.toNat:Int)) ⟨by omega,by omega⟩,Z5g (n:=37*(x:Int)+(c.toNat:Int)) ⟨by omega,by omega⟩,Z5g ⟨by omega,by omega⟩,Int.tmod_eq_emod_of_nonneg (by omega)]
 unfold ZGj
 omega
theorem ZAD {c:UInt8}:ZA1 c=true↔48≤c.toNat∧c.toNat≤57:=by simp[ZA1]
def ZEC (n:Nat) (c:UInt8):Nat:=10*n+(c.toNat-48)
theorem ZI1 {c:UInt8} (h:48≤c.toNat):IntKind.wrap .u8 ((c.toNat:Int)-48)=((c.toNat-48:Nat):Int):=by
 have:=ZG4 c
 simp only[IntKind.wrap,IntKind.signed,IntKind.bits,Bool.false_and,Bool.false_eq_true,if_false]
 omega
theorem ZH4 {n:Nat} (hn:n<100000000000) {c:UInt8} (h:48≤c.toNat):w64 ((w64 (10*(n:Int)))+(w64 (IntKind.wrap .u8 ((c.toNat:Int)-48))))=((ZEC n c:Nat):Int):=by
 have:=ZG4 c
 rw[ZI1 h,Z5g (n:=10*(n:Int)) ⟨by omega,by omega⟩,Z5g (n:=((c.toNat-48:Nat):Int)) ⟨by omega,by omega⟩,Z5g ⟨by omega,by omega⟩]
 unfold ZEC
 omega
theorem ZHP {n:Nat} (hn:n<100000000000) {c:UInt8} (h:48≤c.toNat):w64 ((w64 ((n:Int)*10))+(w64 (IntKind.wrap .u8 ((c.toNat:Int)-48))))=((ZEC n c:Nat):Int):=by
 rw[Int.mul_comm];exact ZH4 hn h
theorem ZED {n:Int}:∀c∈fmt n,ZA1 c=true∨c=45:=by
 intro c hc
 unfold fmt at hc
 split at hc
 ·rcases List.mem_cons.mp hc with rfl|hc
  ·exact .inr rfl
  ·exact .inl (List.all_eq_true.mp (Z9V _) c hc)
 ·exact .inl (List.all_eq_true.mp (Z9V _) c hc)
def Z8k (b:List UInt8):List (List UInt8)→List UInt8
 |[]=>[]
 |[x]=>x
 |x::y::r=>x++b++Z8k b (y::r)
theorem ZBm {b x:List UInt8} {r:List (List UInt8)} (h:r≠[]):Z8k b (x::r)=x++b++Z8k b r:=by
 cases r with
 |nil=>exact absurd rfl h
 |cons y r=>rfl
theorem ZBM (b:List UInt8):∀(l:List (List UInt8)),(Z8k b l).length≤(l.map fun x=>x.length+b.length).sum
 |[]=>by simp[Z8k]
 |[x]=>by simp[Z8k]
 |x::y::r=>by
  have:=ZBM b (y::r)
  rw[ZBm (by simp)]
  simp only[List.length_append,List.map_cons,List.sum_cons]at this⊢
  omega
theorem ZDM (b:List UInt8):∀(l:List (List UInt8)) (x:List UInt8),l≠[]→Z8k b (l++[x])=Z8k b l++b++x
 |[],_,h=>absurd rfl h
 |[y],x,_=>rfl
 |y::z::r,x,_=>by
  have e1:=ZBm (b:=b) (x:=y) (r:=z::r) (by simp)
  have e2:=ZBm (b:=b) (x:=y) (r:=z::r++[x]) (by simp)
  rw[List.cons_append,e2,ZDM b (z::r) x (by simp),e1];simp
def StE (s:List UInt8):List Dat:=[.str (S s)]
theorem ZG5 {i:Int} {n:Nat} (hn:n≤1073741824):win i 0 (w64 ((n:Int)-1))=decide (0≤i∧i<n):=by
 rw[Z5g ⟨by omega,by omega⟩,Bool.eq_iff_iff,Z8J,decide_eq_true_eq]
 constructor<;>(intro h;omega)
theorem ZBn (r:Rw) (p:List Rw):at' ((r::p).map Rw.e) (tn 0)=r.e:=rfl
theorem ZHn (r:Rw) (p:List Rw):inR 0 (lenI ((r::p).map Rw.e))=true:=by rw[Z5L];exact ZDZ (by omega) (by(first|omega|(simp only[List.length_append,List.length_cons,List.length_nil,List.length_map,List.length_take,List.length_drop,List.length_replicate,Z6A]at* <;>omega)))
theorem ZIW (r:Rw) (p:List Rw):leI 1 (lenI ((r::p).map Rw.e))=true:=by rw[Z5L];exact leT (by(first|omega|(simp only[List.length_append,List.length_cons,List.length_nil,List.length_map,List.length_take,List.length_drop,List.length_replicate,Z6A]at* <;>omega)))
theorem ZHo (r:Rw) (p:List Rw):eqI (lenI ((r::p).map Rw.e)) 0=false:=by rw[Z5L];exact eqF (by(first|omega|(simp only[List.length_append,List.length_cons,List.length_nil,List.length_map,List.length_take,List.length_drop,List.length_replicate,Z6A]at* <;>omega)))
theorem ZHQ (q:List Rw) (r:Rw):List.append (q.map Rw.e) [[Dat.int r.k,.int r.v,.int r.w]]=(q++[r]).map Rw.e:=by simp[Rw.e]
def isS:List Rw→Bool
 |[]=>true
 |a::l=>(match l with
  |[]=>true
  |b::_=> !decide (Rw.lt b a))&&isS l
theorem ZG6 (a b:Rw) (l:List Rw):isS (a::b::l)=(!decide (Rw.lt b a)&&isS (b::l)):=rfl
theorem ZI2 (a:Rw):isS [a]=true:=rfl
theorem ZCm:∀{l:List Rw},isS l=true↔Srt l
 |[]=>by simp[isS]
 |[a]=>by simp[isS]
 |a::b::l=>by
  rw[ZG6,Bool.and_eq_true,ZCm (l:=b::l)]
  unfold Srt
  rw[List.pairwise_cons (a:=a)]
  simp only[Bool.not_eq_true',decide_eq_false_iff_not]
  constructor
  ·rintro ⟨h1,h2⟩
   refine⟨fun y hy=>?_,h2⟩
   rcases List.mem_cons.mp hy with rfl|hy
   ·exact h1
   ·exact Rw.le_tr h1 ((List.pairwise_cons.mp h2).1 y hy)
  ·rintro ⟨h1,h2⟩
   exact⟨h1 b (by simp),h2⟩
theorem ZEE (l:List Rw) (hl:l.length<4611686018427387904):∀(v u:List Rw) (a:Rw),l=u++a::v→Z7x (l.map Rw.e) ((u.length+1:Nat):Int)=some [.bool (isS (a::v))]
 |[],u,a,h=>by
  rw[Z83,Z5L,ltF (by rw[h];simp),cond_false,ZI2]
 |b::v,u,a,h=>by
  have hlen:l.length=u.length+1+1+v.length:=by rw[h];simp;omega
  have a1:at' (l.map Rw.e) u.length=a.e:=ZCa h rfl
  have a2:at' (l.map Rw.e) (u.length+1)=b.e:=ZCa (u:=u++[a]) (v:=v) (by rw[h];simp) (by simp)
  have i1:inR ((u.length+1:Nat):Int) (lenI (l.map Rw.e))=true:=ZAY (by omega)
  have i2:inR ((u.length:Nat):Int) (lenI (l.map Rw.e))=true:=ZAY (by omega)
  have e1:w64 (((u.length+1:Nat):Int)-1)=(u.length:Int):=by rw[Z5g ⟨by omega,by omega⟩];omega
  have ih:=ZEE l hl v (u++[a]) b (by rw[h];simp)
  rw[List.length_append,List.length_singleton]at ih
  rw[Z83,show ltI ((u.length+1:Nat):Int) (lenI (l.map Rw.e))=true by rw[Z5L];exact ltT (by omega),i1,e1,i2,Z7k (by omega),ih]
  simp only[cond_true,Z84,a1,a2,gk,gv,gw,ZAi,gA,Z9Y,ZG6]
  cases decide (Rw.lt b a)<;>rfl
theorem ZEF (l:List Rw) (hl:l.length<4611686018427387904):callI tE Z7i [.sl (l.map Rw.e)]=some [.bool (isS l)]:=by
 rw[ZCO]
 cases l with
 |nil=>rw[Z83];rfl
 |cons a v=>exact ZEE (a::v) hl v [] a rfl
theorem ZEG (l:List Rw) (hl:l.length<4611686018427387904):∀(v u:List Rw) (a:Rw),l=u++a::v→Z7u (l.map Rw.e) ((u.length+1:Nat):Int)=some [.bool (isS (a::v))]
 |[],u,a,h=>by
  rw[Z82,Z5L,ltF (by rw[h];simp),cond_false,ZI2]
 |b::v,u,a,h=>by
  have hlen:l.length=u.length+1+1+v.length:=by rw[h];simp;omega
  have a1:at' (l.map Rw.e) u.length=a.e:=ZCa h rfl
  have a2:at' (l.map Rw.e) (u.length+1)=b.e:=ZCa (u:=u++[a]) (v:=v) (by rw[h];simp) (by simp)
  have i1:inR ((u.length+1:Nat):Int) (lenI (l.map Rw.e))=true:=ZAY (by omega)
  have i2:inR ((u.length:Nat):Int) (lenI (l.map Rw.e))=true:=ZAY (by omega)
  have e1:w64 (((u.length+1:Nat):Int)-1)=(u.length:Int):=by rw[Z5g ⟨by omega,by omega⟩];omega
  have ih:=ZEG l hl v (u++[a]) b (by rw[h];simp)
  rw[List.length_append,List.length_singleton]at ih
  rw[Z82,show ltI ((u.length+1:Nat):Int) (lenI (l.map Rw.e))=true by rw[Z5L];exact ltT (by omega),i1,e1,i2,Z7k (by omega),ih]
  simp only[cond_true,Z84,a1,a2,gk,gv,gw,ZAL,gA,ZEy,ZG6]
  cases decide (Rw.lt b a)<;>rfl
theorem ZEH (l:List Rw) (hl:l.length<4611686018427387904):callI tE Z7g [.sl (l.map Rw.e)]=some [.bool (isS l)]:=by
 rw[ZCL]
 cases l with
 |nil=>rw[Z82];rfl
 |cons a v=>exact ZEG (a::v) hl v [] a rfl
def Z9A (r:Rw) (l:List Rw):Bool:=match l.getLast? with
 |none=>false
 |some x=>decide (Rw.lt r x)
theorem ZAj (r:Rw):Z9A r []=false:=rfl
theorem Z9c (r:Rw) (u:List Rw) (x:Rw):Z9A r (u++[x])=decide (Rw.lt r x):=by simp[Z9A]
theorem ZDj (l:List Rw):l=[]∨∃u x,l=u++[x]:=by
 cases l.eq_nil_or_concat with
 |inl h=>exact .inl h
 |inr h=>obtain⟨u,x,h⟩:=h;exact .inr ⟨u,x,by simpa using h⟩
theorem ZH5 (r:Rw) (l:List Rw) (hl:l.length<4611686018427387904):callI tE Z9l [.int r.k,.int r.v,.int r.w,.sl (l.map Rw.e)]=some [.bool (Z9A r l)]:=by
 rw[ZE8]
 rcases ZDj l with rfl|⟨u,x,rfl⟩
 ·rfl
 ·simp only[List.length_append,List.length_cons,List.length_nil]at hl
  have a1:at' ((u++[x]).map Rw.e) u.length=x.e:=ZCa (u:=u) (v:=[]) (by simp) rfl
  have e1:w64 (lenI ((u++[x]).map Rw.e)-1)=(u.length:Int):=by rw[Z5L,Z5g ⟨by(first|omega|(simp only[List.length_append,List.length_cons,List.length_nil,List.length_map,List.length_take,List.length_drop,List.length_replicate,Z6A]at* <;>omega)),by(first|omega|(simp only[List.length_append,List.length_cons,List.length_nil,List.length_map,List.length_take,List.length_drop,List.length_replicate,Z6A]at* <;>omega))⟩];simp
  rw[show ltI 0 (lenI ((u++[x]).map Rw.e))=true by rw[Z5L];exact ltT (by(first|omega|(simp only[List.length_append,List.length_cons,List.length_nil,List.length_map,List.length_take,List.length_drop,List.length_replicate,Z6A]at* <;>omega))),e1,ZAY (by simp)]
  simp only[cond_true,Z84,a1,gk,gv,gw,ZAi,gA,Z9Y,Z9c]
def ZAT (r:List Rw):Bool:=decide (0<r.length)&&(isS r&&aok r)
def Z9d (l:List (List Rw)):Prop:=szL List.length l≤1073741824
theorem ZFY (l:List (List Rw)) (h:Z9d l):callI tE Z7L [.sl (l.map rsE)]=some [.bool (l.all ZAT)]:=by
 have hl:=Z7W List.length l
 unfold Z9d at h
 rw[ZB1]
 have:=ZAg (l:=l) (L:=Z74 (l.map rsE) (lenI (l.map rsE))) (p:=ZAT) (no:=some [.bool false]) (yes:=some [.bool true]) (by omega) (fun u a v e=>by
  have ha:a.length≤1073741824:=Nat.le_trans (Z8h (by rw[e];simp)) h
  subst e
  rw[Z8O]
  simp only[ZDD,ZDz,Z84,ZDC,cond_true,rsE,gA,ZEF a (show a.length<4611686018427387904 by omega),ZAX]
  rw[Z5L Rw.e a]
  unfold ZAT
  by_cases h0:a.length=0
  ·rw[eqT (by omega),h0];rfl
  ·rw[eqF (by omega),decide_eq_true (show 0<a.length by omega)]
   cases isS a
   ·rfl
   ·cases aok a<;>rfl) (by rw[Z8O,ZDE,cond_false])
 exact this.trans (ZFm _)
theorem ZFZ (l:List (List Rw)) (h:Z9d l):callI tE Z7K [.sl (l.map rsE)]=some [.bool (l.all ZAT)]:=by
 have hl:=Z7W List.length l
 unfold Z9d at h
 rw[ZAz]
 have:=ZAg (l:=l) (L:=Z73 (l.map rsE)) (p:=ZAT) (no:=some [.bool false]) (yes:=some [.bool true]) (by omega) (fun u a v e=>by
  have ha:a.length≤1073741824:=Nat.le_trans (Z8h (by rw[e];simp)) h
  subst e
  rw[Z8N]
  simp only[ZDD,ZDz,Z84,ZDC,cond_true,rsE,gA,ZEH a (show a.length<4611686018427387904 by omega),ZA6 a (show a.length<4611686018427387904 by omega)]
  rw[Z5L Rw.e a]
  unfold ZAT
  by_cases h0:a.length=0
  ·rw[eqT (by omega),h0];rfl
  ·rw[eqF (by omega),decide_eq_true (show 0<a.length by omega)]
   cases isS a
   ·rfl
   ·cases aok a<;>rfl) (by rw[Z8N,ZDE,cond_false])
 exact this.trans (ZFm _)
theorem ZDk (m:List (List Rw)):m.flatten.length≤szL List.length m:=by
 induction m with
 |nil=>simp
 |cons a m ih=>simp only[List.flatten_cons,List.length_append,szL];omega
theorem ZGk (l:List (List Rw)) (h:Z9d l):callI tE Z7Z [.sl (l.map rsE)]=some [.sl (l.flatten.map Rw.e)]:=by
 have hl:=Z7W List.length l
 unfold Z9d at h
 rw[ZBF]
 have:=Z72 (l:=l) (L:=fun(s:List Rw) i=>Z64 (l.map rsE) (lenI (l.map rsE)) i (s.map Rw.e)) (F:=fun _ _=>some [.sl (l.flatten.map Rw.e)]) (I:=fun s u _=>s=u.flatten) (by omega) (fun u a v s e hI=>by
  have h1:=ZDk (u++[a])
  have h2:szL List.length (u++[a])≤szL List.length l:=by have:=ZCV List.length (u++[a]) v;rw[e,show u++a::v=(u++[a])++v by simp,this];omega
  refine .inl ⟨(u++[a]).flatten,?_,rfl,rfl⟩
  show Z64 _ _ _ _=Z64 _ _ _ _
  subst e
  rw[Z8c,hI]
  simp only[ZDD,ZDz,Z84,ZDC,cond_true,rsE,gA,Z5l,Z9s]
  have h3:(u++[a]).flatten.length=u.flatten.length+a.length:=by rw[List.flatten_append,List.length_append];simp
  rw[show fitM (u.flatten.length+a.length) 24=true from Z9C (by omega)]
  simp) (fun s hs=>by
  show Z64 _ _ _ _=_
  rw[Z8c,ZDE,cond_false,hs]) [] rfl
 exact this
theorem ZGl (l:List (List Rw)) (h:Z9d l):callI tE Z6Y [.sl (l.map rsE)]=some [.sl (l.flatten.map Rw.e)]:=by
 have hl:=Z7W List.length l
 unfold Z9d at h
 rw[ZBD]
 have:=Z72 (l:=l) (L:=fun(s:List Rw) i=>Z63 (l.map rsE) i (s.map Rw.e)) (F:=fun _ _=>some [.sl (l.flatten.map Rw.e)]) (I:=fun s u _=>s=u.flatten) (by omega) (fun u a v s e hI=>by
  have h1:=ZDk (u++[a])
  have h2:szL List.length (u++[a])≤szL List.length l:=by have:=ZCV List.length (u++[a]) v;rw[e,show u++a::v=(u++[a])++v by simp,this];omega
  refine .inl ⟨(u++[a]).flatten,?_,rfl,rfl⟩
  show Z63 _ _ _=Z63 _ _ _
  subst e
  rw[Z8b,hI]
  simp only[ZDD,ZDz,Z84,ZDC,cond_true,rsE,gA,Z5l,Z9s]
  have h3:(u++[a]).flatten.length=u.flatten.length+a.length:=by rw[List.flatten_append,List.length_append];simp
  rw[show fitM (u.flatten.length+a.length) 24=true from Z9C (by omega)]
  simp) (fun s hs=>by
  show Z63 _ _ _=_
  rw[Z8b,ZDE,cond_false,hs]) [] rfl
 exact this
def ZHR:Nat→List Rw→List Rw→List Rw
 |0,_,_=>[]
 |_+1,[],b=>b
 |_+1,a,[]=>a
 |n+1,x::a,y::b=>if Rw.le x y then x::ZHR n a (y::b)else y::ZHR n (x::a) b
def mrg (a b:List Rw):List Rw:=ZHR (a.length+b.length) a b
theorem ZAQ:∀(n m:Nat) (a b:List Rw),a.length+b.length≤n→a.length+b.length≤m→ZHR n a b=ZHR m a b
 |0,0,_,_,_,_=>rfl
 |0,m+1,a,b,h,_=>by
  have h1:a=[]:=List.length_eq_zero_iff.mp (by omega)
  have h2:b=[]:=List.length_eq_zero_iff.mp (by omega)
  subst h1;subst h2;rfl
 |n+1,0,a,b,_,h=>by
  have h1:a=[]:=List.length_eq_zero_iff.mp (by omega)
  have h2:b=[]:=List.length_eq_zero_iff.mp (by omega)
  subst h1;subst h2;rfl
 |n+1,m+1,[],b,_,_=>rfl
 |n+1,m+1,x::a,[],_,_=>rfl
 |n+1,m+1,x::a,y::b,h,h2=>by
  simp only[List.length_cons]at h h2
  simp only[ZHR]
  rw[ZAQ n m a (y::b) (by simp;omega) (by simp;omega),ZAQ n m (x::a) b (by simp;omega) (by simp;omega)]
theorem Z8x (b:List Rw):mrg [] b=b:=by
 cases b<;>rfl
theorem Z9U (a:List Rw):mrg a []=a:=by
 cases a<;>rfl
theorem ZCn (x y:Rw) (a b:List Rw):mrg (x::a) (y::b)=if Rw.le x y then x::mrg a (y::b)else y::mrg (x::a) b:=by
 unfold mrg
 rw[show(x::a).length+(y::b).length=(a.length+b.length+1)+1 by simp;omega]
 simp only[ZHR]
 rw[ZAQ _ (a.length+(y::b).length) a (y::b) (by simp;omega) (by simp),ZAQ _ ((x::a).length+b.length) (x::a) b (by simp;omega) (by simp)]
theorem ZEh:∀(n:Nat) (a b:List Rw),a.length+b.length=n→(mrg a b).length=n
 |_,[],b,h=>by rw[Z8x];simpa using h
 |_,x::a,[],h=>by rw[Z9U];simpa using h
 |0,x::a,y::b,h=>by simp at h
 |n+1,x::a,y::b,h=>by
  simp only[List.length_cons]at h
  rw[ZCn]
  split
  ·rw[List.length_cons,ZEh n a (y::b) (by simp;omega)]
  ·rw[List.length_cons,ZEh n (x::a) b (by simp;omega)]
theorem Z8P (a b:List Rw):(mrg a b).length=a.length+b.length:=ZEh _ a b rfl
theorem ZBo (r:Rw) (p:List Rw):ltI 0 (lenI ((r::p).map Rw.e))=true:=by rw[Z5L];exact ltT (by(first|omega|(simp only[List.length_append,List.length_cons,List.length_nil,List.length_map,List.length_take,List.length_drop,List.length_replicate,Z6A]at* <;>omega)))
theorem ZAb:∀(n:Nat) (a b acc:List Rw),a.length+b.length=n→acc.length+n≤2147483648→Z5b (a.map Rw.e) (b.map Rw.e) (acc.map Rw.e)=some [.sl ((acc++mrg a b).map Rw.e)]
 |0,a,b,acc,h,_=>by
  have h1:a=[]:=List.length_eq_zero_iff.mp (by omega)
  have h2:b=[]:=List.length_eq_zero_iff.mp (by omega)
  subst h1;subst h2
  rw[Z6g]
  rw[Z8x,List.append_nil];rfl
 |n+1,[],y::b,acc,h,hl=>by
  have ih:=ZAb n [] b (acc++[y]) (by simp at h⊢;omega) (by simp;omega)
  have f1:fitM (Nat.succ (len (acc.map Rw.e))) 24=true:=by rw[Z5l];exact Z9C (by omega)
  have a1:([[Dat.int y.k,.int y.v,.int y.w]]:Rows)=[y.e]:=rfl
  have z1:lenI (([]:List Rw).map Rw.e)=0:=rfl
  have le01:leI 0 1=true:=rfl
  rw[Z6g,z1,ltF (show(0:Int)≤0 by omega)]
  simp only[cond_false,cond_true,ZBo,ZHo,ZHn,ZBn,gk,gv,gw,f1,ZIW,le01,Bool.and_self,ZDg,a1,ZBe]
  rw[ih,Z8x,Z8x]
  simp
 |n+1,x::a,[],acc,h,hl=>by
  have ih:=ZAb n a [] (acc++[x]) (by simp at h⊢;omega) (by simp;omega)
  have f1:fitM (Nat.succ (len (acc.map Rw.e))) 24=true:=by rw[Z5l];exact Z9C (by omega)
  have a1:([[Dat.int x.k,.int x.v,.int x.w]]:Rows)=[x.e]:=rfl
  have z1:lenI (([]:List Rw).map Rw.e)=0:=rfl
  have le01:leI 0 1=true:=rfl
  rw[Z6g,z1,eqT (show(0:Int)=0 by omega)]
  simp only[cond_false,cond_true,ZBo,ZHo,ZHn,ZBn,gk,gv,gw,f1,ZIW,le01,Bool.and_self,ZDg,a1,ZBe]
  rw[ih,Z9U,Z9U]
  simp
 |n+1,x::a,y::b,acc,h,hl=>by
  have f1:fitM (Nat.succ (len (acc.map Rw.e))) 24=true:=by rw[Z5l];exact Z9C (by omega)
  have a1:([[Dat.int x.k,.int x.v,.int x.w]]:Rows)=[x.e]:=rfl
  have a2:([[Dat.int y.k,.int y.v,.int y.w]]:Rows)=[y.e]:=rfl
  have le01:leI 0 1=true:=rfl
  rw[Z6g]
  simp only[cond_false,cond_true,ZBo,ZHo,ZHn,ZBn,gk,gv,gw,f1,ZIW,le01,Bool.and_self,ZDg,a1,a2,ZBe,ZAi,gA,ZDa]
  rw[ZCn]
  by_cases hxy:Rw.le x y
  ·rw[decide_eq_true hxy,if_pos hxy,cond_true,ZAb n a (y::b) (acc++[x]) (by simp at h⊢;omega) (by simp;omega)]
   simp
  ·rw[decide_eq_false hxy,if_neg hxy,cond_false,ZAb n (x::a) b (acc++[y]) (by simp at h⊢;omega) (by simp;omega)]
   simp
theorem ZId (a b:List Rw) (h:a.length+b.length≤2147483648):callI tE Z6r [.sl (a.map Rw.e),.sl (b.map Rw.e)]=some [.sl ((mrg a b).map Rw.e)]:=by
 rw[ZBG]
 have:=ZAb _ a b [] rfl (by simpa using h)
 simpa using this
theorem ZAc (A B:List Rw) (hA:A.length+B.length≤2147483648):∀(n:Nat) (a b ua ub acc:List Rw),A=ua++a→B=ub++b→a.length+b.length=n→acc.length+n≤2147483648→
  Z5a (A.map Rw.e) (B.map Rw.e) (ua.length:Nat) (ub.length:Nat) (acc.map Rw.e)=some [.sl ((acc++mrg a b).map Rw.e)]
 |0,a,b,ua,ub,acc,ha,hb,h,_=>by
  have h1:a=[]:=List.length_eq_zero_iff.mp (by omega)
  have h2:b=[]:=List.length_eq_zero_iff.mp (by omega)
  subst h1;subst h2
  rw[List.append_nil]at ha hb
  rw[Z6f,Z5L,Z5L,ltF (by rw[ha];omega),ltF (by rw[hb];omega),Z8x,List.append_nil];rfl
 |n+1,[],y::b,ua,ub,acc,ha,hb,h,hl=>by
  rw[List.append_nil]at ha
  have hBl:B.length=ub.length+(b.length+1):=by rw[hb];simp
  have ih:=ZAc A B hA n [] b ua (ub++[y]) (acc++[y]) (by simpa using ha) (by rw[hb];simp) (by simp at h⊢;omega) (by simp;omega)
  rw[List.length_append,List.length_singleton]at ih
  have f1:fitM (Nat.succ (len (acc.map Rw.e))) 24=true:=by rw[Z5l];exact Z9C (by omega)
  have a1:([[Dat.int y.k,.int y.v,.int y.w]]:Rows)=[y.e]:=rfl
  have b1:at' (B.map Rw.e) ub.length=y.e:=ZCa hb rfl
  have b2:inR (ub.length:Int) (lenI (B.map Rw.e))=true:=ZAY (by omega)
  rw[Z6f,b2]
  simp only[Z5L,Z84,b1,gk,gv,gw,a1,ZBe,f1]
  rw[ltF (show(A.length:Int)≤(ua.length:Int)by rw[ha];omega),ltT (show(ub.length:Int)<(B.length:Int)by omega),eqF (show(ub.length:Int)≠(B.length:Int)by omega),Z7k (show ub.length<9223372036854775807 by omega)]
  simp only[cond_true,cond_false]
  rw[ih,Z8x,Z8x]
  simp
 |n+1,x::a,[],ua,ub,acc,ha,hb,h,hl=>by
  rw[List.append_nil]at hb
  have hAl:A.length=ua.length+(a.length+1):=by rw[ha];simp
  have ih:=ZAc A B hA n a [] (ua++[x]) ub (acc++[x]) (by rw[ha];simp) (by simpa using hb) (by simp at h⊢;omega) (by simp;omega)
  rw[List.length_append,List.length_singleton]at ih
  have f1:fitM (Nat.succ (len (acc.map Rw.e))) 24=true:=by rw[Z5l];exact Z9C (by omega)
  have a1:([[Dat.int x.k,.int x.v,.int x.w]]:Rows)=[x.e]:=rfl
  have b1:at' (A.map Rw.e) ua.length=x.e:=ZCa ha rfl
  have b2:inR (ua.length:Int) (lenI (A.map Rw.e))=true:=ZAY (by omega)
  rw[Z6f,b2]
  simp only[Z5L,Z84,b1,gk,gv,gw,a1,ZBe,f1]
  rw[ltT (show(ua.length:Int)<(A.length:Int)by omega),eqT (show(ub.length:Int)=(B.length:Int)by rw[hb]),Z7k (show ua.length<9223372036854775807 by omega)]
  simp only[cond_true,cond_false]
  rw[ih,Z9U,Z9U]
  simp
 |n+1,x::a,y::b,ua,ub,acc,ha,hb,h,hl=>by
  have hAl:A.length=ua.length+(a.length+1):=by rw[ha];simp
  have hBl:B.length=ub.length+(b.length+1):=by rw[hb];simp
  have f1:fitM (Nat.succ (len (acc.map Rw.e))) 24=true:=by rw[Z5l];exact Z9C (by omega)
  have a1:([[Dat.int x.k,.int x.v,.int x.w]]:Rows)=[x.e]:=rfl
  have a2:([[Dat.int y.k,.int y.v,.int y.w]]:Rows)=[y.e]:=rfl
  have b1:at' (A.map Rw.e) ua.length=x.e:=ZCa ha rfl
  have b2:inR (ua.length:Int) (lenI (A.map Rw.e))=true:=ZAY (by omega)
  have b3:at' (B.map Rw.e) ub.length=y.e:=ZCa hb rfl
  have b4:inR (ub.length:Int) (lenI (B.map Rw.e))=true:=ZAY (by omega)
  rw[Z6f,b2,b4]
  simp only[Z5L,Z84,b1,b3,gk,gv,gw,a1,a2,ZBe,f1,ZAL,gA,ZDa]
  rw[ltT (show(ua.length:Int)<(A.length:Int)by omega),eqF (show(ub.length:Int)≠(B.length:Int)by omega),Z7k (show ua.length<9223372036854775807 by omega),Z7k (show ub.length<9223372036854775807 by omega)]
  simp only[cond_true,cond_false]
  rw[ZCn]
  by_cases hxy:Rw.le x y
  ·have ih:=ZAc A B hA n a (y::b) (ua++[x]) ub (acc++[x]) (by rw[ha];simp) hb (by simp at h⊢;omega) (by simp;omega)
   rw[List.length_append,List.length_singleton]at ih
   rw[decide_eq_true hxy,if_pos hxy,cond_true,ih]
   simp
  ·have ih:=ZAc A B hA n (x::a) b ua (ub++[y]) (acc++[y]) ha (by rw[hb];simp) (by simp at h⊢;omega) (by simp;omega)
   rw[List.length_append,List.length_singleton]at ih
   rw[decide_eq_false hxy,if_neg hxy,cond_false,ih]
   simp
theorem ZIe (a b:List Rw) (h:a.length+b.length≤2147483648):callI tE Z6q [.sl (a.map Rw.e),.sl (b.map Rw.e)]=some [.sl ((mrg a b).map Rw.e)]:=by
 rw[ZBE]
 have:=ZAc a b h _ a b [] [] [] rfl rfl rfl (by simpa using h)
 simpa using this
def ZD8 (a b:List Rw):Bool:=decide (ZAO a=ZAO b)
theorem ZAd {a b:List Rw}:ZD8 a b=true↔a.Perm b:=by
 simp only[ZD8,decide_eq_true_eq]
 constructor
 ·intro h
  exact(Z7T a).symm.trans (h▸Z7T b)
 ·intro h
  exact Z7y ((Z7T a).trans (h.trans (Z7T b).symm)) (ZAC a) (ZAC b)
theorem ZEI {a b:List Rw} (h:¬a.length=b.length):ZD8 a b=false:=by
 rw[←Bool.not_eq_true,ZAd]
 exact fun hh=>h hh.length_eq
theorem ZI3 (a b:List Rw) (ha:a.length≤1099511627770) (hb:b.length≤1099511627770):callI tE Z7R [.sl (a.map Rw.e),.sl (b.map Rw.e)]=some [.bool (ZD8 a b)]:=by
 rw[ZC5]
 by_cases h:a.length=b.length
 ·rw[ZDF h,cond_true]
  simp only[ZHL a ha,ZHL b hb,gA]
  rw[ZEz _ _ (by rw[Z8A];omega)]
  rfl
 ·rw[ZDG h,cond_false,ZEI h]
theorem ZI4 (a b:List Rw) (ha:a.length≤1099511627770) (hb:b.length≤1099511627770):callI tE Z6a [.sl (a.map Rw.e),.sl (b.map Rw.e)]=some [.bool (ZD8 a b)]:=by
 rw[ZC3]
 simp only[ZHM a ha,ZHM b hb,gA]
 by_cases h:a.length=b.length
 ·rw[ZDF (by rw[Z8A,Z8A,h]),Bool.not_true,cond_false]
  have:=ZBd (L:=fun x y i=>Z7c i x y) (e:=Rw.e) (P:=fun _=>True) (fun p q p' q' a b _ hpl hlt=>by
   rw[Z96]
   simp only[ZCT,ZBw,Z84,ZBB,cond_true,cond_false,gA,ZAv hpl,ZCW hpl,Rw.e,ZFr,ZGx]) (fun p p' hpl=>by
   rw[Z96,ZCU,cond_false]) (ZAO a) (ZAO b) [] [] rfl (by rw[Z8A,Z8A,h]) (fun a ha=>trivial) (by simp[Z8A];omega)
  simpa[ZD8]using this
 ·rw[ZDG (by rw[Z8A,Z8A];exact h),Bool.not_false,cond_true,ZEI h]
def rc (l:List (List Rw)) (n:Nat) (p:Int):Nat:=match l[n]? with
 |none=>0
 |some r=>if p<0 then 0 else match r[p.toNat]? with
  |none=>0
  |some x=>x.cost
theorem ZGm (l:List (List Rw)) (n:Nat) (p:Int):rc l n p≤4:=by
 unfold rc
 split
 ·omega
 ·split
  ·omega
  ·split
   ·omega
   ·exact ZAJ _
def ZBp (s:So):Nat:=if s.ph=1 then Z86 s.heap+Z86 s.dfd else if s.ph=2 then(if s.lp<0∨s.rp<0 then 0 else rc s.runs 0 s.lp+rc s.runs 1 s.rp)else if s.ph=3 then rc s.runs 0 s.lp else 0
def So.B (s:So):Prop:=s.sz≤1073741824
theorem So.B.p {s:So} (h:s.B):s.inp.length≤1073741824∧s.heap.length≤1073741824∧s.dfd.length≤1073741824∧s.out.length≤1073741824∧Z9d s.runs:=by
 simp only[So.B,So.sz]at h
 unfold Z9d
 omega
theorem ZF9 (s:So) (n:Nat) (p:Int) (h:s.B):callI tE Z87 [.sl (s.inp.map Rw.e),.int s.pos,.sl (s.heap.map Rw.e),.sl (s.dfd.map Rw.e),.sl (s.out.map Rw.e),.sl (s.runs.map rsE),.int s.lp,.int s.rp,.int s.ph,.int s.wr,.int (n:Int),.int p]=some [.int (rc s.runs n p:Nat)]:=by
 have hl:=Z7W List.length s.runs
 have hb:=h.p.2.2.2.2
 unfold Z9d at hb
 rw[ZD4,Z5L]
 unfold rc
 by_cases hn:n<s.runs.length
 ·obtain⟨u,a,v,hr,rfl⟩:=ZCI hn
  have ha:a.length≤1073741824:=Nat.le_trans (Z8h (by rw[hr];simp)) hb
  have e1:s.runs[u.length]?=some a:=by rw[hr];simp
  have e2:at' (s.runs.map rsE) u.length=rsE a:=ZCa hr rfl
  rw[leF (by omega),cond_false,e1]
  simp only[Z84,e2,rsE,gA,Z5L]
  by_cases hp:p<0
  ·rw[ltT hp,cond_true,if_pos hp];rfl
  ·rw[ltF (by omega),cond_false,if_neg hp,ZDZ (by omega) (by omega),cond_true]
   by_cases hpa:p.toNat<a.length
   ·obtain⟨u2,x,v2,hx,hu2⟩:=ZCI hpa
    have e3:a[p.toNat]?=some x:=by rw[hx,←hu2];simp
    have e4:at' (a.map Rw.e) (tn p)=x.e:=ZCa hx hu2
    rw[leF (by omega),cond_false,e3,ZDZ (by omega) (by omega),cond_true,cond_true]
    simp only[e4,gk,gv,gw,ZAK,gA]
   ·rw[leT (by omega),cond_true,List.getElem?_eq_none (by omega)];rfl
 ·rw[leT (by omega),cond_true,List.getElem?_eq_none (by omega)];rfl
theorem ZEJ (l:List (List Rw)) (n:Nat) (p:Int) (h:Z9d l) (hp:0≤p):∃q:List Rw,callI tE Z6F [.sl (l.map rsE),.int (n:Int),.int p]=some [.sl (q.map Rw.e)]∧Z86 q=rc l n p∧q.length≤1∧q=(match l[n]? with
  |none=>[]
  |some r=>(match r[p.toNat]? with
   |none=>[]
   |some x=>[x])):=by
 have hl:=Z7W List.length l
 unfold Z9d at h
 rw[ZDb,Z5L]
 unfold rc
 by_cases hn:n<l.length
 ·obtain⟨u,a,v,hr,rfl⟩:=ZCI hn
  have ha:a.length≤1073741824:=Nat.le_trans (Z8h (by rw[hr];simp)) h
  have e1:l[u.length]?=some a:=by rw[hr];simp
  have e2:at' (l.map rsE) u.length=rsE a:=ZCa hr rfl
  rw[ltT (by omega),cond_true,ZDZ (by omega) (by omega),e1]
  simp only[Z84,e2,rsE,gA,Z5L,cond_true]
  rw[if_neg (by omega)]
  by_cases hpa:p.toNat<a.length
  ·obtain⟨u2,x,v2,hx,hu2⟩:=ZCI hpa
   have e3:a[p.toNat]?=some x:=by rw[hx,←hu2];simp
   have e4:at' (a.map Rw.e) (tn p)=x.e:=ZCa hx hu2
   rw[ltT (by omega),cond_true,e3,ZDZ (by omega) (by omega),cond_true]
   exact⟨[x],by simp only[e4,gk,gv,gw];rfl,by simp[Z86],by simp,rfl⟩
  ·rw[ltF (by omega),cond_false,List.getElem?_eq_none (by omega)]
   exact⟨[],rfl,rfl,by simp,rfl⟩
 ·rw[ltF (by omega),cond_false,List.getElem?_eq_none (by omega)]
  exact⟨[],rfl,rfl,by simp,rfl⟩
theorem ZIf (s:So) (h:s.B):callI tE Z6j [.sl (s.inp.map Rw.e),.int s.pos,.sl (s.heap.map Rw.e),.sl (s.dfd.map Rw.e),.sl (s.out.map Rw.e),.sl (s.runs.map rsE),.int s.lp,.int s.rp,.int s.ph,.int s.wr]=some [.int (ZBp s:Nat)]:=by
 obtain⟨h1,h2,h3,h4,h5⟩:=h.p
 have r0:=ZF9 s 0 s.lp h
 have r1:=ZF9 s 1 s.rp h
 have e0:((0:Nat):Int)=0:=rfl
 have e1:((1:Nat):Int)=1:=rfl
 rw[e0]at r0
 rw[e1]at r1
 have t1:=ZBC s.heap
 have t2:=ZBC s.dfd
 have q1:=ZGm s.runs 0 s.lp
 have q2:=ZGm s.runs 1 s.rp
 rw[ZB0]
 simp only[ZDH s.heap (by omega),ZDH s.dfd (by omega),r0,r1,gA]
 unfold ZBp
 by_cases p1:s.ph=1
 ·rw[eqT p1,cond_true,if_pos p1,Z5g ⟨by omega,by omega⟩]
  simp
 ·rw[eqF p1,cond_false,if_neg p1]
  by_cases p2:s.ph=2
  ·rw[eqT p2,cond_true,if_pos p2]
   by_cases p3:s.lp<0
   ·rw[ltT p3,if_pos (.inl p3)];rfl
   ·rw[ltF (by omega),cond_false]
    by_cases p4:s.rp<0
    ·rw[ltT p4,if_pos (.inr p4)];rfl
    ·rw[ltF (by omega),cond_false,if_neg (by omega),Z5g ⟨by omega,by omega⟩]
     simp
  ·rw[eqF p2,cond_false,if_neg p2]
   by_cases p3:s.ph=3
   ·rw[eqT p3,cond_true,if_pos p3]
   ·rw[eqF p3,cond_false,if_neg p3];rfl
theorem ZIg (s:So) (h:s.B):callI tE Z6i [.sl (s.inp.map Rw.e),.int s.pos,.sl (s.heap.map Rw.e),.sl (s.dfd.map Rw.e),.sl (s.out.map Rw.e),.sl (s.runs.map rsE),.int s.lp,.int s.rp,.int s.ph,.int s.wr]=some [.int (ZBp s:Nat)]:=by
 obtain⟨h1,h2,h3,h4,h5⟩:=h.p
 have t1:=ZBC s.heap
 have t2:=ZBC s.dfd
 have q1:=ZGm s.runs 0 s.lp
 have q2:=ZGm s.runs 1 s.rp
 rw[ZAy]
 simp only[ZA9 s.heap (by omega),ZA9 s.dfd (by omega),gA]
 unfold ZBp
 by_cases p1:s.ph=1
 ·rw[eqT p1,cond_true,if_pos p1,Z5g ⟨by omega,by omega⟩]
  simp
 ·rw[eqF p1,cond_false,if_neg p1]
  by_cases p2:s.ph=2
  ·rw[eqT p2,cond_true,if_pos p2]
   by_cases p3:s.lp<0
   ·rw[ltT p3,if_pos (.inl p3)];rfl
   ·rw[ltF (by omega),cond_false]
    by_cases p4:s.rp<0
    ·rw[ltT p4,if_pos (.inr p4)];rfl
    ·obtain⟨a,a1,a2,a3,_⟩:=ZEJ s.runs 0 s.lp h5 (by omega)
     obtain⟨b,b1,b2,b3,_⟩:=ZEJ s.runs 1 s.rp h5 (by omega)
     rw[show((0:Nat):Int)=0 from rfl]at a1
     rw[show((1:Nat):Int)=1 from rfl]at b1
     rw[ltF (by omega),cond_false,if_neg (by omega)]
     simp only[a1,b1,gA,ZA9 a (by omega),ZA9 b (by omega),a2,b2]
     rw[Z5g ⟨by omega,by omega⟩]
     simp
  ·rw[eqF p2,cond_false,if_neg p2]
   by_cases p3:s.ph=3
   ·rw[eqT p3,cond_true,if_pos p3]
    by_cases p4:s.lp<0
    ·rw[ltT p4,cond_true]
     unfold rc
     cases s.runs[0]?<;>simp[p4]
    ·obtain⟨a,a1,a2,a3,_⟩:=ZEJ s.runs 0 s.lp h5 (by omega)
     rw[show((0:Nat):Int)=0 from rfl]at a1
     rw[ltF (by omega),cond_false]
     simp only[a1,gA,ZA9 a (by omega),a2]
   ·rw[eqF p3,cond_false,if_neg p3];rfl
def ZCo (s:So):Bool:=match s.runs with
 |a::b::_=>win s.lp 0 a.length&&(win s.rp 0 b.length&&(decide (s.out=mrg (a.take s.lp.toNat) (b.take s.rp.toNat))&&decide (s.out=(mrg a b).take (s.lp.toNat+s.rp.toNat))))
 |_=>false
def Z8Q (s:So):Bool:=
 if s.ph=2 then ZCo s
 else if s.ph=3 then decide (s.runs.length=1)&&(decide (0≤s.lp∧s.lp<s.inp.length)&&(decide (s.rp=0)&&decide (s.out=[])))
 else if s.ph=4 then decide (s.runs.length≤1)&&(decide (s.lp=s.inp.length)&&(decide (s.rp=0)&&decide (s.out=[])))
 else false
def Z8r (s:So):Bool:=
 if s.ph=1 then decide (s.lp=0)&&(decide (s.rp=0)&&(decide (s.out≠[]∨s.dfd=[])&&(decide (ZBp s≤60)&&ZD8 (s.runs.flatten++(s.out++(s.heap++s.dfd))) (s.inp.take s.pos.toNat))))
 else decide (s.pos=s.inp.length)&&(decide (s.heap=[])&&(decide (s.dfd=[])&&(ZD8 s.runs.flatten s.inp&&Z8Q s)))
def Z9u (s:So):Bool:=aok s.inp&&(win s.pos 0 s.inp.length&&(s.runs.all ZAT&&(decide (0≤s.wr)&&(isS s.out&&((s.heap.all fun r=> !Z9A r s.out)&&Z8r s)))))
def So.B2 (s:So):Prop:=s.sz≤1073741800
theorem So.B2.b {s:So} (h:s.B2):s.B:=by simp only[So.B2,So.B]at*;omega
theorem ZFA (l:List Rw) (p:Int):List.take (tn (p-0)) (List.drop (tn 0) (l.map Rw.e))=(l.take p.toNat).map Rw.e:=by
 show List.take (p-0).toNat (List.drop 0 (l.map Rw.e))=_
 rw[Int.sub_zero,List.drop_zero,List.map_take]
theorem Z9H {α:Type} (l:List α):decide (l=[])=decide (l.length=0):=by
 cases l<;>simp
theorem ZFB (n:Nat):leI (n:Int) 60=decide (n≤60):=by
 unfold leI;congr 1;apply propext;omega
theorem ZIX (s:So) (h:s.B2) (hp:win s.pos 0 s.inp.length=true) (x0:Int) (x1:Rows) (n:Int):
  Z6N x0 x1 n n (s.inp.map Rw.e) s.pos (s.heap.map Rw.e) (s.dfd.map Rw.e) (s.out.map Rw.e) (s.runs.map rsE) s.lp s.rp s.ph s.wr=some [.bool (Z8r s)]:=by
 obtain⟨h1,h2,h3,h4,h5⟩:=h.b.p
 have hpp:=Z8J.mp hp
 have hfl:=ZDk s.runs
 have hsz:s.inp.length+(s.heap.length+(s.dfd.length+(s.out.length+s.runs.flatten.length)))≤1073741800:=by
  simp only[So.B2,So.sz]at h;omega
 have ht:callI tE Z7B [.sl [[.sl (s.runs.flatten.map Rw.e)],[.sl (s.out.map Rw.e)],[.sl (s.heap.map Rw.e)],[.sl (s.dfd.map Rw.e)]]]=some [.sl ((s.runs.flatten++(s.out++(s.heap++s.dfd))).map Rw.e)]:=by
  have:=ZG0 [s.runs.flatten,s.out,s.heap,s.dfd] (by simp only[szL];omega)
  simpa[rsE]using this
 have hb1:=ZI3 (s.runs.flatten++(s.out++(s.heap++s.dfd))) (s.inp.take s.pos.toNat) (by(first|omega|(simp only[List.length_append,List.length_cons,List.length_nil,List.length_map,List.length_take,List.length_drop,List.length_replicate,Z6A]at* <;>omega))) (by(first|omega|(simp only[List.length_append,List.length_cons,List.length_nil,List.length_map,List.length_take,List.length_drop,List.length_replicate,Z6A]at* <;>omega)))
 have hb2:=ZI3 s.runs.flatten s.inp (by omega) (by omega)
 rw[Z89,ltF (Int.le_refl n),cond_false]
 simp only[ZGk s.runs h5,ZIf s h.b,gA,ht,hb2,ZFA,hb1]
 unfold Z8r
 by_cases p1:s.ph=1
 ·rw[eqT p1,cond_true,if_pos p1]
  by_cases q1:s.lp=0
  ·rw[eqT q1,cond_true,decide_eq_true q1]
   by_cases q2:s.rp=0
   ·rw[eqT q2,cond_true,decide_eq_true q2,leT (show 0≤s.pos by omega),show leI s.pos (lenI (s.inp.map Rw.e))=true by rw[Z5L];exact leT (by omega)]
    simp only[Bool.and_self,cond_true,ZFB,Z5L]
    by_cases q3:0<s.out.length
    ·rw[ltT (by omega),cond_true,decide_eq_true (show s.out≠[]∨s.dfd=[]from .inl (fun e=>by rw[e]at q3;simp at q3))]
     cases decide (ZBp s≤60)<;>rfl
    ·rw[ltF (by omega),cond_false]
     have qo:s.out=[]:=List.length_eq_zero_iff.mp (by omega)
     by_cases q4:s.dfd.length=0
     ·rw[eqT (by omega),cond_true,decide_eq_true (show s.out≠[]∨s.dfd=[]from .inr (List.length_eq_zero_iff.mp q4))]
      cases decide (ZBp s≤60)<;>rfl
     ·rw[eqF (by omega),cond_false,decide_eq_false (show¬(s.out≠[]∨s.dfd=[])from fun e=>e.elim (fun e=>e qo) (fun e=>q4 (by rw[e];rfl)))]
      rfl
   ·rw[eqF q2,decide_eq_false q2];rfl
  ·rw[eqF q1,decide_eq_false q1];rfl
 ·rw[eqF p1,cond_false,if_neg p1]
  simp only[Z5L]
  by_cases q1:s.pos=s.inp.length
  ·rw[eqT q1,Bool.not_true,cond_false,decide_eq_true q1]
   by_cases q2:s.heap.length=0
   ·rw[ltF (by omega),cond_false,Z9H s.heap,decide_eq_true q2]
    by_cases q3:s.dfd.length=0
    ·rw[ltF (by omega),cond_false,Z9H s.dfd,decide_eq_true q3]
     simp only[Bool.true_and]
     cases ZD8 s.runs.flatten s.inp
     ·rfl
     ·simp only[Bool.not_true,cond_false,Bool.true_and]
      unfold Z8Q
      by_cases p2:s.ph=2
      ·rw[eqT p2,cond_true,if_pos p2]
       unfold ZCo
       cases hr:s.runs with
       |nil=>rfl
       |cons a r=>
        cases r with
        |nil=>rfl
        |cons b r=>
         have ha:a.length≤1073741824:=Nat.le_trans (Z8h (by rw[hr];simp)) h5
         have hb:b.length≤1073741824:=Nat.le_trans (Z8h (by rw[hr];simp)) h5
         have g0:at' ((a::b::r).map rsE) (tn 0)=rsE a:=rfl
         have g1:at' ((a::b::r).map rsE) (tn 1)=rsE b:=rfl
         have l0:ltI ((a::b::r).length:Int) 2=false:=ltF (by simp;omega)
         have l1:inR 0 ((a::b::r).length:Int)=true:=ZDZ (by omega) (by simp;omega)
         have l2:inR 1 ((a::b::r).length:Int)=true:=ZDZ (by omega) (by simp;omega)
         simp only[l0,l1,l2,cond_true,cond_false,g0,g1,rsE,gA,Z5L,ZA5]
         by_cases w1:win s.lp 0 a.length=true
         ·by_cases w2:win s.rp 0 b.length=true
          ·have w3:=Z8J.mp w1
           have w4:=Z8J.mp w2
           have m1:=ZId (a.take s.lp.toNat) (b.take s.rp.toNat) (by simp;omega)
           have m2:=ZId a b (by omega)
           have ml:=Z8P a b
           have e1:=ZEz s.out (mrg (a.take s.lp.toNat) (b.take s.rp.toNat)) (by omega)
           have e2:=ZEz s.out ((mrg a b).take (s.lp.toNat+s.rp.toNat)) (by omega)
           have e3:w64 (s.lp+s.rp)=s.lp+s.rp:=Z5g ⟨by omega,by omega⟩
           have e4:(s.lp+s.rp).toNat=s.lp.toNat+s.rp.toNat:=by omega
           rw[w1,w2,leT w3.1,leT w3.2,leT w4.1,leT w4.2]
           simp only[Bool.not_true,cond_false,Bool.and_self,cond_true,ZFA,m1,m2,e1,gA,e3,e4,Z5L,e2]
           rw[leT (by omega),leT (by rw[ml];omega)]
           simp only[Bool.and_self,cond_true,Bool.true_and]
           cases decide (s.out=mrg (a.take s.lp.toNat) (b.take s.rp.toNat))<;>rfl
          ·rw[w1,(Bool.not_eq_true _).mp w2];rfl
         ·rw[(Bool.not_eq_true _).mp w1];rfl
      ·rw[eqF p2,cond_false,if_neg p2]
       by_cases p3:s.ph=3
       ·rw[eqT p3,cond_true,if_pos p3]
        by_cases w1:s.runs.length=1
        ·rw[eqT (by omega),cond_true,decide_eq_true w1]
         simp only[ZA5,ZG5 (show s.inp.length≤1073741824 by omega),gA,Bool.true_and]
         by_cases w2:0≤s.lp∧s.lp<s.inp.length
         ·rw[decide_eq_true w2,cond_true]
          by_cases w3:s.rp=0
          ·rw[eqT w3,cond_true,decide_eq_true w3,Z9H]
           unfold eqI
           simp
          ·rw[eqF w3,decide_eq_false w3];rfl
         ·rw[decide_eq_false w2];rfl
        ·rw[eqF (by omega),decide_eq_false w1];rfl
       ·rw[eqF p3,cond_false,if_neg p3]
        by_cases p4:s.ph=4
        ·rw[eqT p4,cond_true,if_pos p4]
         by_cases w1:s.runs.length≤1
         ·rw[leT (by omega),cond_true,decide_eq_true w1]
          by_cases w2:s.lp=s.inp.length
          ·rw[eqT w2,cond_true,decide_eq_true w2]
           by_cases w3:s.rp=0
           ·rw[eqT w3,cond_true,decide_eq_true w3,Z9H]
            unfold eqI
            simp
           ·rw[eqF w3,decide_eq_false w3];rfl
          ·rw[eqF w2,decide_eq_false w2];rfl
         ·rw[leF (by omega),decide_eq_false w1];rfl
        ·rw[eqF p4,if_neg p4];rfl
    ·rw[ltT (by omega),Z9H s.dfd,decide_eq_false q3];simp
   ·rw[ltT (by omega),Z9H s.heap,decide_eq_false q2];rfl
  ·rw[eqF q1,decide_eq_false q1];rfl
theorem ZCJ (s:So) (h:s.B2):callI tE Z62 [.sl (s.inp.map Rw.e),.int s.pos,.sl (s.heap.map Rw.e),.sl (s.dfd.map Rw.e),.sl (s.out.map Rw.e),.sl (s.runs.map rsE),.int s.lp,.int s.rp,.int s.ph,.int s.wr]=some [.bool (Z9u s)]:=by
 obtain⟨h1,h2,h3,h4,h5⟩:=h.b.p
 rw[ZAl]
 simp only[ZAX,ZA5,Z5L,ZFY s.runs h5,ZEF s.out (by omega),gA]
 unfold Z9u
 cases aok s.inp
 ·rfl
 ·by_cases hp:win s.pos 0 s.inp.length=true
  ·rw[hp]
   cases s.runs.all ZAT
   ·rfl
   ·by_cases hw:0≤s.wr
    ·rw[ltF hw,decide_eq_true hw]
     cases isS s.out
     ·rfl
     ·have:=ZAg (l:=s.heap) (L:=fun i=>Z6N 0 (s.heap.map Rw.e) (s.heap.length:Nat) i (s.inp.map Rw.e) s.pos (s.heap.map Rw.e) (s.dfd.map Rw.e) (s.out.map Rw.e) (s.runs.map rsE) s.lp s.rp s.ph s.wr) (p:=fun r=> !Z9A r s.out) (no:=some [.bool false]) (yes:=some [.bool (Z8r s)]) (by omega) (fun u a v e=>by
       have hu:u.length<s.heap.length:=by rw[e];simp
       have ha:at' (s.heap.map Rw.e) u.length=a.e:=ZCa e rfl
       rw[Z89,ltT (by omega),cond_true,ZAY hu,cond_true]
       simp only[Z84,ha,gk,gv,gw,ZH5 a s.out (by omega),gA]
       cases Z9A a s.out<;>rfl) (ZIX s h hp 0 _ _)
      refine this.trans ?_
      cases s.heap.all fun r=> !Z9A r s.out<;>rfl
    ·rw[ltT (by omega),decide_eq_false hw];rfl
  ·rw[(Bool.not_eq_true _).mp hp];rfl
end Go.Proofs.YtnihikajdbcoaaaGreat.Vai
