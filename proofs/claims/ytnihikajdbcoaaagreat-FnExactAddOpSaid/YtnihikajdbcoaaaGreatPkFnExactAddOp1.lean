/- What the law of this claim leans on; no condition. -/
import Derived.Test.YtnihikajdbcoaaaGreatEnv
import Derived.Test.YtnihikajdbcoaaaGreatVaiD
namespace Go.Proofs.YtnihikajdbcoaaaGreat.Vai
open Go
set_option linter.unusedSimpArgs false
set_option linter.unusedVariables false
set_option linter.unnecessarySimpa false
abbrev Rows:=List (List Dat)
abbrev Z8x:FuncId:=248
abbrev ZBA:FuncId:=109
abbrev Z6P:FuncId:=102
abbrev ZCZ:FuncId:=387
abbrev ZB5:FuncId:=250
abbrev ZBB:FuncId:=111
abbrev ZBu:FuncId:=434
abbrev ZCE:FuncId:=388
abbrev ZAB:FuncId:=251
abbrev ZBC:FuncId:=112
abbrev Z9X:FuncId:=389
abbrev Z7d:FuncId:=252
abbrev Z9I:FuncId:=113
abbrev ZCF:FuncId:=16
abbrev ZBv:FuncId:=432
abbrev ZBD:FuncId:=433
abbrev ZBE:FuncId:=386
abbrev ZCG:FuncId:=249
abbrev ZAC:FuncId:=110
abbrev ZBF:FuncId:=15
abbrev Z8D:FuncId:=63
abbrev Z5l:FuncId:=169
abbrev Z8N:FuncId:=218
abbrev Z61:FuncId:=84
abbrev Z9Y:FuncId:=289
abbrev ZBw:FuncId:=286
abbrev Z6S:FuncId:=290
abbrev Z7e:FuncId:=141
abbrev Z6B:FuncId:=219
abbrev Z9Z:FuncId:=232
abbrev Z8E:FuncId:=370
abbrev Z7f:FuncId:=369
abbrev Z6f:FuncId:=371
abbrev Z6s:FuncId:=88
abbrev Z6j:FuncId:=372
abbrev Z6z:FuncId:=373
abbrev Z7L:FuncId:=230
abbrev Z7v:FuncId:=85
abbrev Z9a:FuncId:=390
abbrev Z7M:FuncId:=254
abbrev Z6g:FuncId:=255
abbrev Z8f:FuncId:=115
abbrev Z8g:FuncId:=256
abbrev Z5w:FuncId:=168
abbrev ZAV:FuncId:=170
abbrev Z7N:FuncId:=39
abbrev ZAD:FuncId:=391
abbrev ZBx:FuncId:=257
abbrev ZBy:FuncId:=392
abbrev ZAE:FuncId:=258
abbrev ZAF:FuncId:=259
abbrev ZBk:FuncId:=117
abbrev ZCH:FuncId:=184
abbrev ZAG:FuncId:=253
abbrev ZAH:FuncId:=114
abbrev ZAo:FuncId:=116
abbrev ZCa:FuncId:=17
abbrev ZBG:FuncId:=393
abbrev Z7m:FuncId:=260
abbrev ZBH:FuncId:=118
abbrev ZAW:FuncId:=242
abbrev Z6J:FuncId:=104
abbrev ZCb:FuncId:=395
abbrev ZB6:FuncId:=262
abbrev ZBI:FuncId:=120
abbrev ZAI:FuncId:=437
abbrev ZCI:FuncId:=396
abbrev ZAJ:FuncId:=263
abbrev ZBJ:FuncId:=121
abbrev Z9b:FuncId:=397
abbrev Z7g:FuncId:=264
abbrev Z9J:FuncId:=122
abbrev Z9K:FuncId:=19
abbrev ZCJ:FuncId:=448
abbrev ZAK:FuncId:=435
abbrev ZBz:FuncId:=449
abbrev Z9c:FuncId:=436
abbrev ZBK:FuncId:=394
abbrev ZCK:FuncId:=261
abbrev ZAL:FuncId:=119
abbrev Z7V:FuncId:=18
abbrev Z8F:FuncId:=62
abbrev Z5f:FuncId:=166
abbrev Z8O:FuncId:=411
abbrev ZAM:FuncId:=301
abbrev Z7n:FuncId:=308
abbrev Z8h:FuncId:=309
abbrev Z7h:FuncId:=145
abbrev Z9d:FuncId:=380
abbrev Z6L:FuncId:=234
abbrev Z9O:FuncId:=236
abbrev ZAX:FuncId:=412
abbrev Z5r:FuncId:=307
abbrev ZCc:FuncId:=302
abbrev Z8G:FuncId:=375
abbrev Z7i:FuncId:=374
abbrev Z7y:FuncId:=376
abbrev Z6T:FuncId:=341
abbrev Z5i:FuncId:=445
abbrev Z5q:FuncId:=464
abbrev Z66:FuncId:=453
abbrev Z5U:FuncId:=446
abbrev Z67:FuncId:=428
abbrev Z6t:FuncId:=381
abbrev Z7W:FuncId:=237
abbrev Z7o:FuncId:=377
abbrev Z7X:FuncId:=378
abbrev Z70:FuncId:=379
abbrev Z7O:FuncId:=233
abbrev Z7w:FuncId:=427
abbrev Z9e:FuncId:=398
abbrev Z7P:FuncId:=266
abbrev Z6h:FuncId:=267
abbrev Z8i:FuncId:=124
abbrev Z7I:FuncId:=328
abbrev Z8H:FuncId:=167
abbrev ZA2:FuncId:=269
abbrev Z8j:FuncId:=268
abbrev Z6u:FuncId:=327
abbrev Z6l:FuncId:=165
abbrev Z7Q:FuncId:=38
abbrev Z8y:FuncId:=399
abbrev Z9f:FuncId:=270
abbrev ZAp:FuncId:=413
abbrev ZA3:FuncId:=400
abbrev Z9g:FuncId:=271
abbrev Z6x:FuncId:=272
abbrev ZAN:FuncId:=126
abbrev Z9h:FuncId:=183
abbrev Z7z:FuncId:=265
abbrev Z80:FuncId:=123
abbrev ZAq:FuncId:=125
abbrev ZBl:FuncId:=20
abbrev ZBL:FuncId:=401
abbrev Z7p:FuncId:=273
abbrev ZBM:FuncId:=127
abbrev ZAY:FuncId:=247
abbrev Z6K:FuncId:=107
abbrev ZCd:FuncId:=402
abbrev ZB7:FuncId:=275
abbrev ZBN:FuncId:=129
abbrev ZAO:FuncId:=438
abbrev ZCL:FuncId:=403
abbrev ZAP:FuncId:=276
abbrev ZBO:FuncId:=130
abbrev Z9i:FuncId:=404
abbrev Z7j:FuncId:=277
abbrev Z9L:FuncId:=131
abbrev ZCM:FuncId:=22
abbrev ZCN:FuncId:=319
abbrev ZAQ:FuncId:=148
abbrev ZC0:FuncId:=320
abbrev Z9j:FuncId:=149
abbrev ZBP:FuncId:=28
abbrev ZCO:FuncId:=274
abbrev ZAR:FuncId:=128
abbrev Z7Y:FuncId:=21
abbrev Z71:FuncId:=278
abbrev ZA4:FuncId:=132
abbrev Z5m:FuncId:=150
abbrev Z8z:FuncId:=151
abbrev Z8P:FuncId:=152
abbrev Z8I:FuncId:=279
abbrev Z90:FuncId:=405
abbrev Z7q:FuncId:=280
abbrev Z6c:FuncId:=281
abbrev Z91:FuncId:=133
abbrev Z7Z:FuncId:=23
abbrev ZA5:FuncId:=134
abbrev ZA6:FuncId:=135
abbrev Z8J:FuncId:=136
abbrev ZB8:FuncId:=24
abbrev Z72:FuncId:=282
abbrev ZA7:FuncId:=137
abbrev Z5t:FuncId:=156
abbrev Z92:FuncId:=157
abbrev Z8Q:FuncId:=158
abbrev Z9k:FuncId:=283
abbrev Z93:FuncId:=406
abbrev Z94:FuncId:=284
abbrev Z73:FuncId:=285
abbrev Z95:FuncId:=138
abbrev Z7a:FuncId:=25
abbrev Z9M:FuncId:=3
abbrev ZC4:FuncId:=329
set_option maxRecDepth 100000
noncomputable def Z5g (x0 x1 x2:Int) (x3:Rows):Option (List Dat):=loopK tE Z5i 0 ⟨[(0,(.own (1000000,0))),(1,(.i .i64 x0)),(2,(.i .i64 x1)),(3,(.fn 307 [])),(8,(.i .i64 x2))],[((1000000,0),(.row 224 x3 Bool.true 0 []))]⟩
noncomputable def Z5h (x0 x1 x2 x3:Int) (x4:Rows):Option (List Dat):=loopK tE Z5i 1 ⟨[(0,(.own (1000000,0))),(1,(.i .i64 x0)),(2,(.i .i64 x1)),(3,(.fn 307 [])),(8,(.i .i64 x2)),(9,(.i .i64 x3))],[((1000000,0),(.row 224 x4 Bool.true 0 []))]⟩
theorem Z64 (x0 x1 x2:Int) (x3:Rows):Z5g x0 x1 x2 x3=(bif(ltI x2 x1)then(Z5h x0 x1 x2 x2 x3)else(some [(.sl x3)])):=(loopK_run (by kernel_rfl)).trans (by kernel_rfl)
theorem Z65 (x0 x1 x2 x3:Int) (x4:Rows):Z5h x0 x1 x2 x3 x4=(bif(ltI x0 x3)then(bif(inR x3 (lenI x4))then(bif(inR (w64 (x3-1)) (lenI x4))then(((callI tE Z5r [(.int (gn (at' x4 (tn x3)))),(.int (gn (tk 1 (at' x4 (tn x3))))),(.int (gn (tk 2 (at' x4 (tn x3))))),(.int (gn (at' x4 (tn (w64 (x3-1)))))),(.int (gn (tk 1 (at' x4 (tn (w64 (x3-1))))))),(.int (gn (tk 2 (at' x4 (tn (w64 (x3-1)))))))])).bind (fun r0=>(bif(ltI (gn r0) 0)then(bif(inR (w64 (x3-1)) (lenI x4))then(bif(inR x3 (lenI x4))then(bif(inR x3 (lenI x4))then(bif(inR (w64 (x3-1)) (lenI (updR x4 (tn x3) 0 [(.int (gn (at' x4 (tn (w64 (x3-1)))))),(.int (gn (tk 1 (at' x4 (tn (w64 (x3-1))))))),(.int (gn (tk 2 (at' x4 (tn (w64 (x3-1)))))))])))then(Z5h x0 x1 x2 (w64 (x3-1)) (updR (updR x4 (tn x3) 0 [(.int (gn (at' x4 (tn (w64 (x3-1)))))),(.int (gn (tk 1 (at' x4 (tn (w64 (x3-1))))))),(.int (gn (tk 2 (at' x4 (tn (w64 (x3-1)))))))]) (tn (w64 (x3-1))) 0 [(.int (gn (at' x4 (tn x3)))),(.int (gn (tk 1 (at' x4 (tn x3))))),(.int (gn (tk 2 (at' x4 (tn x3)))))]))else none)else none)else none)else none)else(Z5g x0 x1 (w64 (x2+1)) x4))))else none)else none)else(Z5g x0 x1 (w64 (x2+1)) x4)):=(loopK_run (by kernel_rfl)).trans (by kernel_rfl)
theorem Z74 (a0:Rows) (a1 a2:Int):callI tE Z5i [.sl a0,.int a1,.int a2]=(Z5g a1 a2 (w64 (a1+1)) a0):=(callI_run rfl (by kernel_rfl)).trans (by kernel_rfl)
noncomputable def Z5p (x0 x1 x2 x3:Int) (x4:Rows):Option (List Dat):=loopK tE Z5q 0 ⟨[(0,(.own (1000000,0))),(1,(.i .i64 x0)),(2,(.i .i64 x1)),(3,(.i .i64 x2)),(10,(.i .i64 x3))],[((1000000,0),(.row 224 x4 Bool.true 0 []))]⟩
theorem Z6y (x0 x1 x2 x3:Int) (x4:Rows):Z5p x0 x1 x2 x3 x4=(bif(ltI x3 x2)then(bif(inR (w64 (x1+x3)) (lenI x4))then(bif(inR (w64 (x0+x3)) (lenI x4))then(bif(inR (w64 (x0+x3)) (lenI x4))then(bif(inR (w64 (x1+x3)) (lenI (updR x4 (tn (w64 (x0+x3))) 0 [(.int (gn (at' x4 (tn (w64 (x1+x3)))))),(.int (gn (tk 1 (at' x4 (tn (w64 (x1+x3))))))),(.int (gn (tk 2 (at' x4 (tn (w64 (x1+x3)))))))])))then(Z5p x0 x1 x2 (w64 (x3+1)) (updR (updR x4 (tn (w64 (x0+x3))) 0 [(.int (gn (at' x4 (tn (w64 (x1+x3)))))),(.int (gn (tk 1 (at' x4 (tn (w64 (x1+x3))))))),(.int (gn (tk 2 (at' x4 (tn (w64 (x1+x3)))))))]) (tn (w64 (x1+x3))) 0 [(.int (gn (at' x4 (tn (w64 (x0+x3)))))),(.int (gn (tk 1 (at' x4 (tn (w64 (x0+x3))))))),(.int (gn (tk 2 (at' x4 (tn (w64 (x0+x3)))))))]))else none)else none)else none)else none)else(some [(.sl x4)])):=(loopK_run (by kernel_rfl)).trans (by kernel_rfl)
theorem ZAr (a0:Rows) (a1 a2 a3:Int):callI tE Z5q [.sl a0,.int a1,.int a2,.int a3]=(Z5p a1 a2 a3 0 a0):=(callI_run rfl (by kernel_rfl)).trans (by kernel_rfl)
noncomputable def Z5y (x0 x1 x2 x3 x4:Int) (x5:Rows):Option (List Dat):=loopK tE Z66 0 ⟨[(0,(.own (1000000,0))),(1,(.i .i64 x0)),(2,(.i .i64 x1)),(3,(.i .i64 x2)),(4,(.fn 307 [])),(10,(.i .i64 x3)),(11,(.i .i64 x4))],[((1000000,0),(.row 224 x5 Bool.true 0 []))]⟩
theorem ZA8 (x0 x1 x2 x3 x4:Int) (x5:Rows):Z5y x0 x1 x2 x3 x4 x5=(bif(!(eqI x3 x4))then(bif(ltI x4 x3)then(((callI tE Z5q [(.sl x5),(.int (w64 (x1-x3))),(.int x1),(.int x4)])).bind (fun r0=>(Z5y x0 x1 x2 (w64 (x3-x4)) x4 (gl r0))))else(((callI tE Z5q [(.sl x5),(.int (w64 (x1-x3))),(.int (w64 ((w64 (x1+x4))-x3))),(.int x3)])).bind (fun r0=>(Z5y x0 x1 x2 x3 (w64 (x4-x3)) (gl r0)))))else(((callI tE Z5q [(.sl x5),(.int (w64 (x1-x3))),(.int x1),(.int x3)])).bind (fun r0=>(some [(.sl (gl r0))])))):=(loopK_run (by kernel_rfl)).trans (by kernel_rfl)
theorem ZBi (a0:Rows) (a1 a2 a3:Int):callI tE Z66 [.sl a0,.int a1,.int a2,.int a3]=(Z5y a1 a2 a3 (w64 (a2-a1)) (w64 (a3-a2)) a0):=(callI_run rfl (by kernel_rfl)).trans (by kernel_rfl)
noncomputable def Z5b (x0 x1 x2 x3 x4:Int) (x5:Rows):Option (List Dat):=loopK tE Z5U 0 ⟨[(0,(.own (1000000,0))),(1,(.i .i64 x0)),(2,(.i .i64 x1)),(3,(.i .i64 x2)),(4,(.fn 307 [])),(10,(.i .i64 x3)),(11,(.i .i64 x4))],[((1000000,0),(.row 224 x5 Bool.true 0 []))]⟩
noncomputable def Z5c (x0 x1 x2 x3 x4:Int) (x5:Rows):Option (List Dat):=loopK tE Z5U 2 ⟨[(0,(.own (1000000,0))),(1,(.i .i64 x0)),(2,(.i .i64 x1)),(3,(.i .i64 x2)),(4,(.fn 307 [])),(14,(.i .i64 x3)),(15,(.i .i64 x4))],[((1000000,0),(.row 224 x5 Bool.true 0 []))]⟩
noncomputable def Z5X (x0 x1 x2 x3 x4 x5 x6 x7:Int) (x8:Rows):Option (List Dat):=loopK tE Z5U 4 ⟨[(0,(.own (1000000,0))),(1,(.i .i64 x0)),(2,(.i .i64 x1)),(3,(.i .i64 x2)),(4,(.fn 307 [])),(18,(.i .i64 x3)),(19,(.i .i64 x4)),(20,(.i .i64 x5)),(21,(.i .i64 x6)),(22,(.i .i64 x7))],[((1000000,0),(.row 224 x8 Bool.true 0 []))]⟩
noncomputable def Z5d (x0 x1 x2 x3 x4:Int) (x5:Rows):Option (List Dat):=loopK tE Z5U 1 ⟨[(0,(.own (1000000,0))),(1,(.i .i64 x0)),(2,(.i .i64 x1)),(3,(.i .i64 x2)),(10,(.i .i64 x3)),(13,(.i .i64 x4))],[((1000000,0),(.row 224 x5 Bool.true 0 []))]⟩
noncomputable def Z5e (x0 x1 x2 x3 x4:Int) (x5:Rows):Option (List Dat):=loopK tE Z5U 3 ⟨[(0,(.own (1000000,0))),(1,(.i .i64 x0)),(2,(.i .i64 x1)),(3,(.i .i64 x2)),(14,(.i .i64 x3)),(17,(.i .i64 x4))],[((1000000,0),(.row 224 x5 Bool.true 0 []))]⟩
theorem Z75 (x0 x1 x2 x3 x4:Int) (x5:Rows):Z5b x0 x1 x2 x3 x4 x5=(bif(ltI x3 x4)then(bif(inR (w64 ((Go.IntKind.wrap .u64 (w64 (x3+x4)))/(Int.pow 2 (ite ((tn 1)≤(Go.IntKind.bits .u64)) (tn 1) 64)))) (lenI x5))then(bif(inR x0 (lenI x5))then(((callI tE Z5r [(.int (gn (at' x5 (tn (w64 ((Go.IntKind.wrap .u64 (w64 (x3+x4)))/(Int.pow 2 (ite ((tn 1)≤(Go.IntKind.bits .u64)) (tn 1) 64)))))))),(.int (gn (tk 1 (at' x5 (tn (w64 ((Go.IntKind.wrap .u64 (w64 (x3+x4)))/(Int.pow 2 (ite ((tn 1)≤(Go.IntKind.bits .u64)) (tn 1) 64))))))))),(.int (gn (tk 2 (at' x5 (tn (w64 ((Go.IntKind.wrap .u64 (w64 (x3+x4)))/(Int.pow 2 (ite ((tn 1)≤(Go.IntKind.bits .u64)) (tn 1) 64))))))))),(.int (gn (at' x5 (tn x0)))),(.int (gn (tk 1 (at' x5 (tn x0))))),(.int (gn (tk 2 (at' x5 (tn x0)))))])).bind (fun r0=>(bif(ltI (gn r0) 0)then(Z5b x0 x1 x2 (w64 ((w64 ((Go.IntKind.wrap .u64 (w64 (x3+x4)))/(Int.pow 2 (ite ((tn 1)≤(Go.IntKind.bits .u64)) (tn 1) 64))))+1)) x4 x5)else(Z5b x0 x1 x2 x3 (w64 ((Go.IntKind.wrap .u64 (w64 (x3+x4)))/(Int.pow 2 (ite ((tn 1)≤(Go.IntKind.bits .u64)) (tn 1) 64)))) x5))))else none)else none)else(Z5d x0 x1 x2 x3 x0 x5)):=(loopK_run (by kernel_rfl)).trans (by kernel_rfl)
theorem Z76 (x0 x1 x2 x3 x4:Int) (x5:Rows):Z5c x0 x1 x2 x3 x4 x5=(bif(ltI x3 x4)then(bif(inR x1 (lenI x5))then(bif(inR (w64 ((Go.IntKind.wrap .u64 (w64 (x3+x4)))/(Int.pow 2 (ite ((tn 1)≤(Go.IntKind.bits .u64)) (tn 1) 64)))) (lenI x5))then(((callI tE Z5r [(.int (gn (at' x5 (tn x1)))),(.int (gn (tk 1 (at' x5 (tn x1))))),(.int (gn (tk 2 (at' x5 (tn x1))))),(.int (gn (at' x5 (tn (w64 ((Go.IntKind.wrap .u64 (w64 (x3+x4)))/(Int.pow 2 (ite ((tn 1)≤(Go.IntKind.bits .u64)) (tn 1) 64)))))))),(.int (gn (tk 1 (at' x5 (tn (w64 ((Go.IntKind.wrap .u64 (w64 (x3+x4)))/(Int.pow 2 (ite ((tn 1)≤(Go.IntKind.bits .u64)) (tn 1) 64))))))))),(.int (gn (tk 2 (at' x5 (tn (w64 ((Go.IntKind.wrap .u64 (w64 (x3+x4)))/(Int.pow 2 (ite ((tn 1)≤(Go.IntKind.bits .u64)) (tn 1) 64)))))))))])).bind (fun r0=>(bif(!(ltI (gn r0) 0))then(Z5c x0 x1 x2 (w64 ((w64 ((Go.IntKind.wrap .u64 (w64 (x3+x4)))/(Int.pow 2 (ite ((tn 1)≤(Go.IntKind.bits .u64)) (tn 1) 64))))+1)) x4 x5)else(Z5c x0 x1 x2 x3 (w64 ((Go.IntKind.wrap .u64 (w64 (x3+x4)))/(Int.pow 2 (ite ((tn 1)≤(Go.IntKind.bits .u64)) (tn 1) 64)))) x5))))else none)else none)else(Z5e x0 x1 x2 x3 x1 x5)):=(loopK_run (by kernel_rfl)).trans (by kernel_rfl)
theorem Z77 (x0 x1 x2 x3 x4 x5 x6 x7:Int) (x8:Rows):Z5X x0 x1 x2 x3 x4 x5 x6 x7 x8=(bif(ltI x5 x6)then(bif(inR (w64 (x7-(w64 ((Go.IntKind.wrap .u64 (w64 (x5+x6)))/(Int.pow 2 (ite ((tn 1)≤(Go.IntKind.bits .u64)) (tn 1) 64)))))) (lenI x8))then(bif(inR (w64 ((Go.IntKind.wrap .u64 (w64 (x5+x6)))/(Int.pow 2 (ite ((tn 1)≤(Go.IntKind.bits .u64)) (tn 1) 64)))) (lenI x8))then(((callI tE Z5r [(.int (gn (at' x8 (tn (w64 (x7-(w64 ((Go.IntKind.wrap .u64 (w64 (x5+x6)))/(Int.pow 2 (ite ((tn 1)≤(Go.IntKind.bits .u64)) (tn 1) 64)))))))))),(.int (gn (tk 1 (at' x8 (tn (w64 (x7-(w64 ((Go.IntKind.wrap .u64 (w64 (x5+x6)))/(Int.pow 2 (ite ((tn 1)≤(Go.IntKind.bits .u64)) (tn 1) 64))))))))))),(.int (gn (tk 2 (at' x8 (tn (w64 (x7-(w64 ((Go.IntKind.wrap .u64 (w64 (x5+x6)))/(Int.pow 2 (ite ((tn 1)≤(Go.IntKind.bits .u64)) (tn 1) 64))))))))))),(.int (gn (at' x8 (tn (w64 ((Go.IntKind.wrap .u64 (w64 (x5+x6)))/(Int.pow 2 (ite ((tn 1)≤(Go.IntKind.bits .u64)) (tn 1) 64)))))))),(.int (gn (tk 1 (at' x8 (tn (w64 ((Go.IntKind.wrap .u64 (w64 (x5+x6)))/(Int.pow 2 (ite ((tn 1)≤(Go.IntKind.bits .u64)) (tn 1) 64))))))))),(.int (gn (tk 2 (at' x8 (tn (w64 ((Go.IntKind.wrap .u64 (w64 (x5+x6)))/(Int.pow 2 (ite ((tn 1)≤(Go.IntKind.bits .u64)) (tn 1) 64)))))))))])).bind (fun r0=>(bif(!(ltI (gn r0) 0))then(Z5X x0 x1 x2 x3 x4 (w64 ((w64 ((Go.IntKind.wrap .u64 (w64 (x5+x6)))/(Int.pow 2 (ite ((tn 1)≤(Go.IntKind.bits .u64)) (tn 1) 64))))+1)) x6 x7 x8)else(Z5X x0 x1 x2 x3 x4 x5 (w64 ((Go.IntKind.wrap .u64 (w64 (x5+x6)))/(Int.pow 2 (ite ((tn 1)≤(Go.IntKind.bits .u64)) (tn 1) 64)))) x7 x8))))else none)else none)else(bif(ltI x5 x1)then(bif(ltI x1 (w64 (x4-x5)))then(((callI tE Z66 [(.sl x8),(.int x5),(.int x1),(.int (w64 (x4-x5)))])).bind (fun r0=>(bif(ltI x0 x5)then(bif(ltI x5 x3)then(((callI tE Z5U [(.sl (gl r0)),(.int x0),(.int x5),(.int x3)])).bind (fun r1=>(bif(ltI x3 (w64 (x4-x5)))then(bif(ltI (w64 (x4-x5)) x2)then(((callI tE Z5U [(.sl (gl r1)),(.int x3),(.int (w64 (x4-x5))),(.int x2)])).bind (fun r2=>(some [(.sl (gl r2))])))else(some [(.sl (gl r1))]))else(some [(.sl (gl r1))]))))else(bif(ltI x3 (w64 (x4-x5)))then(bif(ltI (w64 (x4-x5)) x2)then(((callI tE Z5U [(.sl (gl r0)),(.int x3),(.int (w64 (x4-x5))),(.int x2)])).bind (fun r1=>(some [(.sl (gl r1))])))else(some [(.sl (gl r0))]))else(some [(.sl (gl r0))])))else(bif(ltI x3 (w64 (x4-x5)))then(bif(ltI (w64 (x4-x5)) x2)then(((callI tE Z5U [(.sl (gl r0)),(.int x3),(.int (w64 (x4-x5))),(.int x2)])).bind (fun r1=>(some [(.sl (gl r1))])))else(some [(.sl (gl r0))]))else(some [(.sl (gl r0))])))))else(bif(ltI x0 x5)then(bif(ltI x5 x3)then(((callI tE Z5U [(.sl x8),(.int x0),(.int x5),(.int x3)])).bind (fun r0=>(bif(ltI x3 (w64 (x4-x5)))then(bif(ltI (w64 (x4-x5)) x2)then(((callI tE Z5U [(.sl (gl r0)),(.int x3),(.int (w64 (x4-x5))),(.int x2)])).bind (fun r1=>(some [(.sl (gl r1))])))else(some [(.sl (gl r0))]))else(some [(.sl (gl r0))]))))else(bif(ltI x3 (w64 (x4-x5)))then(bif(ltI (w64 (x4-x5)) x2)then(((callI tE Z5U [(.sl x8),(.int x3),(.int (w64 (x4-x5))),(.int x2)])).bind (fun r0=>(some [(.sl (gl r0))])))else(some [(.sl x8)]))else(some [(.sl x8)])))else(bif(ltI x3 (w64 (x4-x5)))then(bif(ltI (w64 (x4-x5)) x2)then(((callI tE Z5U [(.sl x8),(.int x3),(.int (w64 (x4-x5))),(.int x2)])).bind (fun r0=>(some [(.sl (gl r0))])))else(some [(.sl x8)]))else(some [(.sl x8)]))))else(bif(ltI x0 x5)then(bif(ltI x5 x3)then(((callI tE Z5U [(.sl x8),(.int x0),(.int x5),(.int x3)])).bind (fun r0=>(bif(ltI x3 (w64 (x4-x5)))then(bif(ltI (w64 (x4-x5)) x2)then(((callI tE Z5U [(.sl (gl r0)),(.int x3),(.int (w64 (x4-x5))),(.int x2)])).bind (fun r1=>(some [(.sl (gl r1))])))else(some [(.sl (gl r0))]))else(some [(.sl (gl r0))]))))else(bif(ltI x3 (w64 (x4-x5)))then(bif(ltI (w64 (x4-x5)) x2)then(((callI tE Z5U [(.sl x8),(.int x3),(.int (w64 (x4-x5))),(.int x2)])).bind (fun r0=>(some [(.sl (gl r0))])))else(some [(.sl x8)]))else(some [(.sl x8)])))else(bif(ltI x3 (w64 (x4-x5)))then(bif(ltI (w64 (x4-x5)) x2)then(((callI tE Z5U [(.sl x8),(.int x3),(.int (w64 (x4-x5))),(.int x2)])).bind (fun r0=>(some [(.sl (gl r0))])))else(some [(.sl x8)]))else(some [(.sl x8)]))))):=(loopK_run (by kernel_rfl)).trans (by kernel_rfl)
theorem Z78 (x0 x1 x2 x3 x4:Int) (x5:Rows):Z5d x0 x1 x2 x3 x4 x5=(bif(ltI x4 (w64 (x3-1)))then(bif(inR (w64 (x4+1)) (lenI x5))then(bif(inR x4 (lenI x5))then(bif(inR x4 (lenI x5))then(bif(inR (w64 (x4+1)) (lenI (updR x5 (tn x4) 0 [(.int (gn (at' x5 (tn (w64 (x4+1)))))),(.int (gn (tk 1 (at' x5 (tn (w64 (x4+1))))))),(.int (gn (tk 2 (at' x5 (tn (w64 (x4+1)))))))])))then(Z5d x0 x1 x2 x3 (w64 (x4+1)) (updR (updR x5 (tn x4) 0 [(.int (gn (at' x5 (tn (w64 (x4+1)))))),(.int (gn (tk 1 (at' x5 (tn (w64 (x4+1))))))),(.int (gn (tk 2 (at' x5 (tn (w64 (x4+1)))))))]) (tn (w64 (x4+1))) 0 [(.int (gn (at' x5 (tn x4)))),(.int (gn (tk 1 (at' x5 (tn x4))))),(.int (gn (tk 2 (at' x5 (tn x4)))))]))else none)else none)else none)else none)else(some [(.sl x5)])):=(loopK_run (by kernel_rfl)).trans (by kernel_rfl)
theorem Z79 (x0 x1 x2 x3 x4:Int) (x5:Rows):Z5e x0 x1 x2 x3 x4 x5=(bif(ltI x3 x4)then(bif(inR (w64 (x4-1)) (lenI x5))then(bif(inR x4 (lenI x5))then(bif(inR x4 (lenI x5))then(bif(inR (w64 (x4-1)) (lenI (updR x5 (tn x4) 0 [(.int (gn (at' x5 (tn (w64 (x4-1)))))),(.int (gn (tk 1 (at' x5 (tn (w64 (x4-1))))))),(.int (gn (tk 2 (at' x5 (tn (w64 (x4-1)))))))])))then(Z5e x0 x1 x2 x3 (w64 (x4-1)) (updR (updR x5 (tn x4) 0 [(.int (gn (at' x5 (tn (w64 (x4-1)))))),(.int (gn (tk 1 (at' x5 (tn (w64 (x4-1))))))),(.int (gn (tk 2 (at' x5 (tn (w64 (x4-1)))))))]) (tn (w64 (x4-1))) 0 [(.int (gn (at' x5 (tn x4)))),(.int (gn (tk 1 (at' x5 (tn x4))))),(.int (gn (tk 2 (at' x5 (tn x4)))))]))else none)else none)else none)else none)else(some [(.sl x5)])):=(loopK_run (by kernel_rfl)).trans (by kernel_rfl)
theorem Z6O (a0:Rows) (a1 a2 a3:Int):callI tE Z5U [.sl a0,.int a1,.int a2,.int a3]=(bif(eqI (w64 (a2-a1)) 1)then(Z5b a1 a2 a3 a2 a3 a0)else(bif(eqI (w64 (a3-a2)) 1)then(Z5c a1 a2 a3 a1 a2 a0)else(bif(ltI (w64 ((Go.IntKind.wrap .u64 (w64 (a1+a3)))/(Int.pow 2 (ite ((tn 1)≤(Go.IntKind.bits .u64)) (tn 1) 64)))) a2)then(Z5X a1 a2 a3 (w64 ((Go.IntKind.wrap .u64 (w64 (a1+a3)))/(Int.pow 2 (ite ((tn 1)≤(Go.IntKind.bits .u64)) (tn 1) 64)))) (w64 ((w64 ((Go.IntKind.wrap .u64 (w64 (a1+a3)))/(Int.pow 2 (ite ((tn 1)≤(Go.IntKind.bits .u64)) (tn 1) 64))))+a2)) (w64 ((w64 ((w64 ((Go.IntKind.wrap .u64 (w64 (a1+a3)))/(Int.pow 2 (ite ((tn 1)≤(Go.IntKind.bits .u64)) (tn 1) 64))))+a2))-a3)) (w64 ((Go.IntKind.wrap .u64 (w64 (a1+a3)))/(Int.pow 2 (ite ((tn 1)≤(Go.IntKind.bits .u64)) (tn 1) 64)))) (w64 ((w64 ((w64 ((Go.IntKind.wrap .u64 (w64 (a1+a3)))/(Int.pow 2 (ite ((tn 1)≤(Go.IntKind.bits .u64)) (tn 1) 64))))+a2))-1)) a0)else(Z5X a1 a2 a3 (w64 ((Go.IntKind.wrap .u64 (w64 (a1+a3)))/(Int.pow 2 (ite ((tn 1)≤(Go.IntKind.bits .u64)) (tn 1) 64)))) (w64 ((w64 ((Go.IntKind.wrap .u64 (w64 (a1+a3)))/(Int.pow 2 (ite ((tn 1)≤(Go.IntKind.bits .u64)) (tn 1) 64))))+a2)) a1 a2 (w64 ((w64 ((w64 ((Go.IntKind.wrap .u64 (w64 (a1+a3)))/(Int.pow 2 (ite ((tn 1)≤(Go.IntKind.bits .u64)) (tn 1) 64))))+a2))-1)) a0)))):=(callI_run rfl (by kernel_rfl)).trans (by kernel_rfl)
noncomputable def Z5z (x0 x1 x2 x3:Int) (x4:Rows):Option (List Dat):=loopK tE Z67 0 ⟨[(0,(.own (1000000,0))),(1,(.i .i64 x0)),(2,(.fn 307 [])),(6,(.i .i64 x1)),(7,(.i .i64 x2)),(8,(.i .i64 x3))],[((1000000,0),(.row 224 x4 Bool.true 0 []))]⟩
noncomputable def Z5Y (x0 x1:Int) (x2:Rows):Option (List Dat):=loopK tE Z67 1 ⟨[(0,(.own (1000000,0))),(1,(.i .i64 x0)),(2,(.fn 307 [])),(6,(.i .i64 x1))],[((1000000,0),(.row 224 x2 Bool.true 0 []))]⟩
noncomputable def Z60 (x0 x1 x2 x3:Int) (x4:Rows):Option (List Dat):=loopK tE Z67 2 ⟨[(0,(.own (1000000,0))),(1,(.i .i64 x0)),(2,(.fn 307 [])),(6,(.i .i64 x1)),(7,(.i .i64 x2)),(8,(.i .i64 x3))],[((1000000,0),(.row 224 x4 Bool.true 0 []))]⟩
theorem Z6Z (x0 x1 x2 x3:Int) (x4:Rows):Z5z x0 x1 x2 x3 x4=(bif(leI x3 x0)then(((callI tE Z5i [(.sl x4),(.int x2),(.int x3)])).bind (fun r0=>(Z5z x0 x1 x3 (w64 (x3+x1)) (gl r0))))else(((callI tE Z5i [(.sl x4),(.int x2),(.int x0)])).bind (fun r0=>(Z5Y x0 x1 (gl r0))))):=(loopK_run (by kernel_rfl)).trans (by kernel_rfl)
theorem Z5s (x0 x1:Int) (x2:Rows):Z5Y x0 x1 x2=(bif(ltI x1 x0)then(Z60 x0 x1 0 (w64 (2*x1)) x2)else(some [(.sl x2)])):=(loopK_run (by kernel_rfl)).trans (by kernel_rfl)
theorem Z6a (x0 x1 x2 x3:Int) (x4:Rows):Z60 x0 x1 x2 x3 x4=(bif(leI x3 x0)then(((callI tE Z5U [(.sl x4),(.int x2),(.int (w64 (x2+x1))),(.int x3)])).bind (fun r0=>(Z60 x0 x1 x3 (w64 (x3+(w64 (2*x1)))) (gl r0))))else(bif(ltI (w64 (x2+x1)) x0)then(((callI tE Z5U [(.sl x4),(.int x2),(.int (w64 (x2+x1))),(.int x0)])).bind (fun r0=>(Z5Y x0 (w64 (x1*2)) (gl r0))))else(Z5Y x0 (w64 (x1*2)) x4))):=(loopK_run (by kernel_rfl)).trans (by kernel_rfl)
theorem ZBj (a0:Rows) (a1:Int):callI tE Z67 [.sl a0,.int a1]=(Z5z a1 20 0 20 a0):=(callI_run rfl (by kernel_rfl)).trans (by kernel_rfl)
theorem ZBQ (a0:Rows):callI tE Z6t [.sl a0]=(((callI tE Z67 [(.sl a0),(.int (lenI a0))])).bind (fun r0=>(some [(.sl (gl r0))]))):=(callI_run rfl (by kernel_rfl)).trans (by kernel_rfl)
noncomputable def Z62 (x0:Rows) (x1 x2 x3 x4:Int):Option (List Dat):=loopK tE Z7I 0 ⟨[(0,(.ro 177 Bool.false x0)),(1,(.fn 329 [(.ptr (2000002,0) x1 0)])),(7,(.i .i64 x2)),(8,(.i .i64 x3))],[((2000002,0),(.box 3 [(.i .i64 x4)]))]⟩
theorem Z7c (x0:Rows) (x1 x2 x3 x4:Int):Z62 x0 x1 x2 x3 x4=(bif(ltI x3 x2)then(bif(inR x3 (lenI x0))then(((callI tE ZC4 [(.int (gn (at' x0 (tn x3)))),(.int (gn (tk 1 (at' x0 (tn x3))))),(.int (gn (tk 2 (at' x0 (tn x3))))),(.int x4)])).bind (fun r0=>(bif(gb r0)then(some [(.int x3),(.int (gn (List.drop 1 r0)))])else(Z62 x0 x1 x2 (w64 (x3+1)) (gn (List.drop 1 r0))))))else none)else(some [(.int (-1)),(.int x4)])):=(loopK_run (by kernel_rfl)).trans (by kernel_rfl)
theorem ZC1 (a0:Rows) (a1:Int):callI tE Z7I [.sl a0,.int a1]=(Z62 a0 0 (lenI a0) 0 a1):=(callI_run rfl (by kernel_rfl)).trans (by kernel_rfl)
theorem ZGB (a0:Rows) (a1:Int):callI tE Z6P [.sl a0,.int a1]=(bif(ltI (w64 (a1-(lenI a0))) 0)then(some [(.int (-1))])else(some [(.int (w64 (a1-(lenI a0))))])):=(callI_run rfl (by kernel_rfl)).trans (by kernel_rfl)
theorem ZFX (a0:Rows) (a1:Int):callI tE ZBu [.sl a0,.int a1]=(bif(ltI (w64 (a1-(lenI a0))) 0)then(some [(.int (-1))])else(some [(.int (w64 (a1-(lenI a0))))])):=(callI_run rfl (by kernel_rfl)).trans (by kernel_rfl)
theorem ZHC (a0 a1 a2:Int):callI tE Z5l [.int a0,.int a1,.int a2]=(bif(leI a1 a0)then(some [(.bool (leI a0 a2))])else(some [(.bool Bool.false)])):=(callI_run rfl (by kernel_rfl)).trans (by kernel_rfl)
theorem ZDo (a0 a1 a2:Int):callI tE Z8N [.int a0,.int a1,.int a2]=(((callI tE Z5l [(.int a0),(.int 0),(.int 9)])).bind (fun r0=>(bif(gb r0)then(((callI tE Z5l [(.int a1),(.int 0),(.int 99)])).bind (fun r1=>(bif(gb r1)then(((callI tE Z5l [(.int a2),(.int 0),(.int 3)])).bind (fun r2=>(some [(.bool (gb r2))])))else(some [(.bool Bool.false)]))))else(some [(.bool Bool.false)])))):=(callI_run rfl (by kernel_rfl)).trans (by kernel_rfl)
noncomputable def Z7A (x0:Rows) (x1:Int):Option (List Dat):=loopK tE Z61 0 ⟨[(0,(.ro 224 Bool.false x0)),(3,(.i .i64 x1))],[]⟩
theorem Z9P (x0:Rows) (x1:Int):Z7A x0 x1=(bif(ltI x1 (lenI x0))then(bif(inR x1 (lenI x0))then(((callI tE Z8N [(.int (gn (at' x0 (tn x1)))),(.int (gn (tk 1 (at' x0 (tn x1))))),(.int (gn (tk 2 (at' x0 (tn x1)))))])).bind (fun r0=>(bif(!(gb r0))then(some [(.bool Bool.false)])else(Z7A x0 (w64 (x1+1))))))else none)else(some [(.bool (leI (lenI x0) 24))])):=(loopK_run (by kernel_rfl)).trans (by kernel_rfl)
theorem ZD4 (a0:Rows):callI tE Z61 [.sl a0]=(Z7A a0 0):=(callI_run rfl (by kernel_rfl)).trans (by kernel_rfl)
theorem ZFY (a0 a1 a2:Int):callI tE ZBw [.int a0,.int a1,.int a2]=(((callI tE Z8N [(.int a0),(.int a1),(.int a2)])).bind (fun r0=>(bif(!(gb r0))then(some [(.int 0)])else(some [(.int (w64 (1+a2)))])))):=(callI_run rfl (by kernel_rfl)).trans (by kernel_rfl)
noncomputable def Z7B (x0:Rows) (x1 x2:Int):Option (List Dat):=loopK tE Z6S 0 ⟨[(0,(.ro 224 Bool.false x0)),(3,(.i .i64 x1)),(4,(.i .i64 x2))],[]⟩
theorem ZAZ (x0:Rows) (x1 x2:Int):Z7B x0 x1 x2=(bif(ltI x2 (lenI x0))then(bif(inR x2 (lenI x0))then(((callI tE ZBw [(.int (gn (at' x0 (tn x2)))),(.int (gn (tk 1 (at' x0 (tn x2))))),(.int (gn (tk 2 (at' x0 (tn x2)))))])).bind (fun r0=>(Z7B x0 (w64 (x1+(gn r0))) (w64 (x2+1)))))else none)else(some [(.int x1)])):=(loopK_run (by kernel_rfl)).trans (by kernel_rfl)
theorem ZEH (a0:Rows):callI tE Z6S [.sl a0]=(Z7B a0 0 0):=(callI_run rfl (by kernel_rfl)).trans (by kernel_rfl)
noncomputable def Z6R (x0:Int) (x1 x2:Rows):Option (List Dat):=loopK tE Z6B 0 ⟨[(5,(.own (500000,0))),(6,(.own (500001,0))),(7,(.i .i64 x0))],[((500000,0),(.row 3 x1 Bool.true 0 [])),((500001,0),(.row 3 x2 Bool.true 0 []))]⟩
theorem Z9l (x0:Int) (x1 x2:Rows):Z6R x0 x1 x2=(bif(ltI x0 3)then(bif(inR x0 (lenI x1))then(bif(inR x0 (lenI x2))then(bif(ltI (gn (at' x1 (tn x0))) (gn (at' x2 (tn x0))))then(some [(.int (-1))])else(bif(inR x0 (lenI x1))then(bif(inR x0 (lenI x2))then(bif(ltI (gn (at' x2 (tn x0))) (gn (at' x1 (tn x0))))then(some [(.int 1)])else(Z6R (w64 (x0+1)) x1 x2))else none)else none))else none)else none)else(some [(.int 0)])):=(loopK_run (by kernel_rfl)).trans (by kernel_rfl)
theorem ZDN (a0 a1 a2 a3 a4 a5:Int):callI tE Z6B [.int a0,.int a1,.int a2,.int a3,.int a4,.int a5]=(Z6R 0 [[(.int a0)],[(.int a1)],[(.int a2)]] [[(.int a3)],[(.int a4)],[(.int a5)]]):=(callI_run rfl (by kernel_rfl)).trans (by kernel_rfl)
noncomputable def Z9m (x0 x1:Rows) (x2:Int):Option (List Dat):=loopK tE Z9Z 0 ⟨[(0,(.ro 224 Bool.false x0)),(1,(.ro 224 Bool.false x1)),(5,(.i .i64 x2))],[]⟩
theorem ZBm (x0 x1:Rows) (x2:Int):Z9m x0 x1 x2=(bif(ltI x2 (lenI x0))then(bif(inR x2 (lenI x0))then(bif(inR x2 (lenI x1))then(bif(!((eqI (gn (at' x0 (tn x2))) (gn (at' x1 (tn x2))))&&((eqI (gn (tk 1 (at' x0 (tn x2)))) (gn (tk 1 (at' x1 (tn x2)))))&&((eqI (gn (tk 2 (at' x0 (tn x2)))) (gn (tk 2 (at' x1 (tn x2)))))&&Bool.true))))then(some [(.bool Bool.false)])else(Z9m x0 x1 (w64 (x2+1))))else none)else none)else(some [(.bool Bool.true)])):=(loopK_run (by kernel_rfl)).trans (by kernel_rfl)
theorem ZGC (a0 a1:Rows):callI tE Z9Z [.sl a0,.sl a1]=(bif(!(eqI (lenI a0) (lenI a1)))then(some [(.bool Bool.false)])else(Z9m a0 a1 0)):=(callI_run rfl (by kernel_rfl)).trans (by kernel_rfl)
noncomputable def Z8R (x0:Rows) (x1:Int):Option (List Dat):=loopK tE Z8E 0 ⟨[(0,(.ro 224 Bool.false x0)),(3,(.i .i64 x1))],[]⟩
theorem Z8d (x0:Rows) (x1:Int):Z8R x0 x1=(bif(ltI x1 (lenI x0))then(bif(inR (w64 (x1-1)) (lenI x0))then(bif(inR x1 (lenI x0))then(((callI tE Z6B [(.int (gn (at' x0 (tn (w64 (x1-1)))))),(.int (gn (tk 1 (at' x0 (tn (w64 (x1-1))))))),(.int (gn (tk 2 (at' x0 (tn (w64 (x1-1))))))),(.int (gn (at' x0 (tn x1)))),(.int (gn (tk 1 (at' x0 (tn x1))))),(.int (gn (tk 2 (at' x0 (tn x1)))))])).bind (fun r0=>(bif(ltI 0 (gn r0))then(some [(.bool Bool.false)])else(Z8R x0 (w64 (x1+1))))))else none)else none)else(some [(.bool Bool.true)])):=(loopK_run (by kernel_rfl)).trans (by kernel_rfl)
theorem ZEh (a0:Rows):callI tE Z8E [.sl a0]=(Z8R a0 1):=(callI_run rfl (by kernel_rfl)).trans (by kernel_rfl)
noncomputable def Z6N (x0:Rows) (x1:Int) (x2:Rows):Option (List Dat):=loopK tE Z6s 0 ⟨[(0,(.ro 224 Bool.false x0)),(3,(.own (500000,0))),(4,(.i .i64 x1))],[((500000,0),(.row 224 x2 Bool.true 0 []))]⟩
noncomputable def Z8S (x0:Rows) (x1 x2:Int) (x3:Rows):Option (List Dat):=loopK tE Z6s 1 ⟨[(0,(.ro 224 Bool.false x0)),(3,(.own (500000,0))),(4,(.i .i64 x1)),(5,(.i .i64 x2))],[((500000,0),(.row 224 x3 Bool.true 0 []))]⟩
theorem ZAv (x0:Rows) (x1:Int) (x2:Rows):Z6N x0 x1 x2=(bif(ltI x1 (lenI x0))then(Z8S x0 x1 (lenI x2) x2)else(some [(.sl x2)])):=(loopK_run (by kernel_rfl)).trans (by kernel_rfl)
theorem ZAw (x0:Rows) (x1 x2:Int) (x3:Rows):Z8S x0 x1 x2 x3=(bif(ltI 0 x2)then(bif(inR (w64 (x2-1)) (lenI x3))then(bif(inR x1 (lenI x0))then(((callI tE Z6B [(.int (gn (at' x3 (tn (w64 (x2-1)))))),(.int (gn (tk 1 (at' x3 (tn (w64 (x2-1))))))),(.int (gn (tk 2 (at' x3 (tn (w64 (x2-1))))))),(.int (gn (at' x0 (tn x1)))),(.int (gn (tk 1 (at' x0 (tn x1))))),(.int (gn (tk 2 (at' x0 (tn x1)))))])).bind (fun r0=>(bif(ltI 0 (gn r0))then(Z8S x0 x1 (w64 (x2-1)) x3)else(bif(inR x1 (lenI x0))then(bif((leI 0 x2)&&(leI x2 (lenI x3)))then(bif(fitM (1+(len (List.take (tn ((lenI x3)-x2)) (List.drop (tn x2) x3)))) 24)then(bif((leI 0 x2)&&(leI x2 (lenI x3)))then(bif(fitM (0+(len (List.take (tn (x2-0)) (List.drop (tn 0) x3)))) 24)then(bif(fitM (Nat.succ ((len (List.take (tn (x2-0)) (List.drop (tn 0) x3)))+(len (List.take (tn ((lenI x3)-x2)) (List.drop (tn x2) x3))))) 24)then(Z6N x0 (w64 (x1+1)) (List.append (List.take (tn (x2-0)) (List.drop (tn 0) x3)) ([(.int (gn (at' x0 (tn x1)))),(.int (gn (tk 1 (at' x0 (tn x1))))),(.int (gn (tk 2 (at' x0 (tn x1)))))]::(List.take (tn ((lenI x3)-x2)) (List.drop (tn x2) x3)))))else none)else none)else none)else none)else none)else none))))else none)else none)else(bif(inR x1 (lenI x0))then(bif((leI 0 x2)&&(leI x2 (lenI x3)))then(bif(fitM (1+(len (List.take (tn ((lenI x3)-x2)) (List.drop (tn x2) x3)))) 24)then(bif((leI 0 x2)&&(leI x2 (lenI x3)))then(bif(fitM (0+(len (List.take (tn (x2-0)) (List.drop (tn 0) x3)))) 24)then(bif(fitM (Nat.succ ((len (List.take (tn (x2-0)) (List.drop (tn 0) x3)))+(len (List.take (tn ((lenI x3)-x2)) (List.drop (tn x2) x3))))) 24)then(Z6N x0 (w64 (x1+1)) (List.append (List.take (tn (x2-0)) (List.drop (tn 0) x3)) ([(.int (gn (at' x0 (tn x1)))),(.int (gn (tk 1 (at' x0 (tn x1))))),(.int (gn (tk 2 (at' x0 (tn x1)))))]::(List.take (tn ((lenI x3)-x2)) (List.drop (tn x2) x3)))))else none)else none)else none)else none)else none)else none)):=(loopK_run (by kernel_rfl)).trans (by kernel_rfl)
theorem ZEi (a0:Rows):callI tE Z6s [.sl a0]=(Z6N a0 0 []):=(callI_run rfl (by kernel_rfl)).trans (by kernel_rfl)
noncomputable def Z81 (x0:Int) (x1 x2:Rows):Option (List Dat):=loopK tE Z6j 0 ⟨[(5,(.own (500000,0))),(6,(.own (500001,0))),(7,(.i .i64 x0))],[((500000,0),(.row 224 x1 Bool.true 0 [])),((500001,0),(.row 224 x2 Bool.true 0 []))]⟩
theorem ZAa (x0:Int) (x1 x2:Rows):Z81 x0 x1 x2=(bif(ltI x0 (lenI x1))then(bif(inR x0 (lenI x1))then(bif(inR x0 (lenI x2))then(bif(!((eqI (gn (at' x1 (tn x0))) (gn (at' x2 (tn x0))))&&((eqI (gn (tk 1 (at' x1 (tn x0)))) (gn (tk 1 (at' x2 (tn x0)))))&&((eqI (gn (tk 2 (at' x1 (tn x0)))) (gn (tk 2 (at' x2 (tn x0)))))&&Bool.true))))then(some [(.bool Bool.false)])else(Z81 (w64 (x0+1)) x1 x2))else none)else none)else(some [(.bool Bool.true)])):=(loopK_run (by kernel_rfl)).trans (by kernel_rfl)
theorem ZEI (a0 a1:Rows):callI tE Z6j [.sl a0,.sl a1]=(((callI tE Z6s [(.sl a0)])).bind (fun r0=>(((callI tE Z6s [(.sl a1)])).bind (fun r1=>(bif(!(eqI (lenI (gl r0)) (lenI (gl r1))))then(some [(.bool Bool.false)])else(Z81 0 (gl r0) (gl r1))))))):=(callI_run rfl (by kernel_rfl)).trans (by kernel_rfl)
theorem ZGf (a0 a1 a2:Int):callI tE ZAW [.int a0,.int a1,.int a2]=(some [(.int a0),(.int a1),(.int a2)]):=(callI_run rfl (by kernel_rfl)).trans (by kernel_rfl)
noncomputable def Z9n (x0:Rows) (x1:Int) (x2:Rows):Option (List Dat):=loopK tE Z6J 0 ⟨[(0,(.ro 242 Bool.false x0)),(3,(.own (500000,0))),(4,(.i .i64 x1))],[((500000,0),(.row 224 x2 Bool.true 0 []))]⟩
theorem ZBn (x0:Rows) (x1:Int) (x2:Rows):Z9n x0 x1 x2=(bif(ltI x1 (lenI x0))then(bif(inR x1 (lenI x0))then(((callI tE ZAW [(.int (gn (at' x0 (tn x1)))),(.int (gn (tk 1 (at' x0 (tn x1))))),(.int (gn (tk 2 (at' x0 (tn x1)))))])).bind (fun r0=>(bif(inR x1 (lenI x2))then(Z9n x0 (w64 (x1+1)) (updR x2 (tn x1) 0 [(.int (gn r0)),(.int (gn (tk 1 r0))),(.int (gn (tk 2 r0)))]))else none)))else none)else(some [(.sl x2)])):=(loopK_run (by kernel_rfl)).trans (by kernel_rfl)
theorem ZGD (a0:Rows):callI tE Z6J [.sl a0]=(bif((leI 0 (lenI a0))&&((eqI (lenI a0) (lenI a0))&&(fitM (tn (lenI a0)) 24)))then(Z9n a0 0 (List.replicate (tn (lenI a0)) [(.int 0),(.int 0),(.int 0)]))else none):=(callI_run rfl (by kernel_rfl)).trans (by kernel_rfl)
noncomputable def Z96 (x0:Rows) (x1:Int) (x2:Rows):Option (List Dat):=loopK tE ZAI 0 ⟨[(0,(.ro 4 Bool.false x0)),(3,(.own (500000,0))),(4,(.i .i64 x1))],[((500000,0),(.row 4 x2 Bool.true 0 []))]⟩
theorem ZBR (x0:Rows) (x1:Int) (x2:Rows):Z96 x0 x1 x2=(bif(ltI x1 (lenI x0))then(bif(inR x1 (lenI x0))then(bif(inR x1 (lenI x2))then(Z96 x0 (w64 (x1+1)) (updR x2 (tn x1) 0 [(.bool (gb (at' x0 (tn x1))))]))else none)else none)else(some [(.sl x2)])):=(loopK_run (by kernel_rfl)).trans (by kernel_rfl)
theorem ZFZ (a0:Rows):callI tE ZAI [.sl a0]=(bif((leI 0 (lenI a0))&&((eqI (lenI a0) (lenI a0))&&(fitM (tn (lenI a0)) 1)))then(Z96 a0 0 (List.replicate (tn (lenI a0)) [(.bool Bool.false)]))else none):=(callI_run rfl (by kernel_rfl)).trans (by kernel_rfl)
theorem ZGE (a0 a1 a2:Int):callI tE Z5f [.int a0,.int a1,.int a2]=(bif(leI a1 a0)then(some [(.bool (leI a0 a2))])else(some [(.bool Bool.false)])):=(callI_run rfl (by kernel_rfl)).trans (by kernel_rfl)
theorem ZDp (a0 a1 a2:Int):callI tE Z8O [.int a0,.int a1,.int a2]=(((callI tE Z5f [(.int a0),(.int 0),(.int 9)])).bind (fun r0=>(bif(gb r0)then(((callI tE Z5f [(.int a1),(.int 0),(.int 99)])).bind (fun r1=>(bif(gb r1)then(((callI tE Z5f [(.int a2),(.int 0),(.int 3)])).bind (fun r2=>(some [(.bool (gb r2))])))else(some [(.bool Bool.false)]))))else(some [(.bool Bool.false)])))):=(callI_run rfl (by kernel_rfl)).trans (by kernel_rfl)
theorem ZFa (a0 a1 a2:Int):callI tE ZAM [.int a0,.int a1,.int a2]=(((callI tE Z8O [(.int a0),(.int a1),(.int a2)])).bind (fun r0=>(bif(!(gb r0))then(some [(.int 0)])else(some [(.int (w64 (1+a2)))])))):=(callI_run rfl (by kernel_rfl)).trans (by kernel_rfl)
noncomputable def Z7C (x0:Int) (x1:Rows) (x2 x3:Int):Option (List Dat):=loopK tE Z7n 0 ⟨[(3,(.i .i64 x0)),(6,(.ro 224 Bool.false x1)),(7,(.i .i64 x2)),(8,(.i .i64 x3))],[]⟩
theorem ZAb (x0:Int) (x1:Rows) (x2 x3:Int):Z7C x0 x1 x2 x3=(bif(ltI x3 x2)then(bif(inR x3 (lenI x1))then(((callI tE ZAM [(.int (gn (at' x1 (tn x3)))),(.int (gn (tk 1 (at' x1 (tn x3))))),(.int (gn (tk 2 (at' x1 (tn x3)))))])).bind (fun r0=>(Z7C (w64 (x0+(gn r0))) x1 x2 (w64 (x3+1)))))else none)else(some [(.int x0)])):=(loopK_run (by kernel_rfl)).trans (by kernel_rfl)
theorem ZEJ (a0:Rows):callI tE Z7n [.sl a0]=(Z7C 0 a0 (lenI a0) 0):=(callI_run rfl (by kernel_rfl)).trans (by kernel_rfl)
noncomputable def Z8T (x0:Rows) (x1 x2:Int):Option (List Dat):=loopK tE Z9d 0 ⟨[(5,(.ro 224 Bool.false x0)),(6,(.i .i64 x1)),(7,(.i .i64 x2))],[]⟩
theorem ZAx (x0:Rows) (x1 x2:Int):Z8T x0 x1 x2=(bif(ltI x2 x1)then(bif(inR x2 (lenI x0))then(((callI tE Z8O [(.int (gn (at' x0 (tn x2)))),(.int (gn (tk 1 (at' x0 (tn x2))))),(.int (gn (tk 2 (at' x0 (tn x2)))))])).bind (fun r0=>(bif(!(gb r0))then(some [(.bool Bool.false)])else(Z8T x0 x1 (w64 (x2+1))))))else none)else(some [(.bool Bool.true)])):=(loopK_run (by kernel_rfl)).trans (by kernel_rfl)
theorem ZEj (a0:Rows):callI tE Z9d [.sl a0]=(Z8T a0 (lenI a0) 0):=(callI_run rfl (by kernel_rfl)).trans (by kernel_rfl)
theorem ZD5 (a0:Rows):callI tE Z6L [.sl a0]=(bif(leI (lenI a0) 24)then(((callI tE Z9d [(.sl a0)])).bind (fun r0=>(some [(.bool (gb r0))])))else(some [(.bool Bool.false)])):=(callI_run rfl (by kernel_rfl)).trans (by kernel_rfl)
noncomputable def ZAS (x0 x1:Rows) (x2 x3:Int):Option (List Dat):=loopK tE Z9O 0 ⟨[(0,(.ro 224 Bool.false x0)),(1,(.ro 224 Bool.false x1)),(12,(.i .i64 x2)),(13,(.i .i64 x3))],[]⟩
theorem ZC5 (x0 x1:Rows) (x2 x3:Int):ZAS x0 x1 x2 x3=(bif(ltI x3 x2)then(bif(inR x3 (lenI x0))then(bif(inR x3 (lenI x1))then(bif(!((eqI (gn (at' x0 (tn x3))) (gn (at' x1 (tn x3))))&&((eqI (gn (tk 1 (at' x0 (tn x3)))) (gn (tk 1 (at' x1 (tn x3)))))&&((eqI (gn (tk 2 (at' x0 (tn x3)))) (gn (tk 2 (at' x1 (tn x3)))))&&Bool.true))))then(some [(.bool Bool.false)])else(ZAS x0 x1 x2 (w64 (x3+1))))else none)else none)else(some [(.bool Bool.true)])):=(loopK_run (by kernel_rfl)).trans (by kernel_rfl)
theorem ZGg (a0 a1:Rows):callI tE Z9O [.sl a0,.sl a1]=(bif(!(eqI (lenI a0) (lenI a1)))then(some [(.bool Bool.false)])else(ZAS a0 a1 (lenI a0) 0)):=(callI_run rfl (by kernel_rfl)).trans (by kernel_rfl)
theorem ZGh (a0 a1:Int):callI tE ZAX [.int a0,.int a1]=(bif(ltI a0 a1)then(some [(.int (-1))])else(bif(ltI a1 a0)then(some [(.int 1)])else(some [(.int 0)]))):=(callI_run rfl (by kernel_rfl)).trans (by kernel_rfl)
theorem ZDO (a0 a1 a2 a3 a4 a5:Int):callI tE Z5r [.int a0,.int a1,.int a2,.int a3,.int a4,.int a5]=(((callI tE ZAX [(.int a0),(.int a3)])).bind (fun r0=>(bif(!(eqI (gn r0) 0))then(some [(.int (gn r0))])else(((callI tE ZAX [(.int a1),(.int a4)])).bind (fun r1=>(bif(!(eqI (gn r1) 0))then(some [(.int (gn r1))])else(((callI tE ZAX [(.int a2),(.int a5)])).bind (fun r2=>(some [(.int (gn r2))]))))))))):=(callI_run rfl (by kernel_rfl)).trans (by kernel_rfl)
noncomputable def Z8U (x0:Rows) (x1:Int):Option (List Dat):=loopK tE Z8G 0 ⟨[(0,(.ro 224 Bool.false x0)),(3,(.i .i64 x1))],[]⟩
theorem Z8e (x0:Rows) (x1:Int):Z8U x0 x1=(bif(ltI x1 (lenI x0))then(bif(inR x1 (lenI x0))then(bif(inR (w64 (x1-1)) (lenI x0))then(((callI tE Z5r [(.int (gn (at' x0 (tn x1)))),(.int (gn (tk 1 (at' x0 (tn x1))))),(.int (gn (tk 2 (at' x0 (tn x1))))),(.int (gn (at' x0 (tn (w64 (x1-1)))))),(.int (gn (tk 1 (at' x0 (tn (w64 (x1-1))))))),(.int (gn (tk 2 (at' x0 (tn (w64 (x1-1)))))))])).bind (fun r0=>(bif(ltI (gn r0) 0)then(some [(.bool Bool.false)])else(Z8U x0 (w64 (x1+1))))))else none)else none)else(some [(.bool Bool.true)])):=(loopK_run (by kernel_rfl)).trans (by kernel_rfl)
theorem ZEk (a0:Rows):callI tE Z8G [.sl a0]=(Z8U a0 1):=(callI_run rfl (by kernel_rfl)).trans (by kernel_rfl)
theorem ZGi (a0:Rows):callI tE Z6T [.sl a0]=(bif(fitM (0+(len a0)) 24)then(some [(.sl a0)])else none):=(callI_run rfl (by kernel_rfl)).trans (by kernel_rfl)
theorem ZEl (a0:Rows):callI tE Z7W [.sl a0]=(((callI tE Z6T [(.sl a0)])).bind (fun r0=>(((callI tE Z6t [(.sl (gl r0))])).bind (fun r1=>(some [(.sl (gl r1))]))))):=(callI_run rfl (by kernel_rfl)).trans (by kernel_rfl)
theorem ZEK (a0 a1:Rows):callI tE Z7o [.sl a0,.sl a1]=(bif(eqI (lenI a0) (lenI a1))then(((callI tE Z7W [(.sl a0)])).bind (fun r0=>(((callI tE Z7W [(.sl a1)])).bind (fun r1=>(((callI tE Z9O [(.sl (gl r0)),(.sl (gl r1))])).bind (fun r2=>(some [(.bool (gb r2))])))))))else(some [(.bool Bool.false)])):=(callI_run rfl (by kernel_rfl)).trans (by kernel_rfl)
theorem ZGj (a0 a1 a2 a3 a4 a5:Int):callI tE ZAY [.int a0,.int a1,.int a2,.int a3,.int a4,.int a5]=(bif(!(eqI a0 a3))then(some [(.bool Bool.false)])else(bif(!(eqI a1 a4))then(some [(.bool Bool.false)])else(bif(!(eqI a2 a5))then(some [(.bool Bool.false)])else(some [(.bool Bool.true)])))):=(callI_run rfl (by kernel_rfl)).trans (by kernel_rfl)
noncomputable def Z9o (x0 x1:Rows) (x2:Int):Option (List Dat):=loopK tE Z6K 0 ⟨[(0,(.ro 224 Bool.false x0)),(1,(.ro 224 Bool.false x1)),(5,(.i .i64 x2))],[]⟩
theorem ZBo (x0 x1:Rows) (x2:Int):Z9o x0 x1 x2=(bif(ltI x2 (lenI x0))then(bif(inR x2 (lenI x0))then(bif(inR x2 (lenI x1))then(((callI tE ZAY [(.int (gn (at' x0 (tn x2)))),(.int (gn (tk 1 (at' x0 (tn x2))))),(.int (gn (tk 2 (at' x0 (tn x2))))),(.int (gn (at' x1 (tn x2)))),(.int (gn (tk 1 (at' x1 (tn x2))))),(.int (gn (tk 2 (at' x1 (tn x2)))))])).bind (fun r0=>(bif(!(gb r0))then(some [(.bool Bool.false)])else(Z9o x0 x1 (w64 (x2+1))))))else none)else none)else(some [(.bool Bool.true)])):=(loopK_run (by kernel_rfl)).trans (by kernel_rfl)
theorem ZGF (a0 a1:Rows):callI tE Z6K [.sl a0,.sl a1]=(bif(!(eqI (lenI a0) (lenI a1)))then(some [(.bool Bool.false)])else(Z9o a0 a1 0)):=(callI_run rfl (by kernel_rfl)).trans (by kernel_rfl)
noncomputable def Z97 (x0 x1:Rows) (x2:Int):Option (List Dat):=loopK tE ZAO 0 ⟨[(0,(.ro 4 Bool.false x0)),(1,(.ro 4 Bool.false x1)),(5,(.i .i64 x2))],[]⟩
theorem ZBS (x0 x1:Rows) (x2:Int):Z97 x0 x1 x2=(bif(ltI x2 (lenI x0))then(bif(inR x2 (lenI x0))then(bif(inR x2 (lenI x1))then(bif(!(eqBo (gb (at' x0 (tn x2))) (gb (at' x1 (tn x2)))))then(some [(.bool Bool.false)])else(Z97 x0 x1 (w64 (x2+1))))else none)else none)else(some [(.bool Bool.true)])):=(loopK_run (by kernel_rfl)).trans (by kernel_rfl)
theorem ZFb (a0 a1:Rows):callI tE ZAO [.sl a0,.sl a1]=(bif(!(eqI (lenI a0) (lenI a1)))then(some [(.bool Bool.false)])else(Z97 a0 a1 0)):=(callI_run rfl (by kernel_rfl)).trans (by kernel_rfl)
noncomputable def Z8V (x0 x1:Int) (x2:Rows):Option (List Dat):=loopK tE Z5m 0 ⟨[(0,(.own (1000000,0))),(1,(.i .i64 x0)),(5,(.i .i64 x1))],[((1000000,0),(.row 224 x2 Bool.true 0 []))]⟩
theorem ZAy (x0 x1:Int) (x2:Rows):Z8V x0 x1 x2=(bif(ltI x1 (lenI x2))then(bif(inR x1 (lenI x2))then(bif(inR x1 (lenI (updR x2 (tn x1) 0 [(.int x0)])))then(bif(inR x1 (lenI (updR (updR x2 (tn x1) 0 [(.int x0)]) (tn x1) 1 [(.int (w64 (x0+1)))])))then(Z8V (w64 ((w64 ((w64 (x0+1))+1))+1)) (w64 (x1+1)) (updR (updR (updR x2 (tn x1) 0 [(.int x0)]) (tn x1) 1 [(.int (w64 (x0+1)))]) (tn x1) 2 [(.int (w64 ((w64 (x0+1))+1)))]))else none)else none)else none)else(some [(.int x0),(.sl x2)])):=(loopK_run (by kernel_rfl)).trans (by kernel_rfl)
theorem ZEm (a0:Rows) (a1:Int):callI tE Z5m [.sl a0,.int a1]=(Z8V a1 0 a0):=(callI_run rfl (by kernel_rfl)).trans (by kernel_rfl)
noncomputable def Z82 (x0 x1:Int) (x2:Rows):Option (List Dat):=loopK tE Z90 0 ⟨[(0,(.own (1000000,0))),(1,(.i .i64 x0)),(5,(.i .i64 x1))],[((1000000,0),(.row 4 x2 Bool.true 0 []))]⟩
theorem ZAc (x0 x1:Int) (x2:Rows):Z82 x0 x1 x2=(bif(ltI x1 (lenI x2))then(bif(inR x1 (lenI x2))then(Z82 (w64 (x0+1)) (w64 (x1+1)) (updR x2 (tn x1) 0 [(.bool (eqI (Int.tmod x0 3) 0))]))else none)else(some [(.int x0),(.sl x2)])):=(loopK_run (by kernel_rfl)).trans (by kernel_rfl)
theorem ZEL (a0:Rows) (a1:Int):callI tE Z90 [.sl a0,.int a1]=(Z82 a1 0 a0):=(callI_run rfl (by kernel_rfl)).trans (by kernel_rfl)
noncomputable def Z8W (x0:Rows) (x1 x2:Int):Option (List Dat):=loopK tE Z5t 0 ⟨[(0,(.ro 224 Bool.false x0)),(1,(.i .i64 x1)),(5,(.i .i64 x2))],[]⟩
theorem ZAz (x0:Rows) (x1 x2:Int):Z8W x0 x1 x2=(bif(ltI x2 (lenI x0))then(bif(inR x2 (lenI x0))then(bif(!(eqI (gn (at' x0 (tn x2))) x1))then(some [(.int (-1))])else(bif(inR x2 (lenI x0))then(bif(!(eqI (gn (List.drop 1 (at' x0 (tn x2)))) (w64 (x1+1))))then(some [(.int (-1))])else(bif(inR x2 (lenI x0))then(bif(!(eqI (gn (List.drop 2 (at' x0 (tn x2)))) (w64 ((w64 (x1+1))+1))))then(some [(.int (-1))])else(Z8W x0 (w64 ((w64 ((w64 (x1+1))+1))+1)) (w64 (x2+1))))else none))else none))else none)else(some [(.int x1)])):=(loopK_run (by kernel_rfl)).trans (by kernel_rfl)
theorem ZEn (a0:Rows) (a1:Int):callI tE Z5t [.sl a0,.int a1]=(Z8W a0 a1 0):=(callI_run rfl (by kernel_rfl)).trans (by kernel_rfl)
noncomputable def Z83 (x0:Rows) (x1 x2:Int):Option (List Dat):=loopK tE Z93 0 ⟨[(0,(.ro 4 Bool.false x0)),(1,(.i .i64 x1)),(5,(.i .i64 x2))],[]⟩
theorem ZAd (x0:Rows) (x1 x2:Int):Z83 x0 x1 x2=(bif(ltI x2 (lenI x0))then(bif(inR x2 (lenI x0))then(bif(!(eqBo (gb (at' x0 (tn x2))) (eqI (Int.tmod x1 3) 0)))then(some [(.int (-1))])else(Z83 x0 (w64 (x1+1)) (w64 (x2+1))))else none)else(some [(.int x1)])):=(loopK_run (by kernel_rfl)).trans (by kernel_rfl)
theorem ZEM (a0:Rows) (a1:Int):callI tE Z93 [.sl a0,.int a1]=(Z83 a0 a1 0):=(callI_run rfl (by kernel_rfl)).trans (by kernel_rfl)
theorem ZKY (n:Int) (r:List Dat):gn (.int n::r)=n:=rfl
theorem ZLQ (b:Bool) (r:List Dat):gb (.bool b::r)=b:=rfl
theorem ZLR (s:ByteArray) (r:List Dat):gs (.str s::r)=s:=rfl
theorem ZLS (l:Rows) (r:List Dat):gl (.sl l::r)=l:=rfl
theorem ZLT (l:List Dat):tk 0 l=l:=rfl
theorem ZLU (k:Nat) (a:Dat) (l:List Dat):tk (k+1) (a::l)=tk k l:=rfl
theorem ZKZ {α β:Type} (a:α) (f:α→Option β):(some a).bind f=f a:=rfl
theorem gA:(∀(n:Int) (r:List Dat),gn (.int n::r)=n)∧(∀(b:Bool) (r:List Dat),gb (.bool b::r)=b)∧(∀(s:ByteArray) (r:List Dat),gs (.str s::r)=s)∧(∀(l:Rows) (r:List Dat),gl (.sl l::r)=l)∧(∀l:List Dat,tk 0 l=l)∧(∀(k:Nat) (a:Dat) (l:List Dat),tk (k+1) (a::l)=tk k l)∧(∀{α β:Type} (a:α) (f:α→Option β),(some a).bind f=f a)∧(∀{α:Type} (k:Nat) (a:α) (l:List α),List.drop (k+1) (a::l)=List.drop k l)∧(∀{α:Type} (l:List α),List.drop 0 l=l)∧(∀{α:Type} (a d:α) (l:List α),(a::l).headD d=a)∧(∀{α:Type} (a d:α) (l:List α),(a::l).getD 0 d=a)∧∀{α:Type} (k:Nat) (a d:α) (l:List α),(a::l).getD (k+1) d=l.getD k d:=
 ⟨ZKY,ZLQ,ZLR,ZLS,ZLT,ZLU,ZKZ,fun _ _ _=>rfl,fun _=>rfl,fun _ _ _=>rfl,fun _ _ _=>rfl,fun _ _ _ _=>rfl⟩
theorem ltT {a b:Int} (h:a<b):ltI a b=true:=by simpa[ltI]using h
theorem ltF {a b:Int} (h:b≤a):ltI a b=false:=by simpa[ltI]using h
theorem leT {a b:Int} (h:a≤b):leI a b=true:=by simpa[leI]using h
theorem leF {a b:Int} (h:b<a):leI a b=false:=by simpa[leI]using h
theorem eqT {a b:Int} (h:a=b):eqI a b=true:=by simpa[eqI]using h
theorem eqF {a b:Int} (h:a≠b):eqI a b=false:=by simpa[eqI]using h
theorem Z6n (a:Int):eqI a a=true:=by simp[eqI]
theorem Z8k (a:Bool):eqBo a a=true:=by simp[eqBo]
theorem ZLV {a b:Nat} (h:a≤b):leN a b=true:=by simpa[leN]using h
theorem Z9y {n b:Nat} (h:n*b≤70368744177664):fitM n b=true:=ZLV h
theorem ZFc {i n:Int} (h:0≤i) (h2:i<n):inR i n=true:=by simp[inR,leT h,ltT h2]
theorem Z6v (i:Nat):tn (i:Int)=i:=rfl
theorem Z5W {n:Int} (h: -9223372036854775808≤n∧n≤9223372036854775807):w64 n=n:=wrap64 ⟨h.1,by omega⟩
theorem Z7x {i:Nat} (h:i<9223372036854775807):w64 ((i:Int)+1)=((i+1:Nat):Int):=by
 rw[Z5W ⟨by omega,by omega⟩];omega
theorem ZGk {α:Type} (b:Bool) (x y:α):(bif !b then x else y)=bif b then y else x:=by cases b<;>rfl
theorem Z68 (p q:Rows) (r:List Dat):at' (p++r::q) p.length=r:=by
 simp[List.getD_eq_getElem?_getD]
theorem Z6H (p q:Rows) (r:List Dat):ltI (p.length:Int) (lenI (p++r::q))=true:=ltT (by show(p.length:Int)<((p++r::q).length:Int);simp only[List.length_append,List.length_cons];omega)
theorem Z6C (p q:Rows) (r:List Dat):inR (p.length:Int) (lenI (p++r::q))=true:=ZFc (by omega) (by show(p.length:Int)<((p++r::q).length:Int);simp only[List.length_append,List.length_cons];omega)
theorem Z6I (p:Rows):ltI (p.length:Int) (lenI p)=false:=ltF (Int.le_refl _)
theorem ZBT (p q:Rows) (r:List Dat) (c:Nat) (ds:List Dat):updR (p++r::q) p.length c ds=p++setRange r c ds::q:=by
 unfold updR
 rw[show(p++r::q).getD p.length []=r from Z68 p q r,List.set_append_right _ _ (Nat.le_refl _)]
 simp
theorem ZDP (p:Rows) (r:List Dat):(p++[r]).length=p.length+1:=by simp
theorem ZEo {α:Type} (p q:List α) (r:α):p++r::q=(p++[r])++q:=by simp
section
variable {α β:Type} {e:α→List Dat}
theorem ZDQ (u v:List α) (a:α):at' ((u++a::v).map e) u.length=e a:=by
 simp[List.getD_eq_getElem?_getD]
theorem ZE8 (u v:List α) (a:α):ltI (u.length:Int) (lenI ((u++a::v).map e))=true:=ltT (by show(u.length:Int)<(((u++a::v).map e).length:Int);simp only[List.length_append,List.length_cons,List.length_map];omega)
theorem ZDq (u v:List α) (a:α):inR (u.length:Int) (lenI ((u++a::v).map e))=true:=ZFc (by omega) (by show(u.length:Int)<(((u++a::v).map e).length:Int);simp only[List.length_append,List.length_cons,List.length_map];omega)
theorem ZE9 (l:List α):ltI (l.length:Int) (lenI (l.map e))=false:=ltF (by simp)
theorem ZLA (u v:List α) (a:α) (c:Nat) (ds:List Dat):updR ((u++a::v).map e) u.length c ds=u.map e++setRange (e a) c ds::v.map e:=by
 have:=ZBT (u.map e) (v.map e) (e a) c ds
 simpa using this
theorem Z98 {σ:Type} {L:σ→Int→Option β} {F:σ→List α→Option β} {I:σ→List α→List α→Prop} {l:List α} (hn:l.length<9223372036854775807)
  (hs:∀(u:List α) (a:α) (v:List α) (s:σ),l=u++a::v→I s u (a::v)→(∃s',L s u.length=L s' (w64 (u.length+1))∧I s' (u++[a]) v∧F s (a::v)=F s' v)∨L s u.length=F s (a::v))
  (he:∀s,I s l []→L s l.length=F s []) (s:σ) (h0:I s [] l):L s 0=F s l:=by
 have key:∀(v u:List α) (s:σ),l=u++v→I s u v→L s (u.length:Nat)=F s v:=by
  intro v
  induction v with
  |nil=>
   intro u s h hI
   rw[List.append_nil]at h
   subst h
   exact he s hI
  |cons a v ih=>
   intro u s h hI
   have hl:u.length<l.length:=by rw[h];simp
   rcases hs u a v s h hI with ⟨s',h1,h2,h3⟩|h1
   ·rw[h1,Z7x (by omega),h3]
    have:=ih (u++[a]) s' (by rw[h];simp) h2
    rw[List.length_append]at this
    exact this
   ·exact h1
 exact key l [] s rfl h0
theorem ZCr {L:Int→Option β} {p:α→Bool} {no yes:Option β} {l:List α} (hn:l.length<9223372036854775807)
  (hs:∀(u:List α) (a:α) (v:List α),l=u++a::v→L u.length=bif p a then L (w64 (u.length+1))else no) (he:L l.length=yes):L 0=bif l.all p then yes else no:=
 Z98 (σ:=Unit) (L:=fun _=>L) (F:=fun _ v=>bif v.all p then yes else no) (I:=fun _ _ _=>True) hn (fun u a v _ h _=>by
  have:=hs u a v h
  cases hp:p a
  ·exact .inr (by rw[this,hp];simp[hp])
  ·exact .inl ⟨(),by rw[this,hp];rfl,trivial,by simp[hp]⟩) (fun _ _=>by simpa using he) () trivial
end
def BdL {α:Type} (p:α→Prop) (l:List α):Prop:=l.length≤1152921504606846976∧∀a∈l,p a
def BdT (_:Bool):Prop:=True
def mkL {α:Type} (f:α→Int→α) (c:α→Nat):List α→Int→List α
 |[],_=>[]
 |a::l,k=>f a k::mkL f c l (k+c a)
def Za {α:Type} (c:α→Nat):List α→Nat
 |[]=>0
 |a::l=>c a+Za c l
def szL {α:Type} (f:α→Nat):List α→Nat
 |[]=>0
 |a::l=>1+f a+szL f l
theorem Z63 {α:Type} (f:α→Nat):∀l:List α,l.length≤szL f l
 |[]=>Nat.le_refl _
 |a::l=>by have:=Z63 f l;simp only[List.length_cons,szL];omega
theorem Z9p {α:Type}:∀l:List α,szL (fun _=>0) l=l.length
 |[]=>rfl
 |a::l=>by simp only[szL,Z9p l,List.length_cons];omega
theorem Z8K {α:Type} {f:α→Nat}:∀{l:List α} {a:α},a∈l→f a≤szL f l
 |b::l,a,h=>by
  rcases List.mem_cons.mp h with rfl|h
  ·simp only[szL];omega
  ·have:=Z8K (f:=f) h;simp only[szL];omega
theorem ZDR {α:Type} (f:α→Nat) (u v:List α):szL f (u++v)=szL f u+szL f v:=by
 induction u with
 |nil=>simp[szL]
 |cons a u ih=>simp only[List.cons_append,szL,ih];omega
section
variable {α:Type} {e:α→List Dat} {f:α→Int→α} {c g:α→Nat}
theorem Z8l {L:Int→Int→Rows→Option (List Dat)} (hs:∀(p q:Rows) (a:α) (k:Int),0≤k→k+c a<4611686018427387904→g a≤1152921504606846976→p.length<4611686018427387904→L k p.length (p++e a::q)=L (k+c a) (w64 (p.length+1)) (p++e (f a k)::q))
  (he:∀p k,L k p.length p=some [.int k,.sl p]):∀(l:List α) (p:Rows) (k:Int),0≤k→k+Za c l<4611686018427387904→szL g l≤1152921504606846976→p.length+l.length<4611686018427387904→
   L k p.length (p++l.map e)=some [.int (k+Za c l),.sl (p++(mkL f c l k).map e)]
 |[],p,k,_,_,_,_=>by simpa[Za,mkL]using he p k
 |a::l,p,k,h0,h1,h2,h3=>by
  simp only[Za,szL,List.length_cons]at h1 h2 h3
  have:=hs p (l.map e) a k h0 (by omega) (by omega) (by omega)
  rw[List.map_cons,this,Z7x (by omega),ZEo]
  have ih:=Z8l hs he l (p++[e (f a k)]) (k+c a) (by omega) (by omega) (by omega) (by simp;omega)
  rw[ZDP]at ih
  rw[ih]
  have e1:k+(c a:Int)+(Za c l:Int)=k+((c a+Za c l:Nat):Int):=by omega
  simp only[Za,mkL,List.map_cons,List.append_assoc,List.singleton_append,e1]
theorem Z8m {L:Rows→Int→Int→Option (List Dat)} (hs:∀(p q:Rows) (a:α) (k:Int),0≤k→k+c a<4611686018427387904→g a≤1152921504606846976→p.length<4611686018427387904→L (p++e (f a k)::q) k p.length=L (p++e (f a k)::q) (k+c a) (w64 (p.length+1)))
  (he:∀p k,L p k p.length=some [.int k]):∀(l:List α) (p:Rows) (k:Int),0≤k→k+Za c l<4611686018427387904→szL g l≤1152921504606846976→p.length+l.length<4611686018427387904→
   L (p++(mkL f c l k).map e) k p.length=some [.int (k+Za c l)]
 |[],p,k,_,_,_,_=>by simpa[Za,mkL]using he p k
 |a::l,p,k,h0,h1,h2,h3=>by
  simp only[Za,szL,List.length_cons]at h1 h2 h3
  have:=hs p ((mkL f c l (k+c a)).map e) a k h0 (by omega) (by omega) (by omega)
  simp only[mkL,List.map_cons]
  rw[this,Z7x (by omega),ZEo]
  have ih:=Z8m hs he l (p++[e (f a k)]) (k+c a) (by omega) (by omega) (by omega) (by simp;omega)
  rw[ZDP]at ih
  rw[ih]
  simp only[Za]
  rw[show k+(c a:Int)+(Za c l:Int)=k+((c a+Za c l:Nat):Int)by omega]
theorem ZC2 {L:Rows→Int→Rows→Option (List Dat)} {z:List Dat} {P:α→Prop} (hs:∀(p q p' q':Rows) (a:α),P a→p.length=p'.length→p.length<4611686018427387904→L (p++e a::q) p.length (p'++z::q')=L (p++e a::q) (w64 (p.length+1)) (p'++e a::q'))
  (he:∀p p',p.length=p'.length→L p p.length p'=some [.sl p']):∀(l:List α) (p p':Rows),p.length=p'.length→(∀a∈l,P a)→p.length+l.length<4611686018427387904→
   L (p++l.map e) p.length (p'++List.replicate l.length z)=some [.sl (p'++l.map e)]
 |[],p,p',h,_,_=>by simpa using he p p' h
 |a::l,p,p',h,hP,h3=>by
  simp only[List.length_cons]at h3
  rw[List.map_cons,List.length_cons,List.replicate_succ,hs p (l.map e) p' (List.replicate l.length z) a (hP a (by simp)) h (by omega),Z7x (by omega),ZEo,ZEo p']
  have ih:=ZC2 hs he l (p++[e a]) (p'++[e a]) (by simp[h]) (fun b hb=>hP b (by simp[hb])) (by simp;omega)
  rw[ZDP]at ih
  rw[ih]
  simp only[List.append_assoc,List.singleton_append]
theorem ZA9 [DecidableEq α] {L:Rows→Rows→Int→Option (List Dat)} {P:α→Prop} (hs:∀(p q p' q':Rows) (a b:α),P a→p.length=p'.length→p.length<4611686018427387904→L (p++e a::q) (p'++e b::q') p.length=bif decide (a=b)then L (p++e a::q) (p'++e b::q') (w64 (p.length+1))else some [.bool false])
  (he:∀p p',p.length=p'.length→L p p' p.length=some [.bool true]):∀(l l':List α) (p p':Rows),p.length=p'.length→l.length=l'.length→(∀a∈l,P a)→p.length+l.length<4611686018427387904→
   L (p++l.map e) (p'++l'.map e) p.length=some [.bool (decide (l=l'))]
 |[],[],p,p',h,_,_,_=>by simpa using he p p' h
 |[],_::_,_,_,_,h,_,_=>by simp at h
 |_::_,[],_,_,_,h,_,_=>by simp at h
 |a::l,b::l',p,p',h,hl,hP,h3=>by
  simp only[List.length_cons]at h3 hl
  rw[List.map_cons,List.map_cons,hs p (l.map e) p' (l'.map e) a b (hP a (by simp)) h (by omega)]
  by_cases hab:a=b
  ·rw[decide_eq_true hab,cond_true,Z7x (by omega),ZEo,ZEo p']
   have ih:=ZA9 hs he l l' (p++[e a]) (p'++[e b]) (by simp[h]) (by omega) (fun b hb=>hP b (by simp[hb])) (by simp;omega)
   rw[ZDP]at ih
   rw[ih]
   simp[hab]
  ·rw[decide_eq_false hab,cond_false]
   simp[hab]
def szv (n:Int) (s:Nat):Int:=if(s:Int)≤n then n-s else-1
theorem ZKa {n:Int} (h:0≤n):szv n 0=n:=by simp[szv,h]
theorem Z7R {n:Int} {a b:Nat} (_hn:0≤n) {X:Option (List Dat)} (hX:(a:Int)≤n→szv n a=n-a→X=some [.int (szv (n-a) b)]):(bif ltI (szv n a) 0 then some [.int (-1)]else X)=some [.int (szv n (a+b))]:=by
 by_cases h:(a:Int)≤n
 ·have e1:szv n a=n-a:=if_pos h
  rw[ltF (by rw[e1];omega),cond_false,hX h e1]
  congr 2
  unfold szv
  by_cases h2:(b:Int)≤n-a
  ·rw[if_pos h2,if_pos (by omega)];congr 1;omega
  ·rw[if_neg h2,if_neg (by omega)]
 ·have e1:szv n a= -1:=if_neg h
  rw[ltT (by rw[e1];decide),cond_true]
  unfold szv
  rw[if_neg (by omega)]
theorem ZBU {n:Int} {a:Nat} (hn:0≤n):(bif ltI (szv n a) 0 then some [Dat.int (-1)]else some [.int (szv n a)])=some [.int (szv n a)]:=by
 have:=Z7R (b:=0) hn (X:=some [.int (szv n a)]) (a:=a) (fun h h1=>by rw[h1,ZKa (by omega)])
 simpa using this
theorem ZEp {L:Rows→Int→Int→Option (List Dat)} {P:α→Prop} (hs:∀(p q:Rows) (a:α) (n:Int),P a→0≤n→n≤1048576→p.length<4611686018427387904→L (p++e a::q) n p.length=bif ltI (szv n (g a)) 0 then some [.int (-1)]else L (p++e a::q) (szv n (g a)) (w64 (p.length+1)))
  (he:∀p n,L p n p.length=some [.int n]):∀(l:List α) (p:Rows) (n:Int),(∀a∈l,P a)→0≤n→n≤1048576→p.length+l.length<4611686018427387904→
   L (p++l.map e) n p.length=some [.int (szv n (Za g l))]
 |[],p,n,_,h0,_,_=>by rw[List.map_nil,List.append_nil,he,Za,ZKa h0]
 |a::l,p,n,hP,h0,h1,h3=>by
  simp only[List.length_cons]at h3
  rw[List.map_cons,hs p (l.map e) a n (hP a (by simp)) h0 h1 (by omega)]
  refine Z7R h0 fun h2 h4=>?_
  rw[h4,Z7x (by omega),ZEo]
  have ih:=ZEp hs he l (p++[e a]) (n-g a) (fun b hb=>hP b (by simp[hb])) (by omega) (by omega) (by simp;omega)
  rw[ZDP]at ih
  exact ih
theorem ZEq (g:α→Nat):∀l:List α,szL g l=l.length+Za g l
 |[]=>rfl
 |a::l=>by simp only[szL,ZEq g l,List.length_cons,Za];omega
theorem Z9N (p q:Bool):(bif !p then some [Dat.bool false]else some [.bool q])=some [.bool (p&&q)]:=by cases p<;>rfl
end
def boE (b:Bool):List Dat:=[.bool b]
def c1 {α:Type} (_:α):Nat:=1
def mkB (_:Bool) (k:Int):Bool:=eqI (Int.tmod k 3) 0
structure Rw where
 k:Int
 v:Int
 w:Int
 deriving DecidableEq
def Rw.e (x:Rw):List Dat:=[.int x.k,.int x.v,.int x.w]
def Rw.bd (x:Rw):Prop:=I64 x.k∧I64 x.v∧I64 x.w
def Rw.mkm (_x:Rw) (k:Int):Rw:=⟨k,k+1,k+1+1⟩
def Rw.ct (_x:Rw):Nat:=1+1+1
def rsB (l:List Rw):Prop:=BdL Rw.bd l
def rsE (l:List Rw):List Dat:=[.sl (l.map Rw.e)]
structure Pr where
 l:Rw
 r:Rw
 m:Bool
 deriving DecidableEq
def Pr.e (x:Pr):List Dat:=[.int x.l.k,.int x.l.v,.int x.l.w,.int x.r.k,.int x.r.v,.int x.r.w,.bool x.m]
def Pr.bd (x:Pr):Prop:=Rw.bd x.l∧Rw.bd x.r∧BdT x.m
def Pr.mkm (_x:Pr) (k:Int):Pr:=⟨⟨k,k+1,k+1+1⟩,⟨k+1+1+1,k+1+1+1+1,k+1+1+1+1+1⟩,eqI (Int.tmod (k+1+1+1+1+1+1) 3) 0⟩
def Pr.ct (_x:Pr):Nat:=1+1+1+1+1+1+1
structure Gr where
 key:Int
 cnt:Int
 sum:Int
 lo:Int
 hi:Int
 deriving DecidableEq
def Gr.e (x:Gr):List Dat:=[.int x.key,.int x.cnt,.int x.sum,.int x.lo,.int x.hi]
def Gr.bd (x:Gr):Prop:=I64 x.key∧I64 x.cnt∧I64 x.sum∧I64 x.lo∧I64 x.hi
def Gr.mkm (_x:Gr) (k:Int):Gr:=⟨k,k+1,k+1+1,k+1+1+1,k+1+1+1+1⟩
def Gr.ct (_x:Gr):Nat:=1+1+1+1+1
structure Cl where
 id:Int
 req:Int
 prio:Int
 deriving DecidableEq
def Cl.e (x:Cl):List Dat:=[.int x.id,.int x.req,.int x.prio]
def Cl.bd (x:Cl):Prop:=I64 x.id∧I64 x.req∧I64 x.prio
def Cl.mkm (_x:Cl) (k:Int):Cl:=⟨k,k+1,k+1+1⟩
def Cl.ct (_x:Cl):Nat:=1+1+1
structure Tk where
 kind:Int
 left:List Rw
 right:List Rw
 mat:List Bool
 level:Int
 deriving DecidableEq
def Tk.e (x:Tk):List Dat:=[.int x.kind,.sl (x.left.map Rw.e),.sl (x.right.map Rw.e),.sl (x.mat.map boE),.int x.level]
def Tk.sz (x:Tk):Nat:=x.left.length+(x.right.length+(x.mat.length))
def Tk.bd (x:Tk):Prop:=I64 x.kind∧BdL Rw.bd x.left∧BdL Rw.bd x.right∧BdL BdT x.mat∧I64 x.level
def Tk.mkm (x:Tk) (k:Int):Tk:=⟨k,mkL Rw.mkm Rw.ct x.left (k+1),mkL Rw.mkm Rw.ct x.right (k+1+(Za Rw.ct x.left:Nat)),mkL mkB c1 x.mat (k+1+(Za Rw.ct x.left:Nat)+(Za Rw.ct x.right:Nat)),k+1+(Za Rw.ct x.left:Nat)+(Za Rw.ct x.right:Nat)+(Za c1 x.mat:Nat)⟩
def Tk.ct (x:Tk):Nat:=1+Za Rw.ct x.left+Za Rw.ct x.right+Za c1 x.mat+1
structure Gt where
 rows:List Rw
 level:Int
 deriving DecidableEq
def Gt.e (x:Gt):List Dat:=[.sl (x.rows.map Rw.e),.int x.level]
def Gt.sz (x:Gt):Nat:=x.rows.length
def Gt.bd (x:Gt):Prop:=BdL Rw.bd x.rows∧I64 x.level
def Gt.mkm (x:Gt) (k:Int):Gt:=⟨mkL Rw.mkm Rw.ct x.rows k,k+(Za Rw.ct x.rows:Nat)⟩
def Gt.ct (x:Gt):Nat:=Za Rw.ct x.rows+1
structure So where
 inp:List Rw
 pos:Int
 heap:List Rw
 dfd:List Rw
 out:List Rw
 runs:List (List Rw)
 lp:Int
 rp:Int
 ph:Int
 wr:Int
 deriving DecidableEq
def So.e (x:So):List Dat:=[.sl (x.inp.map Rw.e),.int x.pos,.sl (x.heap.map Rw.e),.sl (x.dfd.map Rw.e),.sl (x.out.map Rw.e),.sl (x.runs.map rsE),.int x.lp,.int x.rp,.int x.ph,.int x.wr]
def So.sz (x:So):Nat:=x.inp.length+(x.heap.length+(x.dfd.length+(x.out.length+(szL List.length x.runs))))
def So.bd (x:So):Prop:=BdL Rw.bd x.inp∧I64 x.pos∧BdL Rw.bd x.heap∧BdL Rw.bd x.dfd∧BdL Rw.bd x.out∧BdL rsB x.runs∧I64 x.lp∧I64 x.rp∧I64 x.ph∧I64 x.wr
structure Jn where
 pend:List Tk
 wr:Int
 parts:Int
 deriving DecidableEq
def Jn.e (x:Jn):List Dat:=[.sl (x.pend.map Tk.e),.int x.wr,.int x.parts]
def Jn.sz (x:Jn):Nat:=szL Tk.sz x.pend
def Jn.bd (x:Jn):Prop:=BdL Tk.bd x.pend∧I64 x.wr∧I64 x.parts
structure Ag where
 pend:List Gt
 wr:Int
 early:Bool
 deriving DecidableEq
def Ag.e (x:Ag):List Dat:=[.sl (x.pend.map Gt.e),.int x.wr,.bool x.early]
def Ag.sz (x:Ag):Nat:=szL Gt.sz x.pend
def Ag.bd (x:Ag):Prop:=BdL Gt.bd x.pend∧I64 x.wr∧BdT x.early
structure Opr where
 kind:Int
 so:So
 jn:Jn
 ag:Ag
 deriving DecidableEq
def Opr.e (x:Opr):List Dat:=[.int x.kind,.sl (x.so.inp.map Rw.e),.int x.so.pos,.sl (x.so.heap.map Rw.e),.sl (x.so.dfd.map Rw.e),.sl (x.so.out.map Rw.e),.sl (x.so.runs.map rsE),.int x.so.lp,.int x.so.rp,.int x.so.ph,.int x.so.wr,.sl (x.jn.pend.map Tk.e),.int x.jn.wr,.int x.jn.parts,.sl (x.ag.pend.map Gt.e),.int x.ag.wr,.bool x.ag.early]
def Opr.sz (x:Opr):Nat:=So.sz x.so+(Jn.sz x.jn+(Ag.sz x.ag))
def Opr.bd (x:Opr):Prop:=I64 x.kind∧So.bd x.so∧Jn.bd x.jn∧Ag.bd x.ag
structure Ou where
 rows:List Rw
 pairs:List Pr
 groups:List Gr
 deriving DecidableEq
def Ou.e (x:Ou):List Dat:=[.sl (x.rows.map Rw.e),.sl (x.pairs.map Pr.e),.sl (x.groups.map Gr.e)]
def Ou.sz (x:Ou):Nat:=x.rows.length+(x.pairs.length+(x.groups.length))
def Ou.bd (x:Ou):Prop:=BdL Rw.bd x.rows∧BdL Pr.bd x.pairs∧BdL Gr.bd x.groups
structure Sl where
 id:Int
 op:Opr
 out:Ou
 done:Bool
 deriving DecidableEq
def Sl.e (x:Sl):List Dat:=[.int x.id,.int x.op.kind,.sl (x.op.so.inp.map Rw.e),.int x.op.so.pos,.sl (x.op.so.heap.map Rw.e),.sl (x.op.so.dfd.map Rw.e),.sl (x.op.so.out.map Rw.e),.sl (x.op.so.runs.map rsE),.int x.op.so.lp,.int x.op.so.rp,.int x.op.so.ph,.int x.op.so.wr,.sl (x.op.jn.pend.map Tk.e),.int x.op.jn.wr,.int x.op.jn.parts,.sl (x.op.ag.pend.map Gt.e),.int x.op.ag.wr,.bool x.op.ag.early,.sl (x.out.rows.map Rw.e),.sl (x.out.pairs.map Pr.e),.sl (x.out.groups.map Gr.e),.bool x.done]
def Sl.sz (x:Sl):Nat:=Opr.sz x.op+(Ou.sz x.out)
def Sl.bd (x:Sl):Prop:=I64 x.id∧Opr.bd x.op∧Ou.bd x.out∧BdT x.done
def Sl.mkm (x:Sl) (k:Int):Sl:=⟨k,⟨k+1,⟨mkL Rw.mkm Rw.ct x.op.so.inp (k+1+1),k+1+1+(Za Rw.ct x.op.so.inp:Nat),mkL Rw.mkm Rw.ct x.op.so.heap (k+1+1+(Za Rw.ct x.op.so.inp:Nat)+1),mkL Rw.mkm Rw.ct x.op.so.dfd (k+1+1+(Za Rw.ct x.op.so.inp:Nat)+1+(Za Rw.ct x.op.so.heap:Nat)),mkL Rw.mkm Rw.ct x.op.so.out (k+1+1+(Za Rw.ct x.op.so.inp:Nat)+1+(Za Rw.ct x.op.so.heap:Nat)+(Za Rw.ct x.op.so.dfd:Nat)),mkL (mkL Rw.mkm Rw.ct) (Za Rw.ct) x.op.so.runs (k+1+1+(Za Rw.ct x.op.so.inp:Nat)+1+(Za Rw.ct x.op.so.heap:Nat)+(Za Rw.ct x.op.so.dfd:Nat)+(Za Rw.ct x.op.so.out:Nat)),k+1+1+(Za Rw.ct x.op.so.inp:Nat)+1+(Za Rw.ct x.op.so.heap:Nat)+(Za Rw.ct x.op.so.dfd:Nat)+(Za Rw.ct x.op.so.out:Nat)+(Za (Za Rw.ct) x.op.so.runs:Nat),k+1+1+(Za Rw.ct x.op.so.inp:Nat)+1+(Za Rw.ct x.op.so.heap:Nat)+(Za Rw.ct x.op.so.dfd:Nat)+(Za Rw.ct x.op.so.out:Nat)+(Za (Za Rw.ct) x.op.so.runs:Nat)+1,k+1+1+(Za Rw.ct x.op.so.inp:Nat)+1+(Za Rw.ct x.op.so.heap:Nat)+(Za Rw.ct x.op.so.dfd:Nat)+(Za Rw.ct x.op.so.out:Nat)+(Za (Za Rw.ct) x.op.so.runs:Nat)+1+1,k+1+1+(Za Rw.ct x.op.so.inp:Nat)+1+(Za Rw.ct x.op.so.heap:Nat)+(Za Rw.ct x.op.so.dfd:Nat)+(Za Rw.ct x.op.so.out:Nat)+(Za (Za Rw.ct) x.op.so.runs:Nat)+1+1+1⟩,⟨mkL Tk.mkm Tk.ct x.op.jn.pend (k+1+1+(Za Rw.ct x.op.so.inp:Nat)+1+(Za Rw.ct x.op.so.heap:Nat)+(Za Rw.ct x.op.so.dfd:Nat)+(Za Rw.ct x.op.so.out:Nat)+(Za (Za Rw.ct) x.op.so.runs:Nat)+1+1+1+1),k+1+1+(Za Rw.ct x.op.so.inp:Nat)+1+(Za Rw.ct x.op.so.heap:Nat)+(Za Rw.ct x.op.so.dfd:Nat)+(Za Rw.ct x.op.so.out:Nat)+(Za (Za Rw.ct) x.op.so.runs:Nat)+1+1+1+1+(Za Tk.ct x.op.jn.pend:Nat),k+1+1+(Za Rw.ct x.op.so.inp:Nat)+1+(Za Rw.ct x.op.so.heap:Nat)+(Za Rw.ct x.op.so.dfd:Nat)+(Za Rw.ct x.op.so.out:Nat)+(Za (Za Rw.ct) x.op.so.runs:Nat)+1+1+1+1+(Za Tk.ct x.op.jn.pend:Nat)+1⟩,⟨mkL Gt.mkm Gt.ct x.op.ag.pend (k+1+1+(Za Rw.ct x.op.so.inp:Nat)+1+(Za Rw.ct x.op.so.heap:Nat)+(Za Rw.ct x.op.so.dfd:Nat)+(Za Rw.ct x.op.so.out:Nat)+(Za (Za Rw.ct) x.op.so.runs:Nat)+1+1+1+1+(Za Tk.ct x.op.jn.pend:Nat)+1+1),k+1+1+(Za Rw.ct x.op.so.inp:Nat)+1+(Za Rw.ct x.op.so.heap:Nat)+(Za Rw.ct x.op.so.dfd:Nat)+(Za Rw.ct x.op.so.out:Nat)+(Za (Za Rw.ct) x.op.so.runs:Nat)+1+1+1+1+(Za Tk.ct x.op.jn.pend:Nat)+1+1+(Za Gt.ct x.op.ag.pend:Nat),eqI (Int.tmod (k+1+1+(Za Rw.ct x.op.so.inp:Nat)+1+(Za Rw.ct x.op.so.heap:Nat)+(Za Rw.ct x.op.so.dfd:Nat)+(Za Rw.ct x.op.so.out:Nat)+(Za (Za Rw.ct) x.op.so.runs:Nat)+1+1+1+1+(Za Tk.ct x.op.jn.pend:Nat)+1+1+(Za Gt.ct x.op.ag.pend:Nat)+1) 3) 0⟩⟩,⟨mkL Rw.mkm Rw.ct x.out.rows (k+1+1+(Za Rw.ct x.op.so.inp:Nat)+1+(Za Rw.ct x.op.so.heap:Nat)+(Za Rw.ct x.op.so.dfd:Nat)+(Za Rw.ct x.op.so.out:Nat)+(Za (Za Rw.ct) x.op.so.runs:Nat)+1+1+1+1+(Za Tk.ct x.op.jn.pend:Nat)+1+1+(Za Gt.ct x.op.ag.pend:Nat)+1+1),mkL Pr.mkm Pr.ct x.out.pairs (k+1+1+(Za Rw.ct x.op.so.inp:Nat)+1+(Za Rw.ct x.op.so.heap:Nat)+(Za Rw.ct x.op.so.dfd:Nat)+(Za Rw.ct x.op.so.out:Nat)+(Za (Za Rw.ct) x.op.so.runs:Nat)+1+1+1+1+(Za Tk.ct x.op.jn.pend:Nat)+1+1+(Za Gt.ct x.op.ag.pend:Nat)+1+1+(Za Rw.ct x.out.rows:Nat)),mkL Gr.mkm Gr.ct x.out.groups (k+1+1+(Za Rw.ct x.op.so.inp:Nat)+1+(Za Rw.ct x.op.so.heap:Nat)+(Za Rw.ct x.op.so.dfd:Nat)+(Za Rw.ct x.op.so.out:Nat)+(Za (Za Rw.ct) x.op.so.runs:Nat)+1+1+1+1+(Za Tk.ct x.op.jn.pend:Nat)+1+1+(Za Gt.ct x.op.ag.pend:Nat)+1+1+(Za Rw.ct x.out.rows:Nat)+(Za Pr.ct x.out.pairs:Nat))⟩,eqI (Int.tmod (k+1+1+(Za Rw.ct x.op.so.inp:Nat)+1+(Za Rw.ct x.op.so.heap:Nat)+(Za Rw.ct x.op.so.dfd:Nat)+(Za Rw.ct x.op.so.out:Nat)+(Za (Za Rw.ct) x.op.so.runs:Nat)+1+1+1+1+(Za Tk.ct x.op.jn.pend:Nat)+1+1+(Za Gt.ct x.op.ag.pend:Nat)+1+1+(Za Rw.ct x.out.rows:Nat)+(Za Pr.ct x.out.pairs:Nat)+(Za Gr.ct x.out.groups:Nat)) 3) 0⟩
def Sl.ct (x:Sl):Nat:=1+1+Za Rw.ct x.op.so.inp+1+Za Rw.ct x.op.so.heap+Za Rw.ct x.op.so.dfd+Za Rw.ct x.op.so.out+Za (Za Rw.ct) x.op.so.runs+1+1+1+1+Za Tk.ct x.op.jn.pend+1+1+Za Gt.ct x.op.ag.pend+1+1+Za Rw.ct x.out.rows+Za Pr.ct x.out.pairs+Za Gr.ct x.out.groups+1
structure Br where
 pool:Int
 next:Int
 act:List Cl
 wait:List Cl
 deriving DecidableEq
def Br.e (x:Br):List Dat:=[.int x.pool,.int x.next,.sl (x.act.map Cl.e),.sl (x.wait.map Cl.e)]
def Br.sz (x:Br):Nat:=x.act.length+(x.wait.length)
def Br.bd (x:Br):Prop:=I64 x.pool∧I64 x.next∧BdL Cl.bd x.act∧BdL Cl.bd x.wait
structure Sy where
 br:Br
 slots:List Sl
 round:Int
 deriving DecidableEq
def Sy.e (x:Sy):List Dat:=[.int x.br.pool,.int x.br.next,.sl (x.br.act.map Cl.e),.sl (x.br.wait.map Cl.e),.sl (x.slots.map Sl.e),.int x.round]
def Sy.sz (x:Sy):Nat:=Br.sz x.br+(szL Sl.sz x.slots)
def Sy.bd (x:Sy):Prop:=Br.bd x.br∧BdL Sl.bd x.slots∧I64 x.round
structure Xc where
 pend:List (List Rw)
 que:List (List Rw)
 got:List (List Rw)
 cap:Int
 deriving DecidableEq
def Xc.e (x:Xc):List Dat:=[.sl (x.pend.map rsE),.sl (x.que.map rsE),.sl (x.got.map rsE),.int x.cap]
def Xc.sz (x:Xc):Nat:=szL List.length x.pend+(szL List.length x.que+(szL List.length x.got))
def Xc.bd (x:Xc):Prop:=BdL rsB x.pend∧BdL rsB x.que∧BdL rsB x.got∧I64 x.cap
structure Ck where
 so:So
 em:List Rw
 deriving DecidableEq
def Ck.e (x:Ck):List Dat:=[.sl (x.so.inp.map Rw.e),.int x.so.pos,.sl (x.so.heap.map Rw.e),.sl (x.so.dfd.map Rw.e),.sl (x.so.out.map Rw.e),.sl (x.so.runs.map rsE),.int x.so.lp,.int x.so.rp,.int x.so.ph,.int x.so.wr,.sl (x.em.map Rw.e)]
def Ck.sz (x:Ck):Nat:=So.sz x.so+(x.em.length)
def Ck.bd (x:Ck):Prop:=So.bd x.so∧BdL Rw.bd x.em
theorem Z7J {p p':Rows} (h:p.length=p'.length) (q:Rows) (r:List Dat):inR (p.length:Int) (lenI (p'++r::q))=true:=by rw[h];exact Z6C p' q r
theorem ZAs {p p':Rows} (h:p.length=p'.length) (q:Rows) (r:List Dat):at' (p'++r::q) p.length=r:=by rw[h];exact Z68 p' q r
theorem ZB9 {p p':Rows} (h:p.length=p'.length) (q:Rows) (r:List Dat) (c:Nat) (ds:List Dat):updR (p'++r::q) p.length c ds=p'++setRange r c ds::q:=by rw[h];exact ZBT p' q r c ds
theorem Z5V {α:Type} (e:α→List Dat) (l:List α):lenI (l.map e)=(l.length:Int):=by show((l.map e).length:Int)=_;rw[List.length_map]
theorem ZCP (x:Rows):leI 0 (lenI x)=true:=leT (by show(0:Int)≤(x.length:Int);omega)
theorem ZC6 {α:Type} {e:α→List Dat} {l l':List α} (h:l.length=l'.length):eqI (lenI (l.map e)) (lenI (l'.map e))=true:=eqT (by rw[Z5V,Z5V,h])
theorem ZC7 {α:Type} {e:α→List Dat} {l l':List α} (h:¬l.length=l'.length):eqI (lenI (l.map e)) (lenI (l'.map e))=false:=eqF (by rw[Z5V,Z5V];omega)
theorem ZDS {n:Int} (h:0≤n) (m:Nat):ltI (n+(m:Int)) 0=false:=ltF (by omega)
theorem ZEr {n:Int} {x:Rows} {m:Nat} (h0:0≤n) (h1:n≤1048576) (hx:x.length=m) (h:m≤1152921504606846976):(bif ltI (w64 (n-lenI x)) 0 then some [Dat.int (-1)]else some [.int (w64 (n-lenI x))])=some [.int (szv n m)]:=by
 have e:lenI x=(m:Int):=by show(x.length:Int)=_;rw[hx]
 rw[e,Z5W ⟨by omega,by omega⟩]
 unfold szv
 by_cases h2:(m:Int)≤n
 ·rw[ltF (by omega),if_pos h2];rfl
 ·rw[ltT (by omega),if_neg h2];rfl
theorem ZHY {n:Int} {x:Rows} {m b:Nat} (h0:0≤n) (h1:n≤1048576) (hx:x.length=m) (h:m≤1152921504606846976) {X:Int→Option (List Dat)} (hX:(m:Int)≤n→X (n-m)=some [.int (szv (n-m) b)]):(bif ltI (w64 (n-lenI x)) 0 then some [Dat.int (-1)]else X (w64 (n-lenI x)))=some [.int (szv n (m+b))]:=by
 have e:lenI x=(m:Int):=by show(x.length:Int)=_;rw[hx]
 rw[e,Z5W ⟨by omega,by omega⟩]
 by_cases h2:(m:Int)≤n
 ·have:=Z7R (n:=n) (a:=m) (b:=b) h0 (X:=X (n-m)) (fun _ _=>hX h2)
  have e1:szv n m=n-m:=if_pos h2
  rw[e1]at this
  exact this
 ·rw[ltT (by omega),cond_true]
  unfold szv
  rw[if_neg (by omega)]
set_option maxRecDepth 10000
theorem ZI9 (b:Bool):(bif b then some [Dat.bool true]else some [.bool false])=some [.bool b]:=by cases b<;>rfl
theorem Z5u {α:Type} (e:α→List Dat) (l:List α):len (l.map e)=l.length:=by show(l.map e).length=_;simp
theorem ZDr {α:Type} (e:α→List Dat) (l:List α) (a:α):List.append (l.map e) [e a]=(l++[a]).map e:=by simp
theorem ZEb {α:Type} (e:α→List Dat) (l m:List α):List.append (l.map e) (m.map e)=(l++m).map e:=by simp
def win (n a b:Int):Bool:=leI a n&&leI n b
theorem Z7D (n a b:Int):callI tE Z5f [.int n,.int a,.int b]=some [.bool (win n a b)]:=by
 rw[ZGE];unfold win;cases leI a n<;>rfl
theorem ZAA (n a b:Int):callI tE Z5l [.int n,.int a,.int b]=some [.bool (win n a b)]:=by
 rw[ZHC];unfold win;cases leI a n<;>rfl
theorem ZCe {n a b:Int}:win n a b=true↔a≤n∧n≤b:=by simp[win,leI]
def Rw.ok (r:Rw):Bool:=win r.k 0 9&&(win r.v 0 99&&win r.w 0 3)
theorem Rw.ok_iff {r:Rw}:r.ok=true↔(0≤r.k∧r.k≤9)∧(0≤r.v∧r.v≤99)∧0≤r.w∧r.w≤3:=by simp[Rw.ok,ZCe]
theorem ZGl (r:Rw):callI tE Z8O [.int r.k,.int r.v,.int r.w]=some [.bool r.ok]:=by
 simp only[ZDp,Z7D,gA]
 unfold Rw.ok
 cases win r.k 0 9<;>cases win r.v 0 99<;>rfl
theorem ZGm (r:Rw):callI tE Z8N [.int r.k,.int r.v,.int r.w]=some [.bool r.ok]:=by
 simp only[ZDo,ZAA,gA]
 unfold Rw.ok
 cases win r.k 0 9<;>cases win r.v 0 99<;>rfl
theorem ZIA (l:List Rw) (h:l.length<4611686018427387904):callI tE Z9d [.sl (l.map Rw.e)]=some [.bool (l.all Rw.ok)]:=by
 rw[ZEj]
 have:=ZCr (l:=l) (L:=Z8T (l.map Rw.e) (lenI (l.map Rw.e))) (p:=Rw.ok) (no:=some [.bool false]) (yes:=some [.bool true]) (by omega) (fun u a v e=>by
  subst e
  rw[ZAx]
  simp only[ZE8,ZDq,Z6v,ZDQ,cond_true,gA,Rw.e,ZGl,ZGk]) (by rw[ZAx,ZE9,cond_false])
 exact this.trans (ZI9 _)
def aok (l:List Rw):Bool:=leI l.length 24&&l.all Rw.ok
theorem ZDT (l:List Rw):callI tE Z6L [.sl (l.map Rw.e)]=some [.bool (aok l)]:=by
 rw[ZD5,Z5V]
 unfold aok
 by_cases h:(l.length:Int)≤24
 ·rw[leT h,ZIA l (by omega)];rfl
 ·rw[leF (by omega)];rfl
theorem ZCf (l:List Rw) (h:l.length<4611686018427387904):callI tE Z61 [.sl (l.map Rw.e)]=some [.bool (aok l)]:=by
 rw[ZD4]
 have:=ZCr (l:=l) (L:=Z7A (l.map Rw.e)) (p:=Rw.ok) (no:=some [.bool false]) (yes:=some [.bool (leI l.length 24)]) (by omega) (fun u a v e=>by
  subst e
  rw[Z9P]
  simp only[ZE8,ZDq,Z6v,ZDQ,cond_true,gA,Rw.e,ZGm,ZGk]) (by rw[Z9P,ZE9,cond_false,Z5V])
 refine this.trans ?_
 unfold aok
 cases l.all Rw.ok<;>simp
theorem ZD1 (l:List Rw) (h:l.length≤1099511627776):callI tE Z6T [.sl (l.map Rw.e)]=some [.sl (l.map Rw.e)]:=by
 rw[ZGi,Z5u,Z9y (by omega)];rfl
def Rw.cost (r:Rw):Nat:=if r.ok then 1+r.w.toNat else 0
def ZBV (l:List Rw):Nat:=(l.map Rw.cost).sum
theorem ZHD (r:Rw):r.cost≤4:=by
 unfold Rw.cost
 split
 ·rename_i h;have:=Rw.ok_iff.mp h;omega
 ·omega
theorem ZIB:ZBV []=0:=rfl
theorem ZG3 (a:Rw) (l:List Rw):ZBV (a::l)=a.cost+ZBV l:=by simp[ZBV]
theorem ZIC (l m:List Rw):ZBV (l++m)=ZBV l+ZBV m:=by simp[ZBV]
theorem ZDU (l:List Rw):ZBV l≤4*l.length:=by
 induction l with
 |nil=>exact Nat.le_refl _
 |cons a l ih=>have:=ZHD a;rw[ZG3,List.length_cons];omega
theorem ZHZ (r:Rw):(bif !r.ok then some [Dat.int 0]else some [.int (w64 (1+r.w))])=some [.int (r.cost:Nat)]:=by
 unfold Rw.cost
 cases h:r.ok
 ·rfl
 ·have:=Rw.ok_iff.mp h
  rw[Z5W ⟨by omega,by omega⟩]
  simp only[Bool.not_true,cond_false,if_true]
  congr 3;omega
theorem ZHa (r:Rw):callI tE ZAM [.int r.k,.int r.v,.int r.w]=some [.int (r.cost:Nat)]:=by
 simp only[ZFa,ZGl,gA,ZHZ]
theorem ZJ7 (r:Rw):callI tE ZBw [.int r.k,.int r.v,.int r.w]=some [.int (r.cost:Nat)]:=by
 simp only[ZFY,ZGm,gA,ZHZ]
theorem ZID {u:List Rw} {a:Rw} {n:Int} (hu:u.length<1152921504606846976) (h:n=(ZBV u:Nat)):w64 (n+(a.cost:Nat))=((ZBV (u++[a]):Nat):Int):=by
 have h1:=ZDU u
 have h2:=ZHD a
 subst h
 rw[Z5W ⟨by omega,by omega⟩,ZIC,ZG3,ZIB];omega
theorem ZG4 (l:List Rw) (h:l.length<1152921504606846976):callI tE Z7n [.sl (l.map Rw.e)]=some [.int (ZBV l:Nat)]:=by
 rw[ZEJ]
 have:=Z98 (l:=l) (L:=fun s=>Z7C s (l.map Rw.e) (lenI (l.map Rw.e))) (F:=fun _ _=>some [Dat.int (ZBV l:Nat)]) (I:=fun s u _=>s=(ZBV u:Nat)) (by omega) (fun u a v s e hI=>.inl ⟨(ZBV (u++[a]):Nat),by
  subst e
  have hu:u.length<1152921504606846976:=by simp at h;omega
  show Z7C _ _ _ _=_
  rw[ZAb]
  simp only[ZE8,ZDq,Z6v,ZDQ,cond_true,gA,Rw.e,ZHa,ZID hu hI],rfl,rfl⟩) (fun s hs=>by rw[ZAb,ZE9,cond_false,hs]) 0 rfl
 exact this
theorem ZC8 (l:List Rw) (h:l.length<1152921504606846976):callI tE Z6S [.sl (l.map Rw.e)]=some [.int (ZBV l:Nat)]:=by
 rw[ZEH]
 have:=Z98 (l:=l) (L:=fun s=>Z7B (l.map Rw.e) s) (F:=fun _ _=>some [Dat.int (ZBV l:Nat)]) (I:=fun s u _=>s=(ZBV u:Nat)) (by omega) (fun u a v s e hI=>.inl ⟨(ZBV (u++[a]):Nat),by
  subst e
  have hu:u.length<1152921504606846976:=by simp at h;omega
  show Z7B _ _ _=_
  rw[ZAZ]
  simp only[ZE8,ZDq,Z6v,ZDQ,cond_true,gA,Rw.e,ZJ7,ZID hu hI],rfl,rfl⟩) (fun s hs=>by rw[ZAZ,ZE9,cond_false,hs]) 0 rfl
 exact this
def ord (a b:Int):Int:=if a<b then-1 else if b<a then 1 else 0
def ZI7 (a b:Rw):Int:=if ord a.k b.k≠0 then ord a.k b.k else if ord a.v b.v≠0 then ord a.v b.v else ord a.w b.w
theorem ZJ8 (a b:Int):callI tE ZAX [.int a,.int b]=some [.int (ord a b)]:=by
 rw[ZGh]
 unfold ord
 by_cases h:a<b
 ·rw[ltT h,if_pos h];rfl
 ·rw[ltF (by omega),if_neg h]
  by_cases h2:b<a
  ·rw[ltT h2,if_pos h2];rfl
  ·rw[ltF (by omega),if_neg h2];rfl
theorem ZEc (a b:Rw):callI tE Z5r [.int a.k,.int a.v,.int a.w,.int b.k,.int b.v,.int b.w]=some [.int (ZI7 a b)]:=by
 simp only[ZDO,ZJ8,gA,ZGk]
 unfold ZI7
 by_cases h:ord a.k b.k=0
 ·rw[eqT h,if_neg (by simpa using h)]
  by_cases h2:ord a.v b.v=0
  ·rw[eqT h2,if_neg (by simpa using h2)];rfl
  ·rw[eqF h2,if_pos h2];rfl
 ·rw[eqF h,if_pos h];rfl
theorem ZEd (a b:Rw):callI tE Z6B [.int a.k,.int a.v,.int a.w,.int b.k,.int b.v,.int b.w]=some [.int (ZI7 a b)]:=by
 have step:∀(i:Nat) (x y:Int) (rest:Option (List Dat)),i<3→gn (at' [[Dat.int a.k],[.int a.v],[.int a.w]] i)=x→gn (at' [[Dat.int b.k],[.int b.v],[.int b.w]] i)=y→Z6R (w64 ((i:Int)+1)) [[.int a.k],[.int a.v],[.int a.w]] [[.int b.k],[.int b.v],[.int b.w]]=rest→
   Z6R (i:Int) [[.int a.k],[.int a.v],[.int a.w]] [[.int b.k],[.int b.v],[.int b.w]]=if ord x y≠0 then some [.int (ord x y)]else rest:=fun i x y rest hi hx hy hr=>by
  rw[Z9l,ltT (by omega),ZFc (by omega) (show(i:Int)<lenI [[Dat.int a.k],[.int a.v],[.int a.w]]by show(i:Int)<3;omega),ZFc (by omega) (show(i:Int)<lenI [[Dat.int b.k],[.int b.v],[.int b.w]]by show(i:Int)<3;omega),Z6v,hx,hy,hr]
  unfold ord
  by_cases h:x<y
  ·rw[ltT h];simp[h]
  ·rw[ltF (by omega)]
   by_cases h2:y<x
   ·rw[ltT h2];simp[h,h2]
   ·rw[ltF (by omega)];simp[h,h2]
 rw[ZDN]
 have e3:Z6R (w64 (((2:Nat):Int)+1)) [[.int a.k],[.int a.v],[.int a.w]] [[.int b.k],[.int b.v],[.int b.w]]=some [.int 0]:=by
  rw[Z9l];rfl
 have e2:=step 2 a.w b.w _ (by omega) rfl rfl e3
 have e1:=step 1 a.v b.v _ (by omega) rfl rfl e2
 have e0:=step 0 a.k b.k _ (by omega) rfl rfl e1
 refine e0.trans ?_
 unfold ZI7
 by_cases h:ord a.k b.k=0<;>by_cases h2:ord a.v b.v=0<;>by_cases h3:ord a.w b.w=0<;>simp[h,h2,h3]
theorem ZGn {a b:Int}:ord a b=0↔a=b:=by
 unfold ord
 split
 ·omega
 ·split<;>omega
theorem ZHE {a b:Int}:ord a b<0↔a<b:=by
 unfold ord
 split
 ·omega
 ·split<;>omega
theorem ZHF {a b:Int}:0<ord a b↔b<a:=by
 unfold ord
 split
 ·omega
 ·split<;>omega
def Rw.lt (a b:Rw):Prop:=a.k<b.k∨a.k=b.k∧(a.v<b.v∨a.v=b.v∧a.w<b.w)
instance (a b:Rw):Decidable (Rw.lt a b):=by unfold Rw.lt;infer_instance
theorem ZK5 {a b:Rw}:ZI7 a b<0↔Rw.lt a b:=by
 unfold ZI7 Rw.lt
 by_cases h:ord a.k b.k=0
 ·have:=ZGn.mp h
  rw[if_neg (by simpa using h)]
  by_cases h2:ord a.v b.v=0
  ·have:=ZGn.mp h2
   rw[if_neg (by simpa using h2),ZHE];omega
  ·have h3:=mt ZGn.mpr h2
   rw[if_pos h2,ZHE];omega
 ·have h3:=mt ZGn.mpr h
  rw[if_pos h,ZHE];omega
theorem ZIE {a b:Rw}:0<ZI7 a b↔Rw.lt b a:=by
 unfold ZI7 Rw.lt
 by_cases h:ord a.k b.k=0
 ·have:=ZGn.mp h
  rw[if_neg (by simpa using h)]
  by_cases h2:ord a.v b.v=0
  ·have:=ZGn.mp h2
   rw[if_neg (by simpa using h2),ZHF];omega
  ·have h3:=mt ZGn.mpr h2
   rw[if_pos h2,ZHF];omega
 ·have h3:=mt ZGn.mpr h
  rw[if_pos h,ZHF];omega
theorem Rw.eq_of {a b:Rw} (h1:a.k=b.k) (h2:a.v=b.v) (h3:a.w=b.w):a=b:=by cases a;cases b;simp_all
theorem Rw.lt_or {a b:Rw}:Rw.lt a b∨a=b∨Rw.lt b a:=by
 unfold Rw.lt
 by_cases h1:a.k=b.k<;>by_cases h2:a.v=b.v<;>by_cases h3:a.w=b.w
 ·exact .inr (.inl (Rw.eq_of h1 h2 h3))
 all_goals omega
theorem Rw.lt_irr (a:Rw):¬Rw.lt a a:=by unfold Rw.lt;omega
theorem Rw.lt_tr {a b c:Rw} (h:Rw.lt a b) (h2:Rw.lt b c):Rw.lt a c:=by unfold Rw.lt at*;omega
def Rw.le (a b:Rw):Prop:=¬Rw.lt b a
instance (a b:Rw):Decidable (Rw.le a b):=by unfold Rw.le;infer_instance
theorem Rw.le_rfl (a:Rw):Rw.le a a:=Rw.lt_irr a
theorem Rw.le_tr {a b c:Rw} (h:Rw.le a b) (h2:Rw.le b c):Rw.le a c:=by
 intro h3
 rcases Rw.lt_or (a:=a) (b:=b)with q|q|q
 ·exact h2 (Rw.lt_tr h3 q)
 ·subst q;exact h2 h3
 ·exact h q
theorem Rw.le_antisymm {a b:Rw} (h:Rw.le a b) (h2:Rw.le b a):a=b:=by
 rcases Rw.lt_or (a:=a) (b:=b)with q|q|q
 ·exact absurd q h2
 ·exact q
 ·exact absurd q h
theorem Rw.lt_le {a b:Rw} (h:Rw.lt a b):Rw.le a b:=fun h2=>Rw.lt_irr a (Rw.lt_tr h h2)
theorem ZCg (a b:Rw):ltI (ZI7 a b) 0=decide (Rw.lt a b):=by
 simp only[ltI,ZK5]
theorem ZHb (a b:Rw):ltI 0 (ZI7 a b)=decide (Rw.lt b a):=by
 simp only[ltI,ZIE]
theorem ZIF (a b:Rw):leI (ZI7 a b) 0=decide (Rw.le a b):=by
 have:=ZIE (a:=a) (b:=b)
 simp only[leI,Rw.le]
 congr 1
 exact propext ⟨fun h h2=>by have:=this.mpr h2;omega,fun h=>by have:=mt this.mp h;omega⟩
theorem ZIG (a b:Rw):(eqI a.k b.k&&(eqI a.v b.v&&(eqI a.w b.w&&Bool.true)))=decide (a=b):=by
 have e:decide (a=b)=(decide (a.k=b.k)&&(decide (a.v=b.v)&&decide (a.w=b.w))):=by
  cases a;cases b
  simp only[Rw.mk.injEq,Bool.decide_and]
 simp only[e,eqI,Bool.and_true]
theorem ZIH (l l':List Rw) (h:l.length≤1152921504606846976):callI tE Z9O [.sl (l.map Rw.e),.sl (l'.map Rw.e)]=some [.bool (decide (l=l'))]:=by
 rw[ZGg]
 by_cases hll:l.length=l'.length
 ·rw[ZC6 hll,Bool.not_true,cond_false]
  have:=ZA9 (L:=fun x y i=>ZAS x y (lenI x) i) (e:=Rw.e) (P:=fun _=>True) (fun p q p' q' a b _ hpl hlt=>by
   rw[ZC5]
   simp only[Z6H,Z6C,Z6v,Z68,cond_true,cond_false,gA,Z7J hpl,ZAs hpl,Rw.e,ZIG,ZGk]) (fun p p' hpl=>by
   rw[ZC5,Z6I,cond_false]) l l' [] [] rfl hll (fun a ha=>trivial) (by simp;omega)
  simpa using this
 ·rw[ZC7 hll,Bool.not_false,cond_true,decide_eq_false (fun e=>hll (by rw[e]))]
theorem ZJo (l l':List Rw) (h:l.length≤1152921504606846976):callI tE Z9Z [.sl (l.map Rw.e),.sl (l'.map Rw.e)]=some [.bool (decide (l=l'))]:=by
 rw[ZGC]
 by_cases hll:l.length=l'.length
 ·rw[ZC6 hll,Bool.not_true,cond_false]
  have:=ZA9 (L:=Z9m) (e:=Rw.e) (P:=fun _=>True) (fun p q p' q' a b _ hpl hlt=>by
   rw[ZBm]
   simp only[Z6H,Z6C,Z6v,Z68,cond_true,cond_false,gA,Z7J hpl,ZAs hpl,Rw.e,ZIG,ZGk]) (fun p p' hpl=>by
   rw[ZBm,Z6I,cond_false]) l l' [] [] rfl hll (fun a ha=>trivial) (by simp;omega)
  simpa using this
 ·rw[ZC7 hll,Bool.not_false,cond_true,decide_eq_false (fun e=>hll (by rw[e]))]
theorem ZLB (r:Rw):[Dat.int r.k,.int r.v,.int r.w]=r.e:=rfl
theorem ZKb (u v:List Rw) (a d:Rw):updR ((u++a::v).map Rw.e) u.length 0 d.e=(u++d::v).map Rw.e:=by
 rw[ZLA]
 have:setRange (Rw.e a) 0 d.e=d.e:=rfl
 rw[this]
 simp
theorem gk (r:Rw):gn r.e=r.k:=rfl
theorem gv (r:Rw):gn (tk 1 r.e)=r.v:=rfl
theorem gw (r:Rw):gn (tk 2 r.e)=r.w:=rfl
theorem ZDs {α:Type} {e:α→List Dat} {l u v:List α} {a:α} {i:Nat} (h:l=u++a::v) (hi:u.length=i):at' (l.map e) i=e a:=by rw[h,←hi];exact ZDQ u v a
theorem ZDM {α:Type} {e:α→List Dat} {l:List α} {i:Nat} (hi:i<l.length):inR (i:Int) (lenI (l.map e))=true:=ZFc (by omega) (by rw[Z5V];omega)
theorem ZHt {l u v:List Rw} {a d:Rw} {i:Nat} (h:l=u++a::v) (hi:u.length=i):updR (l.map Rw.e) i 0 [.int d.k,.int d.v,.int d.w]=(u++d::v).map Rw.e:=by rw[h,←hi];exact ZKb u v a d
theorem ZII {l p q s:List Rw} {a b:Rw} {i j:Nat} (h:l=p++a::(q++b::s)) (hi:p.length=i) (hj:p.length+1+q.length=j) (hl:l.length<4611686018427387904) {X:Option (List Dat)} {K:Rows→Option (List Dat)} (hK:K ((p++b::(q++a::s)).map Rw.e)=X):
  (bif inR (j:Int) (lenI (l.map Rw.e))then(bif inR (i:Int) (lenI (l.map Rw.e))then(bif inR (i:Int) (lenI (l.map Rw.e))then
   (bif inR (j:Int) (lenI (updR (l.map Rw.e) (tn (i:Int)) 0 [.int (gn (at' (l.map Rw.e) (tn (j:Int)))),.int (gn (tk 1 (at' (l.map Rw.e) (tn (j:Int))))),.int (gn (tk 2 (at' (l.map Rw.e) (tn (j:Int)))))]))then
    K (updR (updR (l.map Rw.e) (tn (i:Int)) 0 [.int (gn (at' (l.map Rw.e) (tn (j:Int)))),.int (gn (tk 1 (at' (l.map Rw.e) (tn (j:Int))))),.int (gn (tk 2 (at' (l.map Rw.e) (tn (j:Int)))))]) (tn (j:Int)) 0 [.int (gn (at' (l.map Rw.e) (tn (i:Int)))),.int (gn (tk 1 (at' (l.map Rw.e) (tn (i:Int))))),.int (gn (tk 2 (at' (l.map Rw.e) (tn (i:Int)))))])
    else none)else none)else none)else none)=X:=by
 have hb:at' (l.map Rw.e) j=b.e:=ZDs (u:=p++a::q) (v:=s) (by rw[h];simp) (by simp;omega)
 have ha:at' (l.map Rw.e) i=a.e:=ZDs h hi
 have hlen:l.length=p.length+1+q.length+1+s.length:=by rw[h];simp;omega
 have h1:updR (l.map Rw.e) i 0 [.int b.k,.int b.v,.int b.w]=(p++b::(q++b::s)).map Rw.e:=ZHt h hi
 have h2:updR ((p++b::(q++b::s)).map Rw.e) j 0 [.int a.k,.int a.v,.int a.w]=(p++b::(q++a::s)).map Rw.e:=by
  rw[ZHt (u:=p++b::q) (v:=s) (a:=b) (by simp) (by simp;omega)]
  simp
 simp only[Z6v,hb,ha,gk,gv,gw,h1,h2]
 rw[ZDM (by omega),ZDM (by omega),ZDM (by simp;omega)]
 exact hK
theorem ZEA:∀(u2 v2:List Rw) (p u1 q v1 s:List Rw),u2.length=v2.length→u1.length=v1.length→(p++(v1++(u2++(q++(u1++(v2++s)))))).length<4611686018427387904→
  Z5p (p.length:Nat) ((p.length+v1.length+u2.length+q.length:Nat):Int) ((v1.length+u2.length:Nat):Int) (v1.length:Nat) ((p++(v1++(u2++(q++(u1++(v2++s)))))).map Rw.e)=
   some [.sl ((p++(v1++(v2++(q++(u1++(u2++s)))))).map Rw.e)]
 |[],[],p,u1,q,v1,s,_,_,_=>by
  rw[Z6y,ltF (by simp),cond_false]
 |[],_::_,_,_,_,_,_,h,_,_=>by simp at h
 |_::_,[],_,_,_,_,_,h,_,_=>by simp at h
 |c::u2,d::v2,p,u1,q,v1,s,h,h2,hl=>by
  have hl':=hl
  simp only[List.length_append,List.length_cons]at hl' h
  rw[Z6y,ltT (by simp only[List.length_cons];omega),cond_true]
  rw[show w64 ((p.length:Int)+(v1.length:Nat))=((p.length+v1.length:Nat):Int)by rw[Z5W ⟨by omega,by omega⟩];omega]
  rw[show w64 (((p.length+v1.length+(c::u2).length+q.length:Nat):Int)+(v1.length:Nat))=((p.length+v1.length+(c::u2).length+q.length+v1.length:Nat):Int)by simp only[List.length_cons];rw[Z5W ⟨by omega,by omega⟩];omega]
  refine ZII (l:=p++(v1++(c::u2++(q++(u1++(d::v2++s)))))) (p:=p++v1) (q:=u2++(q++u1)) (s:=v2++s) (a:=c) (b:=d) (by simp) (by simp) (by simp;omega) hl
   (K:=fun X=>Z5p (p.length:Nat) ((p.length+v1.length+(c::u2).length+q.length:Nat):Int) ((v1.length+(c::u2).length:Nat):Int) (w64 ((v1.length:Nat)+1)) X) ?_
  have ih:=ZEA u2 v2 p (u1++[c]) q (v1++[d]) s (by omega) (by simp[h2]) (by simp only[List.length_append,List.length_cons,List.length_nil];omega)
  show Z5p _ _ _ _ _=_
  rw[Z7x (by omega)]
  have e1:(p++v1++d::(u2++(q++u1)++c::(v2++s)))=(p++(v1++[d]++(u2++(q++(u1++[c]++(v2++s)))))):=by simp
  have e2:(p++(v1++(d::v2++(q++(u1++(c::u2++s))))))=(p++(v1++[d]++(v2++(q++(u1++[c]++(u2++s)))))):=by simp
  rw[e1,e2,←ih]
  congr 1<;>simp only[List.length_append,List.length_cons,List.length_nil]<;>omega
theorem ZEs (p u q v s:List Rw) (h:u.length=v.length) (hl:(p++(u++(q++(v++s)))).length<4611686018427387904) {a b n:Int} (ha:a=(p.length:Nat)) (hb:b=((p.length+u.length+q.length:Nat):Int)) (hn:n=(u.length:Nat)):
  callI tE Z5q [.sl ((p++(u++(q++(v++s)))).map Rw.e),.int a,.int b,.int n]=some [.sl ((p++(v++(q++(u++s)))).map Rw.e)]:=by
 rw[ZAr,ha,hb,hn]
 have:=ZEA u v p [] q [] s h rfl (by simpa using hl)
 simp only[List.nil_append,List.length_nil,Nat.add_zero,Nat.zero_add]at this
 exact this
theorem ZIJ:∀(n:Nat) (u v p s:List Rw) (a m b:Int) (m0:Nat),u.length+v.length≤n→0<u.length→0<v.length→(p++(u++(v++s))).length<1152921504606846976→m0=p.length+u.length→m=(m0:Nat)→
  Z5y a m b (u.length:Nat) (v.length:Nat) ((p++(u++(v++s))).map Rw.e)=some [.sl ((p++(v++(u++s))).map Rw.e)]:=by
 intro n
 induction n with
 |zero=>intro u v p s a m b m0 h h1 h2;omega
 |succ n ih=>
  intro u v p s a m b m0 h h1 h2 hl hm0 hm
  have hl':=hl
  simp only[List.length_append]at hl'
  rw[ZA8,hm]
  have e0:w64 ((m0:Int)-(u.length:Nat))=(p.length:Nat):=by rw[Z5W ⟨by omega,by omega⟩];omega
  by_cases he:u.length=v.length
  ·have:=ZEs p u [] v s he (by simp only[List.length_append,List.length_nil];omega) (a:=(p.length:Nat)) (b:=(m0:Nat)) (n:=(u.length:Nat)) rfl (by simp only[List.length_nil];omega) rfl
   simp only[List.nil_append]at this
   rw[eqT (by omega),Bool.not_true,cond_false,e0,this]
   rfl
  ·rw[eqF (by omega),Bool.not_false,cond_true]
   by_cases hlt:v.length<u.length
   ·rw[ltT (by omega),cond_true,e0]
    obtain⟨u1,u2,rfl,hu1⟩:∃u1 u2,u=u1++u2∧u1.length=v.length:=⟨u.take v.length,u.drop v.length,(List.take_append_drop _ _).symm,by simp;omega⟩
    simp only[List.length_append]at*
    have:=ZEs p u1 u2 v s hu1 (by simp only[List.length_append];omega) (a:=(p.length:Nat)) (b:=(m0:Nat)) (n:=(v.length:Nat)) rfl (by omega) (by omega)
    rw[show p++(u1++u2++(v++s))=p++(u1++(u2++(v++s)))by simp,this]
    simp only[gA]
    rw[show w64 (((u1.length+u2.length:Nat):Int)-(v.length:Nat))=(u2.length:Nat)by rw[Z5W ⟨by omega,by omega⟩];omega]
    have:=ih u2 u1 (p++v) s a m b m0 (by omega) (by omega) (by omega) (by simp only[List.length_append];omega) (by simp only[List.length_append];omega) hm
    rw[hm,hu1]at this
    rw[show p++(v++(u2++(u1++s)))=p++v++(u2++(u1++s))by simp,this]
    simp
   ·rw[ltF (by omega),cond_false,e0]
    obtain⟨v1,v2,rfl,hv2⟩:∃v1 v2,v=v1++v2∧v2.length=u.length:=⟨v.take (v.length-u.length),v.drop (v.length-u.length),(List.take_append_drop _ _).symm,by simp;omega⟩
    simp only[List.length_append]at*
    have e1:w64 (w64 ((m0:Int)+((v1.length+v2.length:Nat):Int))-(u.length:Nat))=((p.length+u.length+v1.length:Nat):Int):=by
     rw[Z5W (n:=(m0:Int)+((v1.length+v2.length:Nat):Int)) ⟨by omega,by omega⟩,Z5W ⟨by omega,by omega⟩];omega
    have:=ZEs p u v1 v2 s hv2.symm (by simp only[List.length_append];omega) (a:=(p.length:Nat)) (b:=((p.length+u.length+v1.length:Nat):Int)) (n:=(u.length:Nat)) rfl rfl rfl
    rw[e1,show p++(u++(v1++v2++s))=p++(u++(v1++(v2++s)))by simp,this]
    simp only[gA]
    rw[show w64 (((v1.length+v2.length:Nat):Int)-(u.length:Nat))=(v1.length:Nat)by rw[Z5W ⟨by omega,by omega⟩];omega]
    have:=ih v2 v1 p (u++s) a m b m0 (by omega) (by omega) (by omega) (by simp only[List.length_append];omega) (by omega) hm
    rw[hm,hv2]at this
    rw[this]
    simp
theorem ZKc (p u v s:List Rw) (h1:0<u.length) (h2:0<v.length) (hl:(p++(u++(v++s))).length<1152921504606846976) {a m b:Int} (ha:a=(p.length:Nat)) (hm:m=((p.length+u.length:Nat):Int)) (hb:b=((p.length+u.length+v.length:Nat):Int)):
  callI tE Z66 [.sl ((p++(u++(v++s))).map Rw.e),.int a,.int m,.int b]=some [.sl ((p++(v++(u++s))).map Rw.e)]:=by
 have hl':=hl
 simp only[List.length_append]at hl'
 rw[ZBi,show w64 (m-a)=(u.length:Nat)by rw[ha,hm,Z5W ⟨by omega,by omega⟩];omega,show w64 (b-m)=(v.length:Nat)by rw[hb,hm,Z5W ⟨by omega,by omega⟩];omega]
 exact ZIJ _ u v p s a m b _ (Nat.le_refl _) h1 h2 hl rfl hm
theorem ZJ9 {l p s:List Rw} {a b:Rw} {i j:Nat} (h:l=p++a::b::s) (hi:p.length=i) (hj:j=i+1) (hl:l.length<4611686018427387904) {X:Option (List Dat)} {K:Rows→Option (List Dat)} (hK:K ((p++b::a::s).map Rw.e)=X):
  (bif inR (i:Int) (lenI (l.map Rw.e))then(bif inR (j:Int) (lenI (l.map Rw.e))then(bif inR (j:Int) (lenI (l.map Rw.e))then
   (bif inR (i:Int) (lenI (updR (l.map Rw.e) (tn (j:Int)) 0 [.int (gn (at' (l.map Rw.e) (tn (i:Int)))),.int (gn (tk 1 (at' (l.map Rw.e) (tn (i:Int))))),.int (gn (tk 2 (at' (l.map Rw.e) (tn (i:Int)))))]))then
    K (updR (updR (l.map Rw.e) (tn (j:Int)) 0 [.int (gn (at' (l.map Rw.e) (tn (i:Int)))),.int (gn (tk 1 (at' (l.map Rw.e) (tn (i:Int))))),.int (gn (tk 2 (at' (l.map Rw.e) (tn (i:Int)))))]) (tn (i:Int)) 0 [.int (gn (at' (l.map Rw.e) (tn (j:Int)))),.int (gn (tk 1 (at' (l.map Rw.e) (tn (j:Int))))),.int (gn (tk 2 (at' (l.map Rw.e) (tn (j:Int)))))])
    else none)else none)else none)else none)=X:=by
 have hb:at' (l.map Rw.e) j=b.e:=ZDs (u:=p++[a]) (v:=s) (by rw[h];simp) (by simp;omega)
 have ha:at' (l.map Rw.e) i=a.e:=ZDs h hi
 have hlen:l.length=p.length+1+1+s.length:=by rw[h];simp;omega
 have h1:updR (l.map Rw.e) j 0 [.int a.k,.int a.v,.int a.w]=(p++a::a::s).map Rw.e:=by
  rw[ZHt (u:=p++[a]) (v:=s) (a:=b) (by rw[h];simp) (by simp;omega)]
  simp
 have h2:updR ((p++a::a::s).map Rw.e) i 0 [.int b.k,.int b.v,.int b.w]=(p++b::a::s).map Rw.e:=ZHt rfl hi
 simp only[Z6v,hb,ha,gk,gv,gw,h1,h2]
 rw[ZDM (by omega),ZDM (by omega),ZDM (by simp;omega)]
 exact hK
theorem ZEt (i j:Nat) (h:i+j<4611686018427387904):w64 ((Go.IntKind.wrap .u64 (w64 ((i:Int)+(j:Int))))/(Int.pow 2 (ite ((tn 1)≤(Go.IntKind.bits .u64)) (tn 1) 64)))=(((i+j)/2:Nat):Int):=by
 have e1:(Int.pow 2 (ite ((tn 1)≤(Go.IntKind.bits .u64)) (tn 1) 64))=2:=rfl
 have e2:Go.IntKind.wrap .u64 ((i:Int)+(j:Int))=(i:Int)+(j:Int):=by
  have e:(2:Int)^64=18446744073709551616:=by decide
  simp only[IntKind.wrap,IntKind.signed,IntKind.bits,Bool.false_and,Bool.false_eq_true,if_false,e]
  omega
 rw[e1,Z5W (n:=(i:Int)+(j:Int)) ⟨by omega,by omega⟩,e2,Z5W ⟨by omega,by omega⟩]
 omega
abbrev Srt (l:List Rw):Prop:=l.Pairwise Rw.le
theorem ZC9:∀{l l':List Rw},l.Perm l'→Srt l→Srt l'→l=l'
 |[],l',h,_,_=>by have:=h.length_eq;exact(List.length_eq_zero_iff.mp (by simpa using this.symm)).symm
 |a::l,[],h,_,_=>by have:=h.length_eq;simp at this
 |a::l,b::l',h,s,s'=>by
  have hab:a=b:=by
   have h1:b∈a::l:=h.mem_iff.mpr (by simp)
   have h2:a∈b::l':=h.mem_iff.mp (by simp)
   rcases List.mem_cons.mp h1 with h1|h1
   ·exact h1.symm
   ·rcases List.mem_cons.mp h2 with h2|h2
    ·exact h2
    ·exact Rw.le_antisymm ((List.pairwise_cons.mp s).1 b h1) ((List.pairwise_cons.mp s').1 a h2)
  subst hab
  rw[ZC9 (h.cons_inv) (List.pairwise_cons.mp s).2 (List.pairwise_cons.mp s').2]
theorem bs {β:Type} {L:Nat→Nat→β} {K:Nat→β} {t lo hi:Nat} (hs:∀i j,lo≤i→i<j→j≤hi→L i j=if(i+j)/2<t then L ((i+j)/2+1) j else L i ((i+j)/2)) (he:∀i,lo≤i→i≤hi→L i i=K i):
  ∀(n i j:Nat),j-i≤n→lo≤i→i≤t→t≤j→j≤hi→L i j=K t:=by
 intro n
 induction n with
 |zero=>
  intro i j h h1 h2 h3 h4
  have e1:i=t:=by omega
  have e2:j=t:=by omega
  rw[e1,e2]
  exact he t (by omega) (by omega)
 |succ n ih=>
  intro i j h h1 h2 h3 h4
  by_cases hij:i<j
  ·rw[hs i j h1 hij h4]
   split
   ·exact ih _ _ (by omega) (by omega) (by omega) h3 h4
   ·exact ih _ _ (by omega) h1 h2 (by omega) (by omega)
  ·have e1:i=t:=by omega
   have e2:j=t:=by omega
   rw[e1,e2]
   exact he t (by omega) (by omega)
theorem ZEe (P:Nat→Prop) [DecidablePred P] (lo:Nat):∀(n:Nat),(∀c d,lo≤c→c≤d→d<lo+n→P d→P c)→∃t,lo≤t∧t≤lo+n∧∀c,lo≤c→c<lo+n→(P c↔c<t)
 |0,_=>⟨lo,Nat.le_refl _,Nat.le_refl _,fun c h1 h2=>by omega⟩
 |n+1,hm=>by
  obtain⟨t,h1,h2,h3⟩:=ZEe P lo n (fun c d a b e=>hm c d a b (by omega))
  by_cases hp:P (lo+n)
  ·refine⟨lo+n+1,by omega,by omega,fun c a b=>⟨fun _=>by omega,fun _=>hm c (lo+n) a (by omega) (by omega) hp⟩⟩
  ·refine⟨t,h1,by omega,fun c a b=>?_⟩
   by_cases hc:c<lo+n
   ·exact h3 c a hc
   ·have:c=lo+n:=by omega
    subst this
    exact⟨fun h=>absurd h hp,fun h=>by omega⟩
def nth (x:List Rw) (i:Nat):Rw:=x.getD i ⟨0,0,0⟩
theorem ZHc {x:List Rw} {i:Nat} (h:i<x.length):at' (x.map Rw.e) i=(nth x i).e:=by
 obtain⟨u,a,v,rfl,rfl⟩:∃u a v,x=u++a::v∧u.length=i:=⟨x.take i,x[i],x.drop (i+1),by
  have:=List.take_append_drop i x
  rw[List.drop_eq_getElem_cons h]at this
  exact this.symm,by simp;omega⟩
 rw[ZDQ]
 simp[nth,List.getD_eq_getElem?_getD]
theorem Z84 (u v:List Rw) {i:Nat} (h:i<u.length):nth (u++v) i=nth u i:=by
 simp[nth,List.getD_eq_getElem?_getD,List.getElem?_append_left h]
theorem Z6U (u v:List Rw) {i:Nat} (h:u.length≤i):nth (u++v) i=nth v (i-u.length):=by
 simp[nth,List.getD_eq_getElem?_getD,List.getElem?_append_right h]
theorem ZCh {u:List Rw} {a:Rw} (h:a∈u):∃i,i<u.length∧nth u i=a:=by
 obtain⟨i,hi⟩:=List.getElem?_of_mem h
 obtain⟨h1,h2⟩:=List.getElem?_eq_some_iff.mp hi
 exact⟨i,h1,by simp[nth,List.getD_eq_getElem?_getD,hi]⟩
theorem ZEu {u:List Rw} (h:Srt u) {i j:Nat} (hij:i≤j) (hj:j<u.length):Rw.le (nth u i) (nth u j):=by
 by_cases e:i=j
 ·subst e;exact Rw.le_rfl _
 ·have:=List.pairwise_iff_getElem.mp h i j (by omega) hj (by omega)
  simpa[nth,List.getD_eq_getElem?_getD,hj,show i<u.length by omega]using this
theorem ZEv {u:List Rw} {t:Nat} (h:t≤u.length):∃u1 u2,u=u1++u2∧u1.length=t:=⟨u.take t,u.drop t,(List.take_append_drop _ _).symm,by simp;omega⟩
theorem ZGo {x:List Rw} {i j:Nat} (hi:i<x.length) (hj:j<x.length) {X:Option (List Dat)} {K:List Dat→Option (List Dat)} (h:K [.int (ZI7 (nth x i) (nth x j))]=X):
  (callI tE Z5r [.int (gn (at' (x.map Rw.e) (tn (i:Int)))),.int (gn (tk 1 (at' (x.map Rw.e) (tn (i:Int))))),.int (gn (tk 2 (at' (x.map Rw.e) (tn (i:Int))))),.int (gn (at' (x.map Rw.e) (tn (j:Int)))),.int (gn (tk 1 (at' (x.map Rw.e) (tn (j:Int))))),.int (gn (tk 2 (at' (x.map Rw.e) (tn (j:Int)))))]).bind K=X:=by
 simp only[Z6v,ZHc hi,ZHc hj,gk,gv,gw]
 rw[ZEc]
 exact h
theorem ZD6 (a b:Nat) (h:a+b<9223372036854775807):w64 ((a:Int)+(b:Int))=((a+b:Nat):Int):=by rw[Z5W ⟨by omega,by omega⟩];omega
theorem ZC3 {a b:Nat} (h:b≤a) (h2:a<9223372036854775807):w64 ((a:Int)-(b:Int))=((a-b:Nat):Int):=by rw[Z5W ⟨by omega,by omega⟩];omega
theorem ZBp {a:Nat} (h:1≤a) (h2:a<9223372036854775807):w64 ((a:Int)-1)=((a-1:Nat):Int):=by rw[Z5W ⟨by omega,by omega⟩];omega
theorem ZKd (a m b:Int):∀(v:List Rw) (c:Rw) (p s:List Rw) (k t:Nat),(p++c::(v++s)).length<1152921504606846976→k=p.length→t=p.length+1+v.length→
  Z5d a m b (t:Nat) (k:Nat) ((p++c::(v++s)).map Rw.e)=some [.sl ((p++(v++c::s)).map Rw.e)]
 |[],c,p,s,k,t,hl,hk,ht=>by
  simp only[List.length_nil,List.length_append,List.length_cons]at ht hl
  rw[Z78,ZBp (by omega) (by omega),ltF (by omega),cond_false]
  rfl
 |d::v,c,p,s,k,t,hl,hk,ht=>by
  have hl':=hl
  simp only[List.length_append,List.length_cons]at hl' ht
  rw[Z78,ZBp (by omega) (by omega),ltT (by omega),cond_true,Z7x (by omega)]
  refine ZII (l:=p++c::(d::v++s)) (p:=p) (q:=[]) (s:=v++s) (a:=c) (b:=d) (by simp) hk.symm (by simp;omega) (by omega) (K:=fun X=>Z5d a m b (t:Nat) ((k+1:Nat):Int) X) ?_
  have ih:=ZKd a m b v c (p++[d]) s (k+1) t (by simp only[List.length_append,List.length_cons,List.length_nil];omega) (by simp;omega) (by simp;omega)
  show Z5d _ _ _ _ _ _=_
  rw[show p++d::([]++c::(v++s))=p++[d]++c::(v++s)by simp,ih]
  simp
theorem ZK6 (a m b:Int):∀(n:Nat) (u:List Rw) (c:Rw) (p s:List Rw) (k t:Nat),u.length=n→(p++(u++c::s)).length<1152921504606846976→k=p.length+u.length→t=p.length→
  Z5e a m b (t:Nat) (k:Nat) ((p++(u++c::s)).map Rw.e)=some [.sl ((p++c::(u++s)).map Rw.e)]:=by
 intro n
 induction n with
 |zero=>
  intro u c p s k t hn hl hk ht
  have:u=[]:=List.length_eq_zero_iff.mp hn
  subst this
  simp only[List.length_nil]at hk
  rw[Z79,ltF (by omega),cond_false]
  rfl
 |succ n ih=>
  intro u c p s k t hn hl hk ht
  obtain⟨u',d,rfl⟩:∃u' d,u=u'++[d]:=by
   obtain⟨l',x,e⟩:=snoc_of (n:=n) (l:=u) hn
   exact⟨l',x,e⟩
  simp only[List.length_append,List.length_cons,List.length_nil]at hl hk hn
  rw[Z79,ltT (by omega),cond_true,ZBp (by omega) (by omega)]
  refine ZJ9 (l:=p++(u'++[d]++c::s)) (p:=p++u') (s:=s) (a:=d) (b:=c) (by simp) (by simp;omega) (by omega) (by simp only[List.length_append,List.length_cons,List.length_nil];omega) (K:=fun X=>Z5e a m b (t:Nat) ((k-1:Nat):Int) X) ?_
  have:=ih u' c p (d::s) (k-1) t (by omega) (by simp only[List.length_append,List.length_cons];omega) (by omega) ht
  show Z5e _ _ _ _ _ _=_
  rw[show p++u'++c::d::s=p++(u'++c::(d::s))by simp,this]
  simp
def Mg (u v w:List Rw):Prop:=w.Perm (u++v)∧Srt w
theorem Rw.le_lt {a b c:Rw} (h:Rw.le a b) (h2:Rw.lt b c):Rw.lt a c:=by unfold Rw.le Rw.lt at*;omega
theorem ZKe (c:Rw) (v p s:List Rw) (hv:Srt v) (hl:(p++(c::(v++s))).length<1152921504606846976) {a m b:Nat} (ha:a=p.length) (hm:m=a+1) (hb:b=m+v.length):
  ∃w,Mg [c] v w∧Z5b (a:Nat) (m:Nat) (b:Nat) (m:Nat) (b:Nat) ((p++c::(v++s)).map Rw.e)=some [.sl ((p++(w++s)).map Rw.e)]:=by
 have hl':=hl
 simp only[List.length_append,List.length_cons]at hl'
 have hxv:∀k,k<v.length→nth (p++c::(v++s)) (m+k)=nth v k:=fun k hk=>by
  rw[show p++c::(v++s)=(p++[c])++(v++s)by simp,Z6U _ _ (by simp;omega),Z84 _ _ (by simp;omega)]
  congr 1
  simp;omega
 have hxa:nth (p++c::(v++s)) a=c:=by rw[Z6U _ _ (by omega),ha];simp[nth]
 have hxl:(p++c::(v++s)).length=p.length+1+v.length+s.length:=by simp;omega
 obtain⟨t,t1,t2,t3⟩:=ZEe (fun h=>Rw.lt (nth (p++c::(v++s)) h) c) m v.length (fun i j h1 h2 h3 h4=>by
  have e1:=hxv (i-m) (by omega)
  have e2:=hxv (j-m) (by omega)
  rw[show m+(i-m)=i by omega]at e1
  rw[show m+(j-m)=j by omega]at e2
  rw[e1]
  rw[e2]at h4
  exact Rw.le_lt (ZEu hv (by omega) (by omega)) h4)
 have hb2:=bs (L:=fun i j:Nat=>Z5b (a:Nat) (m:Nat) (b:Nat) (i:Nat) (j:Nat) ((p++c::(v++s)).map Rw.e)) (K:=fun t:Nat=>Z5d (a:Nat) (m:Nat) (b:Nat) (t:Nat) (a:Nat) ((p++c::(v++s)).map Rw.e)) (t:=t) (lo:=m) (hi:=b)
  (fun i j h1 h2 h3=>by
   show Z5b _ _ _ _ _ _=_
   rw[Z75,ltT (by omega),cond_true,ZEt i j (by omega),ZDM (by omega),ZDM (by omega),cond_true,cond_true]
   refine ZGo (by omega) (by omega) ?_
   rw[ZKY,ZCg,hxa]
   have:=t3 ((i+j)/2) (by omega) (by omega)
   by_cases hc:(i+j)/2<t
   ·rw[if_pos hc,decide_eq_true (this.mpr hc),cond_true,Z7x (by omega)]
   ·rw[if_neg hc,decide_eq_false (fun h=>hc (this.mp h)),cond_false])
  (fun i h1 h2=>by
   show Z5b _ _ _ _ _ _=_
   rw[Z75,ltF (Int.le_refl _),cond_false])
  (b-m) m b (Nat.le_refl _) (Nat.le_refl _) t1 (by omega) (Nat.le_refl _)
 obtain⟨v1,v2,rfl,hv1⟩:=ZEv (u:=v) (t:=t-m) (by omega)
 refine⟨v1++c::v2,⟨List.perm_middle,?_⟩,?_⟩
 ·obtain⟨s1,s2,s3⟩:=List.pairwise_append.mp hv
  simp only[List.length_append]at*
  refine List.pairwise_append.mpr ⟨s1,List.pairwise_cons.mpr ⟨fun y hy=>?_,s2⟩,fun x hx y hy=>?_⟩
  ·obtain⟨k,hk,rfl⟩:=ZCh hy
   have h1:=hxv (v1.length+k) (by omega)
   rw[Z6U v1 v2 (by omega),show v1.length+k-v1.length=k by omega]at h1
   have h2:=t3 (m+(v1.length+k)) (by omega) (by omega)
   rw[h1]at h2
   exact fun h=>by have:=h2.mp h;omega
  ·rcases List.mem_cons.mp hy with rfl|hy
   ·obtain⟨k,hk,rfl⟩:=ZCh hx
    have h1:=hxv k (by omega)
    rw[Z84 v1 v2 hk]at h1
    have h2:=t3 (m+k) (by omega) (by omega)
    rw[h1]at h2
    exact Rw.lt_le (h2.mpr (by omega))
   ·exact s3 x hx y hy
 ·refine hb2.trans ?_
  show Z5d _ _ _ _ _ _=_
  simp only[List.length_append]at*
  rw[show p++c::(v1++v2++s)=p++c::(v1++(v2++s))by simp,ZKd _ _ _ v1 c p (v2++s) a t (by simp only[List.length_append,List.length_cons];omega) ha (by omega)]
  simp
theorem ZKf (c:Rw) (u p s:List Rw) (hu:Srt u) (hl:(p++(u++c::s)).length<1152921504606846976) {a m b:Nat} (ha:a=p.length) (hm:m=a+u.length) (hb:b=m+1):
  ∃w,Mg u [c] w∧Z5c (a:Nat) (m:Nat) (b:Nat) (a:Nat) (m:Nat) ((p++(u++c::s)).map Rw.e)=some [.sl ((p++(w++s)).map Rw.e)]:=by
 have hl':=hl
 simp only[List.length_append,List.length_cons]at hl'
 have hxu:∀k,k<u.length→nth (p++(u++c::s)) (a+k)=nth u k:=fun k hk=>by
  rw[Z6U _ _ (by omega),Z84 _ _ (by omega)]
  congr 1
  omega
 have hxm:nth (p++(u++c::s)) m=c:=by rw[Z6U _ _ (by omega),Z6U _ _ (by omega),show m-p.length-u.length=0 by omega];simp[nth]
 have hxl:(p++(u++c::s)).length=p.length+u.length+1+s.length:=by simp;omega
 obtain⟨t,t1,t2,t3⟩:=ZEe (fun h=>Rw.le (nth (p++(u++c::s)) h) c) a u.length (fun i j h1 h2 h3 h4=>by
  have e1:=hxu (i-a) (by omega)
  have e2:=hxu (j-a) (by omega)
  rw[show a+(i-a)=i by omega]at e1
  rw[show a+(j-a)=j by omega]at e2
  rw[e1]
  rw[e2]at h4
  exact Rw.le_tr (ZEu hu (by omega) (by omega)) h4)
 have hb2:=bs (L:=fun i j:Nat=>Z5c (a:Nat) (m:Nat) (b:Nat) (i:Nat) (j:Nat) ((p++(u++c::s)).map Rw.e)) (K:=fun t:Nat=>Z5e (a:Nat) (m:Nat) (b:Nat) (t:Nat) (m:Nat) ((p++(u++c::s)).map Rw.e)) (t:=t) (lo:=a) (hi:=m)
  (fun i j h1 h2 h3=>by
   show Z5c _ _ _ _ _ _=_
   rw[Z76,ltT (by omega),cond_true,ZEt i j (by omega),ZDM (by omega),ZDM (by omega),cond_true,cond_true]
   refine ZGo (by omega) (by omega) ?_
   rw[ZKY,ZCg,hxm]
   have:=t3 ((i+j)/2) (by omega) (by omega)
   by_cases hc:(i+j)/2<t
   ·rw[if_pos hc,decide_eq_false (this.mpr hc),Bool.not_false,cond_true,Z7x (by omega)]
   ·rw[if_neg hc,decide_eq_true (Decidable.not_not.mp fun h=>hc (this.mp h)),Bool.not_true,cond_false])
  (fun i h1 h2=>by
   show Z5c _ _ _ _ _ _=_
   rw[Z76,ltF (Int.le_refl _),cond_false])
  (m-a) a m (Nat.le_refl _) (Nat.le_refl _) t1 (by omega) (Nat.le_refl _)
 obtain⟨u1,u2,rfl,hu1⟩:=ZEv (u:=u) (t:=t-a) (by omega)
 refine⟨u1++c::u2,⟨?_,?_⟩,?_⟩
 ·rw[List.append_assoc]
  exact List.Perm.append_left u1 (by simpa using(List.perm_append_comm (l₁:=[c]) (l₂:=u2)))
 ·obtain⟨s1,s2,s3⟩:=List.pairwise_append.mp hu
  simp only[List.length_append]at*
  refine List.pairwise_append.mpr ⟨s1,List.pairwise_cons.mpr ⟨fun y hy=>?_,s2⟩,fun x hx y hy=>?_⟩
  ·obtain⟨k,hk,rfl⟩:=ZCh hy
   have h1:=hxu (u1.length+k) (by omega)
   rw[Z6U u1 u2 (by omega),show u1.length+k-u1.length=k by omega]at h1
   have h2:=t3 (a+(u1.length+k)) (by omega) (by omega)
   rw[h1]at h2
   exact Rw.lt_le (Decidable.not_not.mp fun h=>by have:=h2.mp h;omega)
  ·rcases List.mem_cons.mp hy with rfl|hy
   ·obtain⟨k,hk,rfl⟩:=ZCh hx
    have h1:=hxu k (by omega)
    rw[Z84 u1 u2 hk]at h1
    have h2:=t3 (a+k) (by omega) (by omega)
    rw[h1]at h2
    exact h2.mpr (by omega)
   ·exact s3 x hx y hy
 ·refine hb2.trans ?_
  show Z5e _ _ _ _ _ _=_
  simp only[List.length_append]at*
  rw[show p++(u1++u2++c::s)=p++u1++(u2++c::s)by simp,ZK6 _ _ _ u2.length u2 c (p++u1) s m t rfl (by simp only[List.length_append,List.length_cons];omega) (by simp;omega) (by simp;omega)]
  simp
noncomputable def mgR (mid e b:Int) (Z:Rows):Option (List Dat):=
 bif ltI mid e then(bif ltI e b then((callI tE Z5U [.sl Z,.int mid,.int e,.int b]).bind fun r=>some [.sl (gl r)])else some [.sl Z])else some [.sl Z]
noncomputable def mgL (a t mid e b:Int) (Z:Rows):Option (List Dat):=
 bif ltI a t then(bif ltI t mid then((callI tE Z5U [.sl Z,.int a,.int t,.int mid]).bind fun r=>mgR mid e b (gl r))else mgR mid e b Z)else mgR mid e b Z
theorem ZK7 (a m b mid n t q:Int) (X:Rows) (h:t=t):Z5X a m b mid n t t q X=
  bif ltI t m then(bif ltI m (w64 (n-t))then((callI tE Z66 [.sl X,.int t,.int m,.int (w64 (n-t))]).bind fun r=>mgL a t mid (w64 (n-t)) b (gl r))else mgL a t mid (w64 (n-t)) b X)else mgL a t mid (w64 (n-t)) b X:=by
 rw[Z77,ltF (Int.le_refl _),cond_false]
 rfl
def ZL7 (n:Nat):Prop:=∀(u v p s:List Rw),u.length+v.length≤n→0<u.length→0<v.length→Srt u→Srt v→(p++(u++(v++s))).length<1152921504606846976→∃w,Mg u v w∧
 ∀(a m b:Int),a=(p.length:Nat)→m=((p.length+u.length:Nat):Int)→b=((p.length+u.length+v.length:Nat):Int)→
  callI tE Z5U [.sl ((p++(u++(v++s))).map Rw.e),.int a,.int m,.int b]=some [.sl ((p++(w++s)).map Rw.e)]
theorem ZIK {v:List Rw} (h:Srt v):Mg [] v ([]++v):=⟨List.Perm.refl _,by simpa using h⟩
theorem ZIL {u:List Rw} (h:Srt u):Mg u [] (u++[]):=⟨List.Perm.refl _,by simpa using h⟩
theorem ZG5 {α:Type} {l:List α} (h:¬0<l.length):l=[]:=List.length_eq_zero_iff.mp (by omega)
theorem ZKg {n:Nat} (ih:ZL7 n) (u v p s:List Rw) (hn:u.length+v.length≤n) (hu:Srt u) (hv:Srt v) (hl:(p++(u++(v++s))).length<1152921504606846976) {mid e b:Int} (h1:mid=(p.length:Nat)) (h2:e=((p.length+u.length:Nat):Int)) (h3:b=((p.length+u.length+v.length:Nat):Int)):
  ∃w,Mg u v w∧mgR mid e b ((p++(u++(v++s))).map Rw.e)=some [.sl ((p++(w++s)).map Rw.e)]:=by
 unfold mgR
 by_cases c1:0<u.length
 ·by_cases c2:0<v.length
  ·obtain⟨w,w1,w2⟩:=ih u v p s hn c1 c2 hu hv hl
   refine⟨w,w1,?_⟩
   rw[ltT (by omega),cond_true,ltT (by omega),cond_true,w2 mid e b h1 h2 h3]
   rfl
  ·have:=ZG5 c2
   subst this
   refine⟨_,ZIL hu,?_⟩
   rw[ltT (by omega),cond_true,ltF (by simp at h3;omega),cond_false]
   simp
 ·have:=ZG5 c1
  subst this
  refine⟨_,ZIK hv,?_⟩
  rw[ltF (by simp at h2;omega),cond_false]
  simp
theorem ZKh {n:Nat} (ih:ZL7 n) (u1 v1 u2 v2 p s:List Rw) (hn1:u1.length+v1.length≤n) (hn2:u2.length+v2.length≤n) (hu1:Srt u1) (hv1:Srt v1) (hu2:Srt u2) (hv2:Srt v2)
  (hl:(p++(u1++(v1++(u2++(v2++s))))).length<1152921504606846976) {a t mid e b:Int} (h0:a=(p.length:Nat)) (h1:t=((p.length+u1.length:Nat):Int)) (h2:mid=((p.length+u1.length+v1.length:Nat):Int)) (h3:e=((p.length+u1.length+v1.length+u2.length:Nat):Int)) (h4:b=((p.length+u1.length+v1.length+u2.length+v2.length:Nat):Int)):
  ∃w1 w2,Mg u1 v1 w1∧Mg u2 v2 w2∧mgL a t mid e b ((p++(u1++(v1++(u2++(v2++s))))).map Rw.e)=some [.sl ((p++(w1++w2++s)).map Rw.e)]:=by
 have hl':=hl
 simp only[List.length_append]at hl'
 have left:∃w1,Mg u1 v1 w1∧mgL a t mid e b ((p++(u1++(v1++(u2++(v2++s))))).map Rw.e)=mgR mid e b ((p++(w1++(u2++(v2++s)))).map Rw.e):=by
  unfold mgL
  by_cases c1:0<u1.length
  ·by_cases c2:0<v1.length
   ·obtain⟨w,w1,w2⟩:=ih u1 v1 p (u2++(v2++s)) hn1 c1 c2 hu1 hv1 hl
    refine⟨w,w1,?_⟩
    rw[ltT (by omega),cond_true,ltT (by omega),cond_true,w2 a t mid h0 h1 h2]
    rfl
   ·have:=ZG5 c2
    subst this
    refine⟨_,ZIL hu1,?_⟩
    rw[ltT (by omega),cond_true,ltF (by simp at h2;omega),cond_false]
    simp
  ·have:=ZG5 c1
   subst this
   refine⟨_,ZIK hv1,?_⟩
   rw[ltF (by simp at h1;omega),cond_false]
   simp
 obtain⟨w1,m1,e1⟩:=left
 have hw1:w1.length=u1.length+v1.length:=by have:=m1.1.length_eq;simpa using this
 obtain⟨w2,m2,e2⟩:=ZKg ih u2 v2 (p++w1) s hn2 hu2 hv2 (by simp only[List.length_append];omega) (mid:=mid) (e:=e) (b:=b) (by simp only[List.length_append];omega) (by simp only[List.length_append];omega) (by simp only[List.length_append];omega)
 refine⟨w1,w2,m1,m2,?_⟩
 rw[e1,show p++(w1++(u2++(v2++s)))=p++w1++(u2++(v2++s))by simp,e2]
 simp
theorem ZK8 {u1 u2 v1 v2 w1 w2:List Rw} (hu:Srt (u1++u2)) (hv:Srt (v1++v2)) (m1:Mg u1 v1 w1) (m2:Mg u2 v2 w2) (h1:∀x∈u1,∀y∈v2,Rw.le x y) (h2:∀x∈v1,∀y∈u2,Rw.le x y):Mg (u1++u2) (v1++v2) (w1++w2):=by
 refine⟨(m1.1.append m2.1).trans ?_,List.pairwise_append.mpr ⟨m1.2,m2.2,fun x hx y hy=>?_⟩⟩
 ·rw[List.append_assoc,List.append_assoc]
  refine List.Perm.append_left u1 ?_
  rw[←List.append_assoc,←List.append_assoc]
  exact List.Perm.append_right v2 List.perm_append_comm
 ·obtain⟨_,_,a3⟩:=List.pairwise_append.mp hu
  obtain⟨_,_,b3⟩:=List.pairwise_append.mp hv
  have hx:=m1.1.mem_iff.mp hx
  have hy:=m2.1.mem_iff.mp hy
  rcases List.mem_append.mp hx with hx|hx<;>rcases List.mem_append.mp hy with hy|hy
  ·exact a3 x hx y hy
  ·exact h1 x hx y hy
  ·exact h2 x hx y hy
  ·exact b3 x hx y hy
theorem ZIM {n:Nat} (ih:ZL7 n) (u v p s:List Rw) (hn:u.length+v.length≤n+1) (hu0:0<u.length) (hv0:0<v.length) (hu:Srt u) (hv:Srt v) (hl:(p++(u++(v++s))).length<1152921504606846976) {a m b mid lo hi:Nat} (ha:a=p.length) (hm:m=a+u.length) (hb:b=m+v.length) (hmid:mid=(a+b)/2)
  (c1:lo≤hi) (c2:a≤lo) (c3:hi≤m) (c4:mid+m≤lo+b) (c5:hi≤mid) (c6:lo=a∨lo+b=mid+m) (c7:hi=m∨hi=mid):
  ∃w,Mg u v w∧Z5X (a:Nat) (m:Nat) (b:Nat) (mid:Nat) ((mid+m:Nat):Int) (lo:Nat) (hi:Nat) ((mid+m-1:Nat):Int) ((p++(u++(v++s))).map Rw.e)=some [.sl ((p++(w++s)).map Rw.e)]:=by
 have hl':=hl
 simp only[List.length_append]at hl'
 have hxl:(p++(u++(v++s))).length=p.length+u.length+v.length+s.length:=by simp only[List.length_append];omega
 have hxu:∀k,k<u.length→nth (p++(u++(v++s))) (a+k)=nth u k:=fun k hk=>by
  rw[Z6U p _ (by omega),Z84 u _ (by omega)]
  congr 1
  omega
 have hxv:∀k,k<v.length→nth (p++(u++(v++s))) (m+k)=nth v k:=fun k hk=>by
  rw[Z6U p _ (by omega),Z6U u _ (by omega),Z84 v _ (by omega)]
  congr 1
  omega
 have mu':∀i j,a≤i→i≤j→j<m→Rw.le (nth (p++(u++(v++s))) i) (nth (p++(u++(v++s))) j):=fun i j h1 h2 h3=>by
  have e1:=hxu (i-a) (by omega)
  have e2:=hxu (j-a) (by omega)
  rw[show a+(i-a)=i by omega]at e1
  rw[show a+(j-a)=j by omega]at e2
  rw[e1,e2]
  exact ZEu hu (by omega) (by omega)
 have mv':∀i j,m≤i→i≤j→j<b→Rw.le (nth (p++(u++(v++s))) i) (nth (p++(u++(v++s))) j):=fun i j h1 h2 h3=>by
  have e1:=hxv (i-m) (by omega)
  have e2:=hxv (j-m) (by omega)
  rw[show m+(i-m)=i by omega]at e1
  rw[show m+(j-m)=j by omega]at e2
  rw[e1,e2]
  exact ZEu hv (by omega) (by omega)
 obtain⟨t,t1,t2,t3⟩:=ZEe (fun c=>Rw.le (nth (p++(u++(v++s))) c) (nth (p++(u++(v++s))) (mid+m-1-c))) lo (hi-lo) (fun c d h1 h2 h3 h4=>
  Rw.le_tr (mu' c d (by omega) h2 (by omega)) (Rw.le_tr h4 (mv' _ _ (by omega) (by omega) (by omega))))
 rw[show lo+(hi-lo)=hi by omega]at t2 t3
 have hb2:=bs (L:=fun i j:Nat=>Z5X (a:Nat) (m:Nat) (b:Nat) (mid:Nat) ((mid+m:Nat):Int) (i:Nat) (j:Nat) ((mid+m-1:Nat):Int) ((p++(u++(v++s))).map Rw.e))
  (K:=fun t:Nat=>Z5X (a:Nat) (m:Nat) (b:Nat) (mid:Nat) ((mid+m:Nat):Int) (t:Nat) (t:Nat) ((mid+m-1:Nat):Int) ((p++(u++(v++s))).map Rw.e)) (t:=t) (lo:=lo) (hi:=hi)
  (fun i j h1 h2 h3=>by
   show Z5X _ _ _ _ _ _ _ _ _=_
   rw[Z77,ltT (by omega),cond_true,ZEt i j (by omega),ZC3 (a:=mid+m-1) (b:=(i+j)/2) (by omega) (by omega),ZDM (by omega),ZDM (by omega),cond_true,cond_true]
   refine ZGo (by omega) (by omega) ?_
   rw[ZKY,ZCg]
   have:=t3 ((i+j)/2) (by omega) (by omega)
   by_cases hc:(i+j)/2<t
   ·rw[if_pos hc,decide_eq_false (this.mpr hc),Bool.not_false,cond_true,Z7x (by omega)]
   ·rw[if_neg hc,decide_eq_true (Decidable.not_not.mp fun h=>hc (this.mp h)),Bool.not_true,cond_false])
  (fun i h1 h2=>rfl) (hi-lo) lo hi (Nat.le_refl _) (Nat.le_refl _) t1 t2 (Nat.le_refl _)
 obtain⟨u1,u2,rfl,hu1⟩:=ZEv (u:=u) (t:=t-a) (by omega)
 obtain⟨v1,v2,rfl,hv1⟩:=ZEv (u:=v) (t:=mid-t) (by omega)
 simp only[List.length_append]at hn hu0 hv0 hl' hm hb hxu hxv
 have x1:∀x∈u1,∀y∈v2,Rw.le x y:=fun x hx y hy=>by
  obtain⟨i,hi1,rfl⟩:=ZCh hx
  obtain⟨j,hj1,rfl⟩:=ZCh hy
  have e1:=hxu i (by omega)
  have e2:=hxv (v1.length+j) (by omega)
  rw[Z84 u1 u2 hi1]at e1
  rw[Z6U v1 v2 (by omega),show v1.length+j-v1.length=j by omega]at e2
  rw[←e1,←e2]
  have hp:=(t3 (t-1) (by omega) (by omega)).mpr (by omega)
  exact Rw.le_tr (mu' _ (t-1) (by omega) (by omega) (by omega)) (Rw.le_tr hp (mv' _ _ (by omega) (by omega) (by omega)))
 have x2:∀x∈v1,∀y∈u2,Rw.le x y:=fun x hx y hy=>by
  obtain⟨i,hi1,rfl⟩:=ZCh hx
  obtain⟨j,hj1,rfl⟩:=ZCh hy
  have e1:=hxv i (by omega)
  have e2:=hxu (u1.length+j) (by omega)
  rw[Z84 v1 v2 hi1]at e1
  rw[Z6U u1 u2 (by omega),show u1.length+j-u1.length=j by omega]at e2
  rw[←e1,←e2]
  have hp:¬Rw.le _ _:=fun h=>by have:=(t3 t (by omega) (by omega)).mp h;omega
  exact Rw.le_tr (mv' _ (mid+m-1-t) (by omega) (by omega) (by omega)) (Rw.le_tr (Rw.lt_le (Decidable.not_not.mp hp)) (mu' t _ (by omega) (by omega) (by omega)))
 obtain⟨su1,su2,_⟩:=List.pairwise_append.mp hu
 obtain⟨sv1,sv2,_⟩:=List.pairwise_append.mp hv
 obtain⟨w1,w2,m1,m2,hw⟩:=ZKh ih u1 v1 u2 v2 p s (by omega) (by omega) su1 sv1 su2 sv2 (by simp only[List.length_append];omega) (a:=(a:Nat)) (t:=(t:Nat)) (mid:=(mid:Nat)) (e:=((mid+m-t:Nat):Int)) (b:=(b:Nat)) (by omega) (by omega) (by omega) (by omega) (by omega)
 refine⟨w1++w2,ZK8 hu hv m1 m2 x1 x2,hb2.trans ?_⟩
 show Z5X _ _ _ _ _ _ _ _ _=_
 rw[ZK7 _ _ _ _ _ _ _ _ rfl,ZC3 (by omega) (by omega)]
 by_cases d1:0<u2.length
 ·by_cases d2:0<v1.length
  ·have:=ZKc (p++u1) u2 v1 (v2++s) d1 d2 (by simp only[List.length_append];omega) (a:=(t:Nat)) (m:=(m:Nat)) (b:=((mid+m-t:Nat):Int)) (by simp only[List.length_append];omega) (by simp only[List.length_append];omega) (by simp only[List.length_append];omega)
   rw[ltT (by omega),cond_true,ltT (by omega),cond_true,show p++(u1++u2++(v1++v2++s))=p++u1++(u2++(v1++(v2++s)))by simp,this]
   simp only[gA]
   rw[show p++u1++(v1++(u2++(v2++s)))=p++(u1++(v1++(u2++(v2++s))))by simp]
   exact hw
  ·have:=ZG5 d2
   subst this
   rw[ltT (by omega),cond_true,ltF (by simp at hv1;omega),cond_false]
   simpa using hw
 ·have:=ZG5 d1
  subst this
  rw[ltF (by simp at hm;omega),cond_false]
  simpa using hw
theorem ZK9:∀n,ZL7 n
 |0=>fun u v p s h h1=>by omega
 |n+1=>fun u v p s h hu0 hv0 hu hv hl=>by
  have ih:=ZK9 n
  have hl':=hl
  simp only[List.length_append]at hl'
  by_cases c1:u.length=1
  ·obtain⟨c,rfl⟩:=List.length_eq_one_iff.mp c1
   obtain⟨w,w1,w2⟩:=ZKe c v p s hv hl (a:=p.length) (m:=p.length+1) (b:=p.length+1+v.length) rfl rfl rfl
   refine⟨w,w1,fun a m b ha hm hb=>?_⟩
   subst ha;subst hm;subst hb
   rw[Z6O,ZC3 (by omega) (by omega),eqT (by simp),cond_true]
   exact w2
  ·by_cases c2:v.length=1
   ·obtain⟨c,rfl⟩:=List.length_eq_one_iff.mp c2
    obtain⟨w,w1,w2⟩:=ZKf c u p s hu hl (a:=p.length) (m:=p.length+u.length) (b:=p.length+u.length+1) rfl rfl rfl
    refine⟨w,w1,fun a m b ha hm hb=>?_⟩
    subst ha;subst hm;subst hb
    rw[Z6O,ZC3 (by omega) (by omega),eqF (by omega),cond_false,ZC3 (by omega) (by omega),eqT (by simp),cond_true]
    exact w2
   ·by_cases c3:(p.length+(p.length+u.length+v.length))/2<p.length+u.length
    ·obtain⟨w,w1,w2⟩:=ZIM ih u v p s h hu0 hv0 hu hv hl (a:=p.length) (m:=p.length+u.length) (b:=p.length+u.length+v.length) (mid:=(p.length+(p.length+u.length+v.length))/2) (lo:=(p.length+(p.length+u.length+v.length))/2+(p.length+u.length)-(p.length+u.length+v.length)) (hi:=(p.length+(p.length+u.length+v.length))/2) rfl rfl rfl rfl (by omega) (by omega) (by omega) (by omega) (by omega) (by omega) (.inr rfl)
     refine⟨w,w1,fun a m b ha hm hb=>?_⟩
     subst ha;subst hm;subst hb
     rw[Z6O,ZC3 (by omega) (by omega),eqF (by omega),cond_false,ZC3 (by omega) (by omega),eqF (by omega),cond_false,ZEt _ _ (by omega),ltT (by omega),cond_true,ZD6 _ _ (by omega),ZC3 (by omega) (by omega),ZBp (by omega) (by omega)]
     exact w2
    ·obtain⟨w,w1,w2⟩:=ZIM ih u v p s h hu0 hv0 hu hv hl (a:=p.length) (m:=p.length+u.length) (b:=p.length+u.length+v.length) (mid:=(p.length+(p.length+u.length+v.length))/2) (lo:=p.length) (hi:=p.length+u.length) rfl rfl rfl rfl (by omega) (by omega) (by omega) (by omega) (by omega) (.inl rfl) (.inl rfl)
     refine⟨w,w1,fun a m b ha hm hb=>?_⟩
     subst ha;subst hm;subst hb
     rw[Z6O,ZC3 (by omega) (by omega),eqF (by omega),cond_false,ZC3 (by omega) (by omega),eqF (by omega),cond_false,ZEt _ _ (by omega),ltF (by omega),cond_false,ZD6 _ _ (by omega),ZBp (by omega) (by omega)]
     exact w2
theorem ZJA {l p s:List Rw} {a b:Rw} {i j:Nat} (h:l=p++a::b::s) (hi:p.length=i) (hj:j=i+1) (hl:l.length<4611686018427387904) {X:Option (List Dat)} {K:Rows→Option (List Dat)} (hK:K ((p++b::a::s).map Rw.e)=X):
  (bif inR (i:Int) (lenI (updR (l.map Rw.e) (tn (j:Int)) 0 [.int (gn (at' (l.map Rw.e) (tn (i:Int)))),.int (gn (tk 1 (at' (l.map Rw.e) (tn (i:Int))))),.int (gn (tk 2 (at' (l.map Rw.e) (tn (i:Int)))))]))then
    K (updR (updR (l.map Rw.e) (tn (j:Int)) 0 [.int (gn (at' (l.map Rw.e) (tn (i:Int)))),.int (gn (tk 1 (at' (l.map Rw.e) (tn (i:Int))))),.int (gn (tk 2 (at' (l.map Rw.e) (tn (i:Int)))))]) (tn (i:Int)) 0 [.int (gn (at' (l.map Rw.e) (tn (j:Int)))),.int (gn (tk 1 (at' (l.map Rw.e) (tn (j:Int))))),.int (gn (tk 2 (at' (l.map Rw.e) (tn (j:Int)))))])
    else none)=X:=by
 have hb:at' (l.map Rw.e) j=b.e:=ZDs (u:=p++[a]) (v:=s) (by rw[h];simp) (by simp;omega)
 have ha:at' (l.map Rw.e) i=a.e:=ZDs h hi
 have hlen:l.length=p.length+1+1+s.length:=by rw[h];simp;omega
 have h1:updR (l.map Rw.e) j 0 [.int a.k,.int a.v,.int a.w]=(p++a::a::s).map Rw.e:=by
  rw[ZHt (u:=p++[a]) (v:=s) (a:=b) (by rw[h];simp) (by simp;omega)]
  simp
 have h2:updR ((p++a::a::s).map Rw.e) i 0 [.int b.k,.int b.v,.int b.w]=(p++b::a::s).map Rw.e:=ZHt rfl hi
 simp only[Z6v,hb,ha,gk,gv,gw,h1,h2]
 rw[ZDM (by simp;omega)]
 exact hK
theorem ZLW (a b i:Nat):∀(n:Nat) (w1 w2 p r:List Rw) (c:Rw) (j:Nat),w1.length=n→Srt (w1++w2)→(∀y∈w2,Rw.lt c y)→(p++(w1++c::(w2++r))).length<1152921504606846976→i<1152921504606846976→a=p.length→j=a+w1.length→
  ∃w,w.Perm (w1++c::w2)∧Srt w∧Z5h (a:Nat) (b:Nat) (i:Nat) (j:Nat) ((p++(w1++c::(w2++r))).map Rw.e)=Z5g (a:Nat) (b:Nat) ((i+1:Nat):Int) ((p++(w++r)).map Rw.e):=by
 intro n
 induction n with
 |zero=>
  intro w1 w2 p r c j hn hs hc hl hi ha hj
  have:w1=[]:=List.length_eq_zero_iff.mp hn
  subst this
  refine⟨c::w2,List.Perm.refl _,List.pairwise_cons.mpr ⟨fun y hy=>Rw.lt_le (hc y hy),by simpa using hs⟩,?_⟩
  simp only[List.length_nil]at hj
  rw[Z65,ltF (by omega),cond_false,Z7x (by omega)]
  simp
 |succ n ih=>
  intro w1 w2 p r c j hn hs hc hl hi ha hj
  obtain⟨w1,d,rfl⟩:=snoc_of (n:=n) (l:=w1) hn
  have hl':=hl
  simp only[List.length_append,List.length_cons,List.length_nil]at hl' hn hj
  have hxl:(p++(w1++[d]++c::(w2++r))).length=p.length+w1.length+2+w2.length+r.length:=by simp;omega
  have hc0:nth (p++(w1++[d]++c::(w2++r))) j=c:=by
   rw[Z6U p _ (by omega),Z6U (w1++[d]) _ (by simp;omega)]
   have:j-p.length-(w1++[d]).length=0:=by simp;omega
   rw[this];simp[nth]
  have hd0:nth (p++(w1++[d]++c::(w2++r))) (j-1)=d:=by
   rw[Z6U p _ (by omega),Z84 (w1++[d]) _ (by simp;omega),Z6U w1 _ (by omega)]
   have:j-1-p.length-w1.length=0:=by omega
   rw[this];simp[nth]
  have i1:inR (j:Int) (lenI ((p++(w1++[d]++c::(w2++r))).map Rw.e))=true:=ZDM (by omega)
  have i2:inR ((j-1:Nat):Int) (lenI ((p++(w1++[d]++c::(w2++r))).map Rw.e))=true:=ZDM (by omega)
  by_cases hcd:Rw.lt c d
  ·have hs':Srt (w1++d::w2):=by simpa using hs
   obtain⟨s1,s2,s3⟩:=List.pairwise_append.mp hs'
   obtain⟨w,q1,q2,q3⟩:=ih w1 (d::w2) p r c (j-1) (by omega) hs' (fun y hy=>by
    rcases List.mem_cons.mp hy with rfl|hy
    ·exact hcd
    ·exact hc y hy) (by simp only[List.length_append,List.length_cons]at*;omega) hi ha (by omega)
   refine⟨w,q1.trans ?_,q2,?_⟩
   ·rw[List.append_assoc]
    exact List.Perm.append_left w1 (List.Perm.swap d c w2)
   ·rw[Z65,ltT (by omega),cond_true,ZBp (by omega) (by omega),i1,i2,cond_true,cond_true]
    refine ZGo (i:=j) (j:=j-1) (by omega) (by omega) ?_
    rw[ZKY,ZCg,hc0,hd0,decide_eq_true hcd,cond_true,cond_true,cond_true,cond_true]
    refine ZJA (i:=j-1) (j:=j) (l:=p++(w1++[d]++c::(w2++r))) (p:=p++w1) (s:=w2++r) (a:=d) (b:=c) (by simp) (by simp;omega) (by omega) (by omega) (K:=fun X=>Z5h (a:Nat) (b:Nat) (i:Nat) ((j-1:Nat):Int) X) ?_
    show Z5h _ _ _ _ _=_
    rw[←q3]
    simp
  ·refine⟨w1++[d]++c::w2,List.Perm.refl _,?_,?_⟩
   ·obtain⟨s1,s2,s3⟩:=List.pairwise_append.mp hs
    refine List.pairwise_append.mpr ⟨s1,List.pairwise_cons.mpr ⟨fun y hy=>Rw.lt_le (hc y hy),s2⟩,fun x hx y hy=>?_⟩
    rcases List.mem_cons.mp hy with rfl|hy
    ·obtain⟨t1,t2,t3⟩:=List.pairwise_append.mp s1
     rcases List.mem_append.mp hx with hx|hx
     ·exact Rw.le_tr (t3 x hx d (by simp)) hcd
     ·simp at hx;subst hx;exact hcd
    ·exact s3 x hx y hy
   ·rw[Z65,ltT (by omega),cond_true,ZBp (by omega) (by omega),i1,i2,cond_true,cond_true]
    refine ZGo (i:=j) (j:=j-1) (by omega) (by omega) ?_
    rw[ZKY,ZCg,hc0,hd0,decide_eq_false hcd,cond_false,Z7x (by omega)]
    simp
theorem ZLM (a b:Nat):∀(r w p s:List Rw) (i:Nat),Srt w→(p++(w++(r++s))).length<1152921504606846976→a=p.length→i=a+w.length→b=i+r.length→
  ∃w',w'.Perm (w++r)∧Srt w'∧Z5g (a:Nat) (b:Nat) (i:Nat) ((p++(w++(r++s))).map Rw.e)=some [.sl ((p++(w'++s)).map Rw.e)]
 |[],w,p,s,i,hs,hl,ha,hi,hb=>by
  refine⟨w,by simp,hs,?_⟩
  rw[Z64,ltF (by simp at hb;omega),cond_false]
  rfl
 |c::r,w,p,s,i,hs,hl,ha,hi,hb=>by
  have hl':=hl
  simp only[List.length_append,List.length_cons]at hl' hb
  obtain⟨w2,q1,q2,q3⟩:=ZLW a b i w.length w [] p (r++s) c i rfl (by simpa using hs) (fun y hy=>by cases hy) (by simp only[List.length_append,List.length_cons,List.length_nil];omega) (by omega) ha hi
  have hw2:w2.length=w.length+1:=by have:=q1.length_eq;simpa using this
  obtain⟨w',r1,r2,r3⟩:=ZLM a b r w2 p s (i+1) q2 (by simp only[List.length_append];omega) ha (by omega) (by omega)
  refine⟨w',r1.trans ?_,r2,?_⟩
  ·refine(List.Perm.append_right r q1).trans ?_
   simp
  ·rw[Z64,ltT (by omega),cond_true]
   simp only[List.nil_append]at q3
   rw[show p++(w++(c::r++s))=p++(w++c::(r++s))by simp,q3]
   exact r3
theorem ZHG (r p s:List Rw) (hl:(p++(r++s)).length<1152921504606846976) {a b:Nat} (ha:a=p.length) (hb:b=a+r.length):
  ∃w,w.Perm r∧Srt w∧callI tE Z5i [.sl ((p++(r++s)).map Rw.e),.int (a:Nat),.int (b:Nat)]=some [.sl ((p++(w++s)).map Rw.e)]:=by
 have hl':=hl
 simp only[List.length_append]at hl'
 cases r with
 |nil=>
  refine⟨[],List.Perm.refl _,List.Pairwise.nil,?_⟩
  rw[Z74,Z7x (by omega),Z64,ltF (by simp at hb;omega),cond_false]
 |cons c r=>
  simp only[List.length_cons]at hb hl'
  obtain⟨w,q1,q2,q3⟩:=ZLM a b r [c] p s (a+1) (List.pairwise_singleton _ _) (by simp only[List.length_append,List.length_cons,List.length_nil];omega) ha rfl (by omega)
  refine⟨w,by simpa using q1,q2,?_⟩
  rw[Z74,Z7x (by omega)]
  exact q3
def Blk (k:Nat) (l:List Rw):Prop:=∀i j,i≤j→j<l.length→i/k=j/k→Rw.le (nth l i) (nth l j)
theorem ZJp {l:List Rw} (h:∀i j,i≤j→j<l.length→Rw.le (nth l i) (nth l j)):Srt l:=by
 refine List.pairwise_iff_getElem.mpr fun i j hi hj hij=>?_
 have:=h i j (by omega) hj
 simpa[nth,List.getD_eq_getElem?_getD,hi,hj]using this
theorem Blk.app {k:Nat} (_hk:0<k) {p w:List Rw} (hp:Blk k p) (hd:k∣p.length) (hw:Srt w) (hl:w.length≤k):Blk k (p++w):=fun i j hij hj he=>by
 obtain⟨m,hm⟩:=hd
 simp only[List.length_append]at hj
 by_cases h1:j<p.length
 ·rw[Z84 p w (by omega),Z84 p w h1]
  exact hp i j hij h1 he
 ·have h2:p.length≤i:=by
   by_cases h3:i<p.length
   ·exfalso
    have a1:i/k<m:=by rw[Nat.div_lt_iff_lt_mul _hk,Nat.mul_comm];omega
    have a2:m≤j/k:=by rw[Nat.le_div_iff_mul_le _hk,Nat.mul_comm];omega
    omega
   ·omega
  rw[Z6U p w h2,Z6U p w (by omega)]
  exact ZEu hw (by omega) (by omega)
theorem Blk.cut {k:Nat} (hk:0<k) {u r:List Rw} (h:Blk k (u++r)) (hu:u.length=k):Srt u∧Blk k r:=by
 refine⟨ZJp fun i j hij hj=>?_,fun i j hij hj he=>?_⟩
 ·have:=h i j hij (by simp;omega) (by rw[Nat.div_eq_of_lt (by omega),Nat.div_eq_of_lt (by omega)])
  rwa [Z84 u r (by omega),Z84 u r hj]at this
 ·have:=h (u.length+i) (u.length+j) (by omega) (by simp;omega) (by rw[hu,Nat.add_div_left _ hk,Nat.add_div_left _ hk,he])
  rw[Z6U u r (by omega),Z6U u r (by omega)]at this
  simpa using this
theorem Blk.srt {k:Nat} {l:List Rw} (h:Blk k l) (hl:l.length≤k):Srt l:=ZJp fun i j hij hj=>h i j hij hj (by rw[Nat.div_eq_of_lt (by omega),Nat.div_eq_of_lt (by omega)])
theorem st0 (n:Nat):∀(f:Nat) (r p:List Rw),r.length≤f→Blk 20 p→20∣p.length→n=p.length+r.length→n<1152921504606846976→
  ∃x,x.Perm (p++r)∧Blk 20 x∧Z5z (n:Nat) 20 (p.length:Nat) ((p.length+20:Nat):Int) ((p++r).map Rw.e)=Z5Y (n:Nat) 20 (x.map Rw.e):=by
 intro f
 induction f with
 |zero=>
  intro r p hf hb hd hn hl
  have:r=[]:=List.length_eq_zero_iff.mp (by omega)
  subst this
  simp only[List.length_nil]at hn
  obtain⟨w,w1,w2,w3⟩:=ZHG [] p [] (by simp;omega) (a:=p.length) (b:=n) rfl (by simp;omega)
  have:w=[]:=w1.eq_nil
  subst this
  refine⟨p,by simp,hb,?_⟩
  simp only[List.append_nil]at w3⊢
  rw[Z6Z,show leI ((p.length+20:Nat):Int) (n:Nat)=false from leF (by omega),cond_false,w3]
  rfl
 |succ f ih=>
  intro r p hf hb hd hn hl
  by_cases hr:20≤r.length
  ·obtain⟨r1,r2,rfl,hr1⟩:=ZEv (u:=r) (t:=20) hr
   simp only[List.length_append]at hn hf hr
   obtain⟨w,w1,w2,w3⟩:=ZHG r1 p r2 (by simp only[List.length_append];omega) (a:=p.length) (b:=p.length+20) rfl (by omega)
   have hw:=w1.length_eq
   obtain⟨x,x1,x2,x3⟩:=ih r2 (p++w) (by omega) (hb.app (by omega) hd w2 (by omega)) (by simp only[List.length_append];omega) (by simp only[List.length_append];omega) hl
   refine⟨x,x1.trans ?_,x2,?_⟩
   ·rw[List.append_assoc]
    exact List.Perm.append_left p (List.Perm.append_right r2 w1)
   ·rw[Z6Z,leT (by omega),cond_true,w3]
    simp only[gA]
    rw[show w64 (((p.length+20:Nat):Int)+20)=((p.length+20+20:Nat):Int)from ZD6 _ 20 (by omega)]
    simp only[List.length_append,hw,hr1,List.append_assoc]at x3
    exact x3
  ·obtain⟨w,w1,w2,w3⟩:=ZHG r p [] (by simp;omega) (a:=p.length) (b:=n) rfl (by omega)
   have hw:=w1.length_eq
   refine⟨p++w,List.Perm.append_left p w1,hb.app (by omega) hd w2 (by omega),?_⟩
   simp only[List.append_nil]at w3
   rw[Z6Z,leF (by omega),cond_false,w3]
   rfl
theorem ZEw (k:Nat) (h:k<1152921504606846976):w64 (2*(k:Int))=((2*k:Nat):Int)∧w64 ((k:Int)*2)=((2*k:Nat):Int):=by
 constructor<;>(rw[Z5W ⟨by omega,by omega⟩];omega)
theorem st2 (n k:Nat) (hk:0<k) (hk2:k<1152921504606846976):∀(f:Nat) (r p:List Rw),r.length≤f→Blk (2*k) p→(2*k)∣p.length→Blk k r→n=p.length+r.length→n<1152921504606846976→
  ∃x,x.Perm (p++r)∧Blk (2*k) x∧Z60 (n:Nat) (k:Nat) (p.length:Nat) ((p.length+2*k:Nat):Int) ((p++r).map Rw.e)=Z5Y (n:Nat) ((2*k:Nat):Int) (x.map Rw.e):=by
 have small:∀(r p:List Rw),r.length≤k→Blk (2*k) p→(2*k)∣p.length→Blk k r→n=p.length+r.length→n<1152921504606846976→
   ∃x,x.Perm (p++r)∧Blk (2*k) x∧Z60 (n:Nat) (k:Nat) (p.length:Nat) ((p.length+2*k:Nat):Int) ((p++r).map Rw.e)=Z5Y (n:Nat) ((2*k:Nat):Int) (x.map Rw.e):=fun r p h1 hb hd hr hn hl=>by
  refine⟨p++r,List.Perm.refl _,hb.app (by omega) hd (hr.srt h1) (by omega),?_⟩
  rw[Z6a,leF (by omega),cond_false,ZD6 _ _ (by omega),ltF (by omega),cond_false,(ZEw k hk2).2]
 intro f
 induction f with
 |zero=>exact fun r p hf hb hd hr hn hl=>small r p (by omega) hb hd hr hn hl
 |succ f ih=>
  intro r p hf hb hd hr hn hl
  by_cases h1:r.length≤k
  ·exact small r p h1 hb hd hr hn hl
  ·obtain⟨u,r',rfl,hu⟩:=ZEv (u:=r) (t:=k) (by omega)
   obtain⟨su,hr'⟩:=hr.cut hk hu
   simp only[List.length_append]at hn hf h1
   by_cases h2:k≤r'.length
   ·obtain⟨v,r2,rfl,hv⟩:=ZEv (u:=r') (t:=k) h2
    obtain⟨sv,hr2⟩:=hr'.cut hk hv
    simp only[List.length_append]at hn hf h1 h2
    obtain⟨w,w1,w2⟩:=ZK9 _ u v p r2 (Nat.le_refl _) (by omega) (by omega) su sv (by simp only[List.length_append];omega)
    have hw:=w1.1.length_eq
    simp only[List.length_append]at hw
    obtain⟨x,x1,x2,x3⟩:=ih r2 (p++w) (by omega) (hb.app (by omega) hd w1.2 (by omega)) (by
     simp only[List.length_append]
     rw[hw,hu,hv,←Nat.two_mul]
     exact Nat.dvd_add hd (Nat.dvd_refl _)) hr2 (by simp only[List.length_append];omega) hl
    refine⟨x,x1.trans ?_,x2,?_⟩
    ·rw[List.append_assoc,←List.append_assoc u]
     exact List.Perm.append_left p (List.Perm.append_right r2 w1.1)
    ·rw[Z6a,leT (by omega),cond_true,ZD6 _ _ (by omega),w2 _ _ _ rfl (by omega) (by omega)]
     simp only[gA]
     rw[(ZEw k hk2).1,ZD6 _ _ (by omega)]
     simp only[List.length_append,hw,hu,hv,List.append_assoc,←Nat.two_mul]at x3
     exact x3
   ·have sv:=hr'.srt (by omega)
    obtain⟨w,w1,w2⟩:=ZK9 _ u r' p [] (Nat.le_refl _) (by omega) (by omega) su sv (by simp only[List.length_append,List.length_nil];omega)
    have hw:=w1.1.length_eq
    simp only[List.length_append]at hw
    refine⟨p++w,List.Perm.append_left p w1.1,hb.app (by omega) hd w1.2 (by omega),?_⟩
    have w2:=w2 (p.length:Nat) ((p.length+k:Nat):Int) (n:Nat) rfl (by omega) (by omega)
    simp only[List.append_nil]at w2
    rw[Z6a,leF (by omega),cond_false,ZD6 _ _ (by omega),ltT (by omega),cond_true,w2]
    simp only[gA]
    rw[(ZEw k hk2).2]
theorem st1 (n:Nat) (hn:n<1152921504606846976):∀(f k:Nat) (x:List Rw),0<k→n≤k+f→k<1152921504606846976→Blk k x→x.length=n→
  ∃y,y.Perm x∧Srt y∧Z5Y (n:Nat) (k:Nat) (x.map Rw.e)=some [.sl (y.map Rw.e)]:=by
 intro f
 induction f with
 |zero=>
  intro k x hk hf hk2 hb hx
  refine⟨x,List.Perm.refl _,hb.srt (by omega),?_⟩
  rw[Z5s,ltF (by omega),cond_false]
 |succ f ih=>
  intro k x hk hf hk2 hb hx
  by_cases h:k<n
  ·obtain⟨y,y1,y2,y3⟩:=st2 n k hk hk2 x.length x [] (Nat.le_refl _) (fun i j hi hj=>by simp at hj) (by simp) hb (by simpa using hx.symm) hn
   have hy:=y1.length_eq
   simp only[List.nil_append,List.length_nil,Nat.zero_add]at hy y1 y3
   by_cases h3:2*k<1152921504606846976
   ·obtain⟨z,z1,z2,z3⟩:=ih (2*k) y (by omega) (by omega) h3 y2 (by omega)
    refine⟨z,z1.trans y1,z2,?_⟩
    rw[Z5s,ltT (by omega),cond_true,(ZEw k hk2).1]
    exact y3.trans z3
   ·refine⟨y,y1,y2.srt (by omega),?_⟩
    rw[Z5s,ltT (by omega),cond_true,(ZEw k hk2).1]
    refine y3.trans ?_
    rw[Z5s,ltF (by omega),cond_false]
  ·refine⟨x,List.Perm.refl _,hb.srt (by omega),?_⟩
   rw[Z5s,ltF (by omega),cond_false]
theorem ZHu (x:List Rw) (hx:x.length<1152921504606846976):∃y,y.Perm x∧Srt y∧callI tE Z6t [.sl (x.map Rw.e)]=some [.sl (y.map Rw.e)]:=by
 obtain⟨z,z1,z2,z3⟩:=st0 x.length x.length x [] (Nat.le_refl _) (fun i j hi hj=>by simp at hj) (by simp) (by simp) hx
 simp only[List.nil_append,List.length_nil,Nat.zero_add]at z1 z3
 obtain⟨y,y1,y2,y3⟩:=st1 x.length hx x.length 20 z (by omega) (by omega) (by omega) z2 z1.length_eq
 refine⟨y,y1.trans z1,y2,?_⟩
 rw[ZBQ,Z5V,ZBj]
 have z3:Z5z (x.length:Nat) 20 0 20 (x.map Rw.e)=Z5Y (x.length:Nat) 20 (z.map Rw.e):=z3
 have y3:Z5Y (x.length:Nat) 20 (z.map Rw.e)=some [.sl (y.map Rw.e)]:=y3
 rw[z3,y3]
 rfl
set_option maxRecDepth 100000
theorem ZGp (a0:Rows) (a1:Int):callI tE ZCZ [.sl a0,.int a1]=(((callI tE Z6P [(.sl a0),(.int a1)])).bind (fun r0=>(bif(ltI (gn r0) 0)then(some [(.int (-1))])else(some [(.int (gn r0))])))):=(callI_run rfl (by kernel_rfl)).trans (by kernel_rfl)
noncomputable def Z8L (x0:Rows) (x1 x2:Int):Option (List Dat):=loopK tE ZB5 0 ⟨[(0,(.ro 345 Bool.false x0)),(1,(.i .i64 x1)),(5,(.i .i64 x2))],[]⟩
theorem ZBq (x0:Rows) (x1 x2:Int):Z8L x0 x1 x2=(bif(ltI x2 (lenI x0))then(bif(inR x2 (lenI x0))then(((callI tE ZCZ [(.sl (gl (at' x0 (tn x2)))),(.int x1)])).bind (fun r0=>(bif(ltI (gn r0) 0)then(some [(.int (-1))])else(Z8L x0 (gn r0) (w64 (x2+1))))))else none)else(some [(.int x1)])):=(loopK_run (by kernel_rfl)).trans (by kernel_rfl)
theorem ZGG (a0:Rows) (a1:Int):callI tE ZB5 [.sl a0,.int a1]=(bif(ltI (w64 (a1-(lenI a0))) 0)then(some [(.int (-1))])else(Z8L a0 (w64 (a1-(lenI a0))) 0)):=(callI_run rfl (by kernel_rfl)).trans (by kernel_rfl)
theorem ZEx (a0:Rows) (a1:Int) (a2 a3 a4 a5:Rows) (a6 a7 a8 a9 a10:Int):callI tE ZBB [.sl a0,.int a1,.sl a2,.sl a3,.sl a4,.sl a5,.int a6,.int a7,.int a8,.int a9,.int a10]=(((callI tE Z6P [(.sl a0),(.int a10)])).bind (fun r0=>(bif(ltI (gn r0) 0)then(some [(.int (-1))])else(((callI tE Z6P [(.sl a2),(.int (gn r0))])).bind (fun r1=>(bif(ltI (gn r1) 0)then(some [(.int (-1))])else(((callI tE Z6P [(.sl a3),(.int (gn r1))])).bind (fun r2=>(bif(ltI (gn r2) 0)then(some [(.int (-1))])else(((callI tE Z6P [(.sl a4),(.int (gn r2))])).bind (fun r3=>(bif(ltI (gn r3) 0)then(some [(.int (-1))])else(((callI tE ZB5 [(.sl a5),(.int (gn r3))])).bind (fun r4=>(bif(ltI (gn r4) 0)then(some [(.int (-1))])else(some [(.int (gn r4))])))))))))))))))):=(callI_run rfl (by kernel_rfl)).trans (by kernel_rfl)
theorem ZGH (a0:Rows) (a1 a2:Int):callI tE Z9Y [.sl a0,.int a1,.int a2]=(bif(ltI a1 (lenI a0))then(bif(inR a1 (lenI a0))then(bif(ltI a2 (lenI (gl (at' a0 (tn a1)))))then(bif(inR a1 (lenI a0))then(bif(inR a2 (lenI (gl (at' a0 (tn a1)))))then(some [(.sl [[(.int (gn (at' (gl (at' a0 (tn a1))) (tn a2)))),(.int (gn (tk 1 (at' (gl (at' a0 (tn a1))) (tn a2))))),(.int (gn (tk 2 (at' (gl (at' a0 (tn a1))) (tn a2)))))]])])else none)else none)else(some [(.sl [])]))else none)else(some [(.sl [])])):=(callI_run rfl (by kernel_rfl)).trans (by kernel_rfl)
theorem ZD7 (a0:Rows) (a1:Int) (a2 a3 a4 a5:Rows) (a6 a7 a8 a9:Int):callI tE Z7e [.sl a0,.int a1,.sl a2,.sl a3,.sl a4,.sl a5,.int a6,.int a7,.int a8,.int a9]=(bif(eqI a8 1)then(((callI tE Z6S [(.sl a2)])).bind (fun r0=>(((callI tE Z6S [(.sl a3)])).bind (fun r1=>(some [(.int (w64 ((gn r0)+(gn r1))))])))))else(bif(eqI a8 2)then(bif(ltI a6 0)then(some [(.int 0)])else(bif(ltI a7 0)then(some [(.int 0)])else(((callI tE Z9Y [(.sl a5),(.int 0),(.int a6)])).bind (fun r0=>(((callI tE Z6S [(.sl (gl r0))])).bind (fun r1=>(((callI tE Z9Y [(.sl a5),(.int 1),(.int a7)])).bind (fun r2=>(((callI tE Z6S [(.sl (gl r2))])).bind (fun r3=>(some [(.int (w64 ((gn r1)+(gn r3))))])))))))))))else(bif(eqI a8 3)then(bif(ltI a6 0)then(some [(.int 0)])else(((callI tE Z9Y [(.sl a5),(.int 0),(.int a6)])).bind (fun r0=>(((callI tE Z6S [(.sl (gl r0))])).bind (fun r1=>(some [(.int (gn r1))]))))))else(some [(.int 0)])))):=(callI_run rfl (by kernel_rfl)).trans (by kernel_rfl)
noncomputable def Z7E (x0:Rows) (x1:Int):Option (List Dat):=loopK tE Z7f 0 ⟨[(0,(.ro 277 Bool.false x0)),(3,(.i .i64 x1))],[]⟩
theorem Z9Q (x0:Rows) (x1:Int):Z7E x0 x1=(bif(ltI x1 (lenI x0))then(bif(inR x1 (lenI x0))then(bif(eqI (lenI (gl (at' x0 (tn x1)))) 0)then(some [(.bool Bool.false)])else(bif(inR x1 (lenI x0))then(((callI tE Z8E [(.sl (gl (at' x0 (tn x1))))])).bind (fun r0=>(bif(!(gb r0))then(some [(.bool Bool.false)])else(bif(inR x1 (lenI x0))then(((callI tE Z61 [(.sl (gl (at' x0 (tn x1))))])).bind (fun r1=>(bif(!(gb r1))then(some [(.bool Bool.false)])else(Z7E x0 (w64 (x1+1))))))else none))))else none))else none)else(some [(.bool Bool.true)])):=(loopK_run (by kernel_rfl)).trans (by kernel_rfl)
theorem ZD8 (a0:Rows):callI tE Z7f [.sl a0]=(Z7E a0 0):=(callI_run rfl (by kernel_rfl)).trans (by kernel_rfl)
noncomputable def Z69 (x0:Rows) (x1:Int) (x2:Rows):Option (List Dat):=loopK tE Z6f 0 ⟨[(0,(.ro 277 Bool.false x0)),(3,(.own (500000,0))),(4,(.i .i64 x1))],[((500000,0),(.row 224 x2 Bool.true 0 []))]⟩
theorem Z9q (x0:Rows) (x1:Int) (x2:Rows):Z69 x0 x1 x2=(bif(ltI x1 (lenI x0))then(bif(inR x1 (lenI x0))then(bif(fitM ((len x2)+(len (gl (at' x0 (tn x1))))) 24)then(Z69 x0 (w64 (x1+1)) (List.append x2 (gl (at' x0 (tn x1)))))else none)else none)else(some [(.sl x2)])):=(loopK_run (by kernel_rfl)).trans (by kernel_rfl)
theorem ZDV (a0:Rows):callI tE Z6f [.sl a0]=(Z69 a0 0 []):=(callI_run rfl (by kernel_rfl)).trans (by kernel_rfl)
noncomputable def Z5n (x0 x1:Rows) (x2 x3:Int) (x4:Rows):Option (List Dat):=loopK tE Z6z 0 ⟨[(0,(.ro 224 Bool.false x0)),(1,(.ro 224 Bool.false x1)),(5,(.own (500000,0))),(6,(.i .i64 x2)),(7,(.i .i64 x3))],[((500000,0),(.row 224 x4 Bool.true 0 []))]⟩
theorem Z6o (x0 x1:Rows) (x2 x3:Int) (x4:Rows):Z5n x0 x1 x2 x3 x4=(bif(ltI x2 (lenI x0))then(bif(eqI x3 (lenI x1))then(bif(inR x2 (lenI x0))then(bif(fitM (Nat.succ (len x4)) 24)then(Z5n x0 x1 (w64 (x2+1)) x3 (List.append x4 [[(.int (gn (at' x0 (tn x2)))),(.int (gn (tk 1 (at' x0 (tn x2))))),(.int (gn (tk 2 (at' x0 (tn x2)))))]]))else none)else none)else(bif(ltI x2 (lenI x0))then(bif(inR x2 (lenI x0))then(bif(inR x3 (lenI x1))then(((callI tE Z6B [(.int (gn (at' x0 (tn x2)))),(.int (gn (tk 1 (at' x0 (tn x2))))),(.int (gn (tk 2 (at' x0 (tn x2))))),(.int (gn (at' x1 (tn x3)))),(.int (gn (tk 1 (at' x1 (tn x3))))),(.int (gn (tk 2 (at' x1 (tn x3)))))])).bind (fun r0=>(bif(leI (gn r0) 0)then(bif(inR x2 (lenI x0))then(bif(fitM (Nat.succ (len x4)) 24)then(Z5n x0 x1 (w64 (x2+1)) x3 (List.append x4 [[(.int (gn (at' x0 (tn x2)))),(.int (gn (tk 1 (at' x0 (tn x2))))),(.int (gn (tk 2 (at' x0 (tn x2)))))]]))else none)else none)else(bif(inR x3 (lenI x1))then(bif(fitM (Nat.succ (len x4)) 24)then(Z5n x0 x1 x2 (w64 (x3+1)) (List.append x4 [[(.int (gn (at' x1 (tn x3)))),(.int (gn (tk 1 (at' x1 (tn x3))))),(.int (gn (tk 2 (at' x1 (tn x3)))))]]))else none)else none))))else none)else none)else(bif(inR x3 (lenI x1))then(bif(fitM (Nat.succ (len x4)) 24)then(Z5n x0 x1 x2 (w64 (x3+1)) (List.append x4 [[(.int (gn (at' x1 (tn x3)))),(.int (gn (tk 1 (at' x1 (tn x3))))),(.int (gn (tk 2 (at' x1 (tn x3)))))]]))else none)else none)))else(bif(ltI x3 (lenI x1))then(bif(eqI x3 (lenI x1))then(bif(inR x2 (lenI x0))then(bif(fitM (Nat.succ (len x4)) 24)then(Z5n x0 x1 (w64 (x2+1)) x3 (List.append x4 [[(.int (gn (at' x0 (tn x2)))),(.int (gn (tk 1 (at' x0 (tn x2))))),(.int (gn (tk 2 (at' x0 (tn x2)))))]]))else none)else none)else(bif(ltI x2 (lenI x0))then(bif(inR x2 (lenI x0))then(bif(inR x3 (lenI x1))then(((callI tE Z6B [(.int (gn (at' x0 (tn x2)))),(.int (gn (tk 1 (at' x0 (tn x2))))),(.int (gn (tk 2 (at' x0 (tn x2))))),(.int (gn (at' x1 (tn x3)))),(.int (gn (tk 1 (at' x1 (tn x3))))),(.int (gn (tk 2 (at' x1 (tn x3)))))])).bind (fun r0=>(bif(leI (gn r0) 0)then(bif(inR x2 (lenI x0))then(bif(fitM (Nat.succ (len x4)) 24)then(Z5n x0 x1 (w64 (x2+1)) x3 (List.append x4 [[(.int (gn (at' x0 (tn x2)))),(.int (gn (tk 1 (at' x0 (tn x2))))),(.int (gn (tk 2 (at' x0 (tn x2)))))]]))else none)else none)else(bif(inR x3 (lenI x1))then(bif(fitM (Nat.succ (len x4)) 24)then(Z5n x0 x1 x2 (w64 (x3+1)) (List.append x4 [[(.int (gn (at' x1 (tn x3)))),(.int (gn (tk 1 (at' x1 (tn x3))))),(.int (gn (tk 2 (at' x1 (tn x3)))))]]))else none)else none))))else none)else none)else(bif(inR x3 (lenI x1))then(bif(fitM (Nat.succ (len x4)) 24)then(Z5n x0 x1 x2 (w64 (x3+1)) (List.append x4 [[(.int (gn (at' x1 (tn x3)))),(.int (gn (tk 1 (at' x1 (tn x3))))),(.int (gn (tk 2 (at' x1 (tn x3)))))]]))else none)else none)))else(some [(.sl x4)]))):=(loopK_run (by kernel_rfl)).trans (by kernel_rfl)
theorem ZDW (a0 a1:Rows):callI tE Z6z [.sl a0,.sl a1]=(Z5n a0 a1 0 0 []):=(callI_run rfl (by kernel_rfl)).trans (by kernel_rfl)
noncomputable def Z6D (x0 x1 x2:Int) (x3:Rows) (x4:Int) (x5 x6 x7 x8:Rows) (x9 x10 x11 x12:Int):Option (List Dat):=loopK tE Z7L 0 ⟨[(1,(.ptr (500000,0) x0 0)),(3,(.i .i64 x1)),(4,(.i .i64 x2))],[((500000,0),(.box 54 [(.ro 224 Bool.false x3),(.i .i64 x4),(.ro 224 Bool.false x5),(.ro 224 Bool.false x6),(.ro 224 Bool.false x7),(.ro 277 Bool.false x8),(.i .i64 x9),(.i .i64 x10),(.i .i64 x11),(.i .i64 x12)]))]⟩
theorem Z8n (x0 x1 x2:Int) (x3:Rows) (x4:Int) (x5 x6 x7 x8:Rows) (x9 x10 x11 x12:Int):Z6D x0 x1 x2 x3 x4 x5 x6 x7 x8 x9 x10 x11 x12=(bif(ltI x2 (lenI x5))then(bif(leI 0 x1)then(bif(inR x2 (lenI x5))then(bif(inR x1 (lenI x7))then(((callI tE Z6B [(.int (gn (at' x5 (tn x2)))),(.int (gn (tk 1 (at' x5 (tn x2))))),(.int (gn (tk 2 (at' x5 (tn x2))))),(.int (gn (at' x7 (tn x1)))),(.int (gn (tk 1 (at' x7 (tn x1))))),(.int (gn (tk 2 (at' x7 (tn x1)))))])).bind (fun r0=>(bif(ltI (gn r0) 0)then(some [(.bool Bool.false)])else(Z6D x0 x1 (w64 (x2+1)) x3 x4 x5 x6 x7 x8 x9 x10 x11 x12))))else none)else none)else(Z6D x0 x1 (w64 (x2+1)) x3 x4 x5 x6 x7 x8 x9 x10 x11 x12))else(bif(eqI x11 1)then(((callI tE Z6f [(.sl x8)])).bind (fun r0=>(bif(fitM ((len (gl r0))+(len x7)) 24)then(bif(fitM ((len (List.append (gl r0) x7))+(len x5)) 24)then(bif(fitM ((len (List.append (List.append (gl r0) x7) x5))+(len x6)) 24)then(bif(eqI x9 0)then(bif(eqI x10 0)then(bif(eqI (lenI x6) 0)then(((callI tE Z7e [(.sl x3),(.int x4),(.sl x5),(.sl x6),(.sl x7),(.sl x8),(.int x9),(.int x10),(.int x11),(.int x12)])).bind (fun r1=>(bif(leI (gn r1) 60)then(bif((leI 0 x4)&&(leI x4 (lenI x3)))then(((callI tE Z6j [(.sl (List.append (List.append (List.append (gl r0) x7) x5) x6)),(.sl (List.take (tn (x4-0)) (List.drop (tn 0) x3)))])).bind (fun r2=>(some [(.bool (gb r2))])))else none)else(some [(.bool Bool.false)]))))else(bif(leI 0 x1)then(((callI tE Z7e [(.sl x3),(.int x4),(.sl x5),(.sl x6),(.sl x7),(.sl x8),(.int x9),(.int x10),(.int x11),(.int x12)])).bind (fun r1=>(bif(leI (gn r1) 60)then(bif((leI 0 x4)&&(leI x4 (lenI x3)))then(((callI tE Z6j [(.sl (List.append (List.append (List.append (gl r0) x7) x5) x6)),(.sl (List.take (tn (x4-0)) (List.drop (tn 0) x3)))])).bind (fun r2=>(some [(.bool (gb r2))])))else none)else(some [(.bool Bool.false)]))))else(some [(.bool Bool.false)])))else(some [(.bool Bool.false)]))else(some [(.bool Bool.false)]))else none)else none)else none)))else(bif(!(eqI x4 (lenI x3)))then(some [(.bool Bool.false)])else(bif(ltI 0 (w64 ((lenI x5)+(lenI x6))))then(some [(.bool Bool.false)])else(bif(eqI x11 2)then(bif(ltI (lenI x8) 2)then(some [(.bool Bool.false)])else(bif(inR 0 (lenI x8))then(((callI tE Z5l [(.int x9),(.int 0),(.int (lenI (gl (at' x8 (tn 0)))))])).bind (fun r0=>(bif(!(gb r0))then(some [(.bool Bool.false)])else(bif(inR 1 (lenI x8))then(((callI tE Z5l [(.int x10),(.int 0),(.int (lenI (gl (at' x8 (tn 1)))))])).bind (fun r1=>(bif(!(gb r1))then(some [(.bool Bool.false)])else(bif(inR 0 (lenI x8))then(bif((leI 0 x9)&&(leI x9 (lenI (gl (at' x8 (tn 0))))))then(bif(inR 1 (lenI x8))then(bif((leI 0 x10)&&(leI x10 (lenI (gl (at' x8 (tn 1))))))then(((callI tE Z6z [(.sl (List.take (tn (x9-0)) (List.drop (tn 0) (gl (at' x8 (tn 0)))))),(.sl (List.take (tn (x10-0)) (List.drop (tn 0) (gl (at' x8 (tn 1))))))])).bind (fun r2=>(bif(inR 0 (lenI x8))then(bif(inR 1 (lenI x8))then(((callI tE Z6z [(.sl (gl (at' x8 (tn 0)))),(.sl (gl (at' x8 (tn 1))))])).bind (fun r3=>(bif((leI 0 (w64 (x9+x10)))&&(leI (w64 (x9+x10)) (lenI (gl r3))))then(((callI tE Z9Z [(.sl x7),(.sl (List.take (tn ((w64 (x9+x10))-0)) (List.drop (tn 0) (gl r3))))])).bind (fun r4=>(bif(gb r4)then(((callI tE Z9Z [(.sl (gl r2)),(.sl x7)])).bind (fun r5=>(bif(gb r5)then(((callI tE Z6f [(.sl x8)])).bind (fun r6=>(((callI tE Z6j [(.sl (gl r6)),(.sl x3)])).bind (fun r7=>(some [(.bool (gb r7))])))))else(some [(.bool Bool.false)]))))else(some [(.bool Bool.false)]))))else none)))else none)else none)))else none)else none)else none)else none))))else none))))else none))else(bif(ltI 1 (lenI x8))then(some [(.bool Bool.false)])else(bif(!(eqI x10 0))then(some [(.bool Bool.false)])else(bif(ltI 0 (lenI x7))then(some [(.bool Bool.false)])else(((callI tE Z6f [(.sl x8)])).bind (fun r0=>(((callI tE Z6j [(.sl (gl r0)),(.sl x3)])).bind (fun r1=>(bif(!(gb r1))then(some [(.bool Bool.false)])else(bif(eqI x11 3)then(bif(eqI (lenI x8) 1)then(((callI tE Z5l [(.int x9),(.int 0),(.int (w64 ((lenI x3)-1)))])).bind (fun r2=>(some [(.bool (gb r2))])))else(some [(.bool Bool.false)]))else(bif(eqI x11 4)then(some [(.bool (eqI x9 (lenI x3)))])else(some [(.bool Bool.false)])))))))))))))))):=(loopK_run (by kernel_rfl)).trans (by kernel_rfl)
theorem ZCt (a0:Rows) (a1:Int) (a2 a3 a4 a5:Rows) (a6 a7 a8 a9:Int):callI tE Z7L [.sl a0,.int a1,.sl a2,.sl a3,.sl a4,.sl a5,.int a6,.int a7,.int a8,.int a9]=(((callI tE Z61 [(.sl a0)])).bind (fun r0=>(bif(!(gb r0))then(some [(.bool Bool.false)])else(((callI tE Z5l [(.int a1),(.int 0),(.int (lenI a0))])).bind (fun r1=>(bif(!(gb r1))then(some [(.bool Bool.false)])else(((callI tE Z7f [(.sl a5)])).bind (fun r2=>(bif(!(gb r2))then(some [(.bool Bool.false)])else(bif(ltI a9 0)then(some [(.bool Bool.false)])else(((callI tE Z8E [(.sl a4)])).bind (fun r3=>(bif(!(gb r3))then(some [(.bool Bool.false)])else(Z6D 0 (w64 ((lenI a4)-1)) 0 a0 a1 a2 a3 a4 a5 a6 a7 a8 a9)))))))))))))):=(callI_run rfl (by kernel_rfl)).trans (by kernel_rfl)
noncomputable def Z6k (x0:Rows) (x1:Int) (x2:Rows):Option (List Dat):=loopK tE ZAD 0 ⟨[(0,(.ro 277 Bool.false x0)),(3,(.own (500000,0))),(4,(.i .i64 x1))],[((500000,0),(.row 277 x2 Bool.true 0 []))]⟩
theorem ZBW (x0:Rows) (x1:Int) (x2:Rows):Z6k x0 x1 x2=(bif(ltI x1 (lenI x0))then(bif(inR x1 (lenI x0))then(bif(fitM (0+(len (gl (at' x0 (tn x1))))) 24)then(bif(fitM (Nat.succ (len x2)) 24)then(Z6k x0 (w64 (x1+1)) (List.append x2 [[(.sl (gl (at' x0 (tn x1))))]]))else none)else none)else none)else(some [(.sl x2)])):=(loopK_run (by kernel_rfl)).trans (by kernel_rfl)
theorem ZFd (a0:Rows):callI tE ZAD [.sl a0]=(Z6k a0 0 []):=(callI_run rfl (by kernel_rfl)).trans (by kernel_rfl)
theorem ZFe (a0:Rows) (a1:Int) (a2 a3 a4 a5:Rows) (a6 a7 a8 a9:Int):callI tE ZBx [.sl a0,.int a1,.sl a2,.sl a3,.sl a4,.sl a5,.int a6,.int a7,.int a8,.int a9]=(bif(fitM (0+(len a0)) 24)then(bif(fitM (0+(len a2)) 24)then(bif(fitM (0+(len a3)) 24)then(bif(fitM (0+(len a4)) 24)then(((callI tE ZAD [(.sl a5)])).bind (fun r0=>(some [(.sl a0),(.int a1),(.sl a2),(.sl a3),(.sl a4),(.sl (gl r0)),(.int a6),(.int a7),(.int a8),(.int a9)])))else none)else none)else none)else none):=(callI_run rfl (by kernel_rfl)).trans (by kernel_rfl)
theorem ZGq (a0:Rows):callI tE ZCb [.sl a0]=(((callI tE Z6J [(.sl a0)])).bind (fun r0=>(some [(.sl (gl r0))]))):=(callI_run rfl (by kernel_rfl)).trans (by kernel_rfl)
noncomputable def Z9r (x0:Rows) (x1:Int) (x2:Rows):Option (List Dat):=loopK tE ZB6 0 ⟨[(0,(.ro 345 Bool.false x0)),(3,(.own (500000,0))),(4,(.i .i64 x1))],[((500000,0),(.row 277 x2 Bool.true 0 []))]⟩
theorem ZBr (x0:Rows) (x1:Int) (x2:Rows):Z9r x0 x1 x2=(bif(ltI x1 (lenI x0))then(bif(inR x1 (lenI x0))then(((callI tE ZCb [(.sl (gl (at' x0 (tn x1))))])).bind (fun r0=>(bif(inR x1 (lenI x2))then(Z9r x0 (w64 (x1+1)) (updR x2 (tn x1) 0 [(.sl (gl r0))]))else none)))else none)else(some [(.sl x2)])):=(loopK_run (by kernel_rfl)).trans (by kernel_rfl)
theorem ZGI (a0:Rows):callI tE ZB6 [.sl a0]=(bif((leI 0 (lenI a0))&&((eqI (lenI a0) (lenI a0))&&(fitM (tn (lenI a0)) 24)))then(Z9r a0 0 (List.replicate (tn (lenI a0)) [(.sl [])]))else none):=(callI_run rfl (by kernel_rfl)).trans (by kernel_rfl)
theorem ZEy (a0:Rows) (a1:Int) (a2 a3 a4 a5:Rows) (a6 a7 a8 a9:Int):callI tE ZBI [.sl a0,.int a1,.sl a2,.sl a3,.sl a4,.sl a5,.int a6,.int a7,.int a8,.int a9]=(((callI tE Z6J [(.sl a0)])).bind (fun r0=>(((callI tE Z6J [(.sl a2)])).bind (fun r1=>(((callI tE Z6J [(.sl a3)])).bind (fun r2=>(((callI tE Z6J [(.sl a4)])).bind (fun r3=>(((callI tE ZB6 [(.sl a5)])).bind (fun r4=>(some [(.sl (gl r0)),(.int a1),(.sl (gl r1)),(.sl (gl r2)),(.sl (gl r3)),(.sl (gl r4)),(.int a6),(.int a7),(.int a8),(.int a9)]))))))))))):=(callI_run rfl (by kernel_rfl)).trans (by kernel_rfl)
theorem ZFf (a0:Rows) (a1:Int) (a2 a3 a4 a5:Rows) (a6 a7 a8 a9 a10 a11:Int):callI tE Z8h [.sl a0,.int a1,.sl a2,.sl a3,.sl a4,.sl a5,.int a6,.int a7,.int a8,.int a9,.int a10,.int a11]=(bif(leI (lenI a5) a10)then(some [(.int 0)])else(bif(ltI a11 0)then(some [(.int 0)])else(bif(inR a10 (lenI a5))then(bif(leI (lenI (gl (at' a5 (tn a10)))) a11)then(some [(.int 0)])else(bif(inR a10 (lenI a5))then(bif(inR a11 (lenI (gl (at' a5 (tn a10)))))then(((callI tE ZAM [(.int (gn (at' (gl (at' a5 (tn a10))) (tn a11)))),(.int (gn (tk 1 (at' (gl (at' a5 (tn a10))) (tn a11))))),(.int (gn (tk 2 (at' (gl (at' a5 (tn a10))) (tn a11)))))])).bind (fun r0=>(some [(.int (gn r0))])))else none)else none))else none))):=(callI_run rfl (by kernel_rfl)).trans (by kernel_rfl)
theorem ZD9 (a0:Rows) (a1:Int) (a2 a3 a4 a5:Rows) (a6 a7 a8 a9:Int):callI tE Z7h [.sl a0,.int a1,.sl a2,.sl a3,.sl a4,.sl a5,.int a6,.int a7,.int a8,.int a9]=(bif(eqI a8 1)then(((callI tE Z7n [(.sl a2)])).bind (fun r0=>(((callI tE Z7n [(.sl a3)])).bind (fun r1=>(some [(.int (w64 ((gn r0)+(gn r1))))])))))else(bif(eqI a8 2)then(bif(ltI a6 0)then(some [(.int 0)])else(bif(ltI a7 0)then(some [(.int 0)])else(((callI tE Z8h [(.sl a0),(.int a1),(.sl a2),(.sl a3),(.sl a4),(.sl a5),(.int a6),(.int a7),(.int a8),(.int a9),(.int 0),(.int a6)])).bind (fun r0=>(((callI tE Z8h [(.sl a0),(.int a1),(.sl a2),(.sl a3),(.sl a4),(.sl a5),(.int a6),(.int a7),(.int a8),(.int a9),(.int 1),(.int a7)])).bind (fun r1=>(some [(.int (w64 ((gn r0)+(gn r1))))])))))))else(bif(eqI a8 3)then(((callI tE Z8h [(.sl a0),(.int a1),(.sl a2),(.sl a3),(.sl a4),(.sl a5),(.int a6),(.int a7),(.int a8),(.int a9),(.int 0),(.int a6)])).bind (fun r0=>(some [(.int (gn r0))])))else(some [(.int 0)])))):=(callI_run rfl (by kernel_rfl)).trans (by kernel_rfl)
theorem ZGr (a0 a1 a2:Int) (a3:Rows):callI tE ZCc [.int a0,.int a1,.int a2,.sl a3]=(bif(ltI 0 (lenI a3))then(bif(inR (w64 ((lenI a3)-1)) (lenI a3))then(((callI tE Z5r [(.int a0),(.int a1),(.int a2),(.int (gn (at' a3 (tn (w64 ((lenI a3)-1)))))),(.int (gn (tk 1 (at' a3 (tn (w64 ((lenI a3)-1))))))),(.int (gn (tk 2 (at' a3 (tn (w64 ((lenI a3)-1)))))))])).bind (fun r0=>(some [(.bool (ltI (gn r0) 0))])))else none)else(some [(.bool Bool.false)])):=(callI_run rfl (by kernel_rfl)).trans (by kernel_rfl)
noncomputable def Z7F (x0:Rows) (x1 x2:Int):Option (List Dat):=loopK tE Z7i 0 ⟨[(5,(.ro 277 Bool.false x0)),(6,(.i .i64 x1)),(7,(.i .i64 x2))],[]⟩
theorem Z9R (x0:Rows) (x1 x2:Int):Z7F x0 x1 x2=(bif(ltI x2 x1)then(bif(inR x2 (lenI x0))then(bif(eqI (lenI (gl (at' x0 (tn x2)))) 0)then(some [(.bool Bool.false)])else(((callI tE Z8G [(.sl (gl (at' x0 (tn x2))))])).bind (fun r0=>(bif(!(gb r0))then(some [(.bool Bool.false)])else(((callI tE Z6L [(.sl (gl (at' x0 (tn x2))))])).bind (fun r1=>(bif(!(gb r1))then(some [(.bool Bool.false)])else(Z7F x0 x1 (w64 (x2+1))))))))))else none)else(some [(.bool Bool.true)])):=(loopK_run (by kernel_rfl)).trans (by kernel_rfl)
theorem ZDA (a0:Rows):callI tE Z7i [.sl a0]=(Z7F a0 (lenI a0) 0):=(callI_run rfl (by kernel_rfl)).trans (by kernel_rfl)
noncomputable def Z6A (x0:Rows) (x1 x2:Int) (x3:Rows):Option (List Dat):=loopK tE Z7y 0 ⟨[(3,(.own (500000,0))),(7,(.ro 277 Bool.false x0)),(8,(.i .i64 x1)),(9,(.i .i64 x2))],[((500000,0),(.row 224 x3 Bool.true 0 []))]⟩
theorem Z9s (x0:Rows) (x1 x2:Int) (x3:Rows):Z6A x0 x1 x2 x3=(bif(ltI x2 x1)then(bif(inR x2 (lenI x0))then(bif(fitM ((len x3)+(len (gl (at' x0 (tn x2))))) 24)then(Z6A x0 x1 (w64 (x2+1)) (List.append x3 (gl (at' x0 (tn x2)))))else none)else none)else(some [(.sl x3)])):=(loopK_run (by kernel_rfl)).trans (by kernel_rfl)
theorem ZDX (a0:Rows):callI tE Z7y [.sl a0]=(Z6A a0 (lenI a0) 0 []):=(callI_run rfl (by kernel_rfl)).trans (by kernel_rfl)
noncomputable def Z6b (x0:Rows) (x1 x2:Int) (x3:Rows):Option (List Dat):=loopK tE Z7X 0 ⟨[(3,(.own (500000,0))),(7,(.ro 51 Bool.false x0)),(8,(.i .i64 x1)),(9,(.i .i64 x2))],[((500000,0),(.row 224 x3 Bool.true 0 []))]⟩
theorem ZB0 (x0:Rows) (x1 x2:Int) (x3:Rows):Z6b x0 x1 x2 x3=(bif(ltI x2 x1)then(bif(inR x2 (lenI x0))then(bif(fitM ((len x3)+(len (gl (at' x0 (tn x2))))) 24)then(Z6b x0 x1 (w64 (x2+1)) (List.append x3 (gl (at' x0 (tn x2)))))else none)else none)else(some [(.sl x3)])):=(loopK_run (by kernel_rfl)).trans (by kernel_rfl)
theorem ZEz (a0:Rows):callI tE Z7X [.sl a0]=(Z6b a0 (lenI a0) 0 []):=(callI_run rfl (by kernel_rfl)).trans (by kernel_rfl)
noncomputable def Z5o (x0 x1 x2:Rows):Option (List Dat):=loopK tE Z70 0 ⟨[(0,(.ro 224 Bool.false x0)),(1,(.ro 224 Bool.false x1)),(5,(.own (500000,0)))],[((500000,0),(.row 224 x2 Bool.true 0 []))]⟩
theorem Z6p (x0 x1 x2:Rows):Z5o x0 x1 x2=(bif(ltI 0 (lenI x0))then(bif(eqI (lenI x1) 0)then(bif(inR 0 (lenI x0))then(bif(fitM (Nat.succ (len x2)) 24)then(bif((leI 0 1)&&(leI 1 (lenI x0)))then(Z5o (List.take (tn ((lenI x0)-1)) (List.drop (tn 1) x0)) x1 (List.append x2 [[(.int (gn (at' x0 (tn 0)))),(.int (gn (tk 1 (at' x0 (tn 0))))),(.int (gn (tk 2 (at' x0 (tn 0)))))]]))else none)else none)else none)else(bif(ltI 0 (lenI x0))then(bif(inR 0 (lenI x0))then(bif(inR 0 (lenI x1))then(((callI tE Z5r [(.int (gn (at' x0 (tn 0)))),(.int (gn (tk 1 (at' x0 (tn 0))))),(.int (gn (tk 2 (at' x0 (tn 0))))),(.int (gn (at' x1 (tn 0)))),(.int (gn (tk 1 (at' x1 (tn 0))))),(.int (gn (tk 2 (at' x1 (tn 0)))))])).bind (fun r0=>(bif(leI (gn r0) 0)then(bif(inR 0 (lenI x0))then(bif(fitM (Nat.succ (len x2)) 24)then(bif((leI 0 1)&&(leI 1 (lenI x0)))then(Z5o (List.take (tn ((lenI x0)-1)) (List.drop (tn 1) x0)) x1 (List.append x2 [[(.int (gn (at' x0 (tn 0)))),(.int (gn (tk 1 (at' x0 (tn 0))))),(.int (gn (tk 2 (at' x0 (tn 0)))))]]))else none)else none)else none)else(bif(inR 0 (lenI x1))then(bif(fitM (Nat.succ (len x2)) 24)then(bif((leI 0 1)&&(leI 1 (lenI x1)))then(Z5o x0 (List.take (tn ((lenI x1)-1)) (List.drop (tn 1) x1)) (List.append x2 [[(.int (gn (at' x1 (tn 0)))),(.int (gn (tk 1 (at' x1 (tn 0))))),(.int (gn (tk 2 (at' x1 (tn 0)))))]]))else none)else none)else none))))else none)else none)else(bif(inR 0 (lenI x1))then(bif(fitM (Nat.succ (len x2)) 24)then(bif((leI 0 1)&&(leI 1 (lenI x1)))then(Z5o x0 (List.take (tn ((lenI x1)-1)) (List.drop (tn 1) x1)) (List.append x2 [[(.int (gn (at' x1 (tn 0)))),(.int (gn (tk 1 (at' x1 (tn 0))))),(.int (gn (tk 2 (at' x1 (tn 0)))))]]))else none)else none)else none)))else(bif(ltI 0 (lenI x1))then(bif(eqI (lenI x1) 0)then(bif(inR 0 (lenI x0))then(bif(fitM (Nat.succ (len x2)) 24)then(bif((leI 0 1)&&(leI 1 (lenI x0)))then(Z5o (List.take (tn ((lenI x0)-1)) (List.drop (tn 1) x0)) x1 (List.append x2 [[(.int (gn (at' x0 (tn 0)))),(.int (gn (tk 1 (at' x0 (tn 0))))),(.int (gn (tk 2 (at' x0 (tn 0)))))]]))else none)else none)else none)else(bif(ltI 0 (lenI x0))then(bif(inR 0 (lenI x0))then(bif(inR 0 (lenI x1))then(((callI tE Z5r [(.int (gn (at' x0 (tn 0)))),(.int (gn (tk 1 (at' x0 (tn 0))))),(.int (gn (tk 2 (at' x0 (tn 0))))),(.int (gn (at' x1 (tn 0)))),(.int (gn (tk 1 (at' x1 (tn 0))))),(.int (gn (tk 2 (at' x1 (tn 0)))))])).bind (fun r0=>(bif(leI (gn r0) 0)then(bif(inR 0 (lenI x0))then(bif(fitM (Nat.succ (len x2)) 24)then(bif((leI 0 1)&&(leI 1 (lenI x0)))then(Z5o (List.take (tn ((lenI x0)-1)) (List.drop (tn 1) x0)) x1 (List.append x2 [[(.int (gn (at' x0 (tn 0)))),(.int (gn (tk 1 (at' x0 (tn 0))))),(.int (gn (tk 2 (at' x0 (tn 0)))))]]))else none)else none)else none)else(bif(inR 0 (lenI x1))then(bif(fitM (Nat.succ (len x2)) 24)then(bif((leI 0 1)&&(leI 1 (lenI x1)))then(Z5o x0 (List.take (tn ((lenI x1)-1)) (List.drop (tn 1) x1)) (List.append x2 [[(.int (gn (at' x1 (tn 0)))),(.int (gn (tk 1 (at' x1 (tn 0))))),(.int (gn (tk 2 (at' x1 (tn 0)))))]]))else none)else none)else none))))else none)else none)else(bif(inR 0 (lenI x1))then(bif(fitM (Nat.succ (len x2)) 24)then(bif((leI 0 1)&&(leI 1 (lenI x1)))then(Z5o x0 (List.take (tn ((lenI x1)-1)) (List.drop (tn 1) x1)) (List.append x2 [[(.int (gn (at' x1 (tn 0)))),(.int (gn (tk 1 (at' x1 (tn 0))))),(.int (gn (tk 2 (at' x1 (tn 0)))))]]))else none)else none)else none)))else(some [(.sl x2)]))):=(loopK_run (by kernel_rfl)).trans (by kernel_rfl)
theorem ZDY (a0 a1:Rows):callI tE Z70 [.sl a0,.sl a1]=(Z5o a0 a1 []):=(callI_run rfl (by kernel_rfl)).trans (by kernel_rfl)
noncomputable def Z6V (x0:Int) (x1:Rows) (x2 x3:Int) (x4:Rows) (x5:Int) (x6 x7 x8 x9:Rows) (x10 x11 x12 x13:Int):Option (List Dat):=loopK tE Z7O 0 ⟨[(3,(.ptr (500000,0) x0 0)),(41,(.ro 224 Bool.false x1)),(42,(.i .i64 x2)),(43,(.i .i64 x3))],[((500000,0),(.box 54 [(.ro 224 Bool.false x4),(.i .i64 x5),(.ro 224 Bool.false x6),(.ro 224 Bool.false x7),(.ro 224 Bool.false x8),(.ro 277 Bool.false x9),(.i .i64 x10),(.i .i64 x11),(.i .i64 x12),(.i .i64 x13)]))]⟩
theorem Z8o (x0:Int) (x1:Rows) (x2 x3:Int) (x4:Rows) (x5:Int) (x6 x7 x8 x9:Rows) (x10 x11 x12 x13:Int):Z6V x0 x1 x2 x3 x4 x5 x6 x7 x8 x9 x10 x11 x12 x13=(bif(ltI x3 x2)then(bif(inR x3 (lenI x1))then(((callI tE ZCc [(.int (gn (at' x1 (tn x3)))),(.int (gn (tk 1 (at' x1 (tn x3))))),(.int (gn (tk 2 (at' x1 (tn x3))))),(.sl x8)])).bind (fun r0=>(bif(gb r0)then(some [(.bool Bool.false)])else(Z6V x0 x1 x2 (w64 (x3+1)) x4 x5 x6 x7 x8 x9 x10 x11 x12 x13))))else none)else(((callI tE Z7y [(.sl x9)])).bind (fun r0=>(bif(eqI x12 1)then(bif(eqI x10 0)then(bif(eqI x11 0)then(bif(ltI 0 (lenI x8))then(((callI tE Z7h [(.sl x4),(.int x5),(.sl x6),(.sl x7),(.sl x8),(.sl x9),(.int x10),(.int x11),(.int x12),(.int x13)])).bind (fun r1=>(bif(leI (gn r1) 60)then(((callI tE Z7X [(.sl [[(.sl (gl r0))],[(.sl x8)],[(.sl x6)],[(.sl x7)]])])).bind (fun r2=>(bif((leI 0 x5)&&(leI x5 (lenI x4)))then(((callI tE Z7o [(.sl (gl r2)),(.sl (List.take (tn (x5-0)) (List.drop (tn 0) x4)))])).bind (fun r3=>(some [(.bool (gb r3))])))else none)))else(some [(.bool Bool.false)]))))else(bif(eqI (lenI x7) 0)then(((callI tE Z7h [(.sl x4),(.int x5),(.sl x6),(.sl x7),(.sl x8),(.sl x9),(.int x10),(.int x11),(.int x12),(.int x13)])).bind (fun r1=>(bif(leI (gn r1) 60)then(((callI tE Z7X [(.sl [[(.sl (gl r0))],[(.sl x8)],[(.sl x6)],[(.sl x7)]])])).bind (fun r2=>(bif((leI 0 x5)&&(leI x5 (lenI x4)))then(((callI tE Z7o [(.sl (gl r2)),(.sl (List.take (tn (x5-0)) (List.drop (tn 0) x4)))])).bind (fun r3=>(some [(.bool (gb r3))])))else none)))else(some [(.bool Bool.false)]))))else(some [(.bool Bool.false)])))else(some [(.bool Bool.false)]))else(some [(.bool Bool.false)]))else(bif(!(eqI x5 (lenI x4)))then(some [(.bool Bool.false)])else(bif(ltI 0 (lenI x6))then(some [(.bool Bool.false)])else(bif(ltI 0 (lenI x7))then(some [(.bool Bool.false)])else(((callI tE Z7o [(.sl (gl r0)),(.sl x4)])).bind (fun r1=>(bif(!(gb r1))then(some [(.bool Bool.false)])else(bif(eqI x12 2)then(bif(ltI (lenI x9) 2)then(some [(.bool Bool.false)])else(bif(inR 0 (lenI x9))then(bif(inR 1 (lenI x9))then(((callI tE Z5f [(.int x10),(.int 0),(.int (lenI (gl (at' x9 (tn 0)))))])).bind (fun r2=>(bif(!(gb r2))then(some [(.bool Bool.false)])else(((callI tE Z5f [(.int x11),(.int 0),(.int (lenI (gl (at' x9 (tn 1)))))])).bind (fun r3=>(bif(!(gb r3))then(some [(.bool Bool.false)])else(bif((leI 0 x10)&&(leI x10 (lenI (gl (at' x9 (tn 0))))))then(bif((leI 0 x11)&&(leI x11 (lenI (gl (at' x9 (tn 1))))))then(((callI tE Z70 [(.sl (List.take (tn (x10-0)) (List.drop (tn 0) (gl (at' x9 (tn 0)))))),(.sl (List.take (tn (x11-0)) (List.drop (tn 0) (gl (at' x9 (tn 1))))))])).bind (fun r4=>(((callI tE Z9O [(.sl x8),(.sl (gl r4))])).bind (fun r5=>(bif(gb r5)then(((callI tE Z70 [(.sl (gl (at' x9 (tn 0)))),(.sl (gl (at' x9 (tn 1))))])).bind (fun r6=>(bif((leI 0 (w64 (x10+x11)))&&(leI (w64 (x10+x11)) (lenI (gl r6))))then(((callI tE Z9O [(.sl x8),(.sl (List.take (tn ((w64 (x10+x11))-0)) (List.drop (tn 0) (gl r6))))])).bind (fun r7=>(some [(.bool (gb r7))])))else none)))else(some [(.bool Bool.false)]))))))else none)else none)))))))else none)else none))else(bif(eqI x12 3)then(bif(eqI (lenI x9) 1)then(((callI tE Z5f [(.int x10),(.int 0),(.int (w64 ((lenI x4)-1)))])).bind (fun r2=>(bif(gb r2)then(bif(eqI x11 0)then(some [(.bool (eqI (lenI x8) 0))])else(some [(.bool Bool.false)]))else(some [(.bool Bool.false)]))))else(some [(.bool Bool.false)]))else(bif(eqI x12 4)then(bif(leI (lenI x9) 1)then(bif(eqI x10 (lenI x4))then(bif(eqI x11 0)then(some [(.bool (eqI (lenI x8) 0))])else(some [(.bool Bool.false)]))else(some [(.bool Bool.false)]))else(some [(.bool Bool.false)]))else(some [(.bool Bool.false)])))))))))))))):=(loopK_run (by kernel_rfl)).trans (by kernel_rfl)
theorem ZCu (a0:Rows) (a1:Int) (a2 a3 a4 a5:Rows) (a6 a7 a8 a9:Int):callI tE Z7O [.sl a0,.int a1,.sl a2,.sl a3,.sl a4,.sl a5,.int a6,.int a7,.int a8,.int a9]=(((callI tE Z6L [(.sl a0)])).bind (fun r0=>(bif(!(gb r0))then(some [(.bool Bool.false)])else(((callI tE Z5f [(.int a1),(.int 0),(.int (lenI a0))])).bind (fun r1=>(bif(!(gb r1))then(some [(.bool Bool.false)])else(((callI tE Z7i [(.sl a5)])).bind (fun r2=>(bif(!(gb r2))then(some [(.bool Bool.false)])else(bif(ltI a9 0)then(some [(.bool Bool.false)])else(((callI tE Z8G [(.sl a4)])).bind (fun r3=>(bif(!(gb r3))then(some [(.bool Bool.false)])else(Z6V 0 a2 (lenI a2) 0 a0 a1 a2 a3 a4 a5 a6 a7 a8 a9)))))))))))))):=(callI_run rfl (by kernel_rfl)).trans (by kernel_rfl)
noncomputable def Z6Q (x0:Rows) (x1 x2:Int) (x3:Rows):Option (List Dat):=loopK tE Z8y 0 ⟨[(3,(.own (500000,0))),(6,(.ro 277 Bool.false x0)),(7,(.i .i64 x1)),(8,(.i .i64 x2))],[((500000,0),(.row 277 x3 Bool.true 0 []))]⟩
theorem ZAe (x0:Rows) (x1 x2:Int) (x3:Rows):Z6Q x0 x1 x2 x3=(bif(ltI x2 x1)then(bif(inR x2 (lenI x0))then(((callI tE Z6T [(.sl (gl (at' x0 (tn x2))))])).bind (fun r0=>(bif(fitM (Nat.succ (len x3)) 24)then(Z6Q x0 x1 (w64 (x2+1)) (List.append x3 [[(.sl (gl r0))]]))else none)))else none)else(some [(.sl x3)])):=(loopK_run (by kernel_rfl)).trans (by kernel_rfl)
theorem ZEN (a0:Rows):callI tE Z8y [.sl a0]=(Z6Q a0 (lenI a0) 0 []):=(callI_run rfl (by kernel_rfl)).trans (by kernel_rfl)
theorem ZDZ (a0:Rows) (a1:Int) (a2 a3 a4 a5:Rows) (a6 a7 a8 a9:Int):callI tE Z9f [.sl a0,.int a1,.sl a2,.sl a3,.sl a4,.sl a5,.int a6,.int a7,.int a8,.int a9]=(((callI tE Z6T [(.sl a0)])).bind (fun r0=>(((callI tE Z6T [(.sl a2)])).bind (fun r1=>(((callI tE Z6T [(.sl a3)])).bind (fun r2=>(((callI tE Z6T [(.sl a4)])).bind (fun r3=>(((callI tE Z8y [(.sl a5)])).bind (fun r4=>(some [(.sl (gl r0)),(.int a1),(.sl (gl r1)),(.sl (gl r2)),(.sl (gl r3)),(.sl (gl r4)),(.int a6),(.int a7),(.int a8),(.int a9)]))))))))))):=(callI_run rfl (by kernel_rfl)).trans (by kernel_rfl)
theorem ZGs (a0 a1:Rows):callI tE ZCd [.sl a0,.sl a1]=(((callI tE Z6K [(.sl a0),(.sl a1)])).bind (fun r0=>(bif(!(gb r0))then(some [(.bool Bool.false)])else(some [(.bool Bool.true)])))):=(callI_run rfl (by kernel_rfl)).trans (by kernel_rfl)
noncomputable def Z9t (x0 x1:Rows) (x2:Int):Option (List Dat):=loopK tE ZB7 0 ⟨[(0,(.ro 277 Bool.false x0)),(1,(.ro 277 Bool.false x1)),(5,(.i .i64 x2))],[]⟩
theorem ZBs (x0 x1:Rows) (x2:Int):Z9t x0 x1 x2=(bif(ltI x2 (lenI x0))then(bif(inR x2 (lenI x0))then(bif(inR x2 (lenI x1))then(((callI tE ZCd [(.sl (gl (at' x0 (tn x2)))),(.sl (gl (at' x1 (tn x2))))])).bind (fun r0=>(bif(!(gb r0))then(some [(.bool Bool.false)])else(Z9t x0 x1 (w64 (x2+1))))))else none)else none)else(some [(.bool Bool.true)])):=(loopK_run (by kernel_rfl)).trans (by kernel_rfl)
theorem ZGJ (a0 a1:Rows):callI tE ZB7 [.sl a0,.sl a1]=(bif(!(eqI (lenI a0) (lenI a1)))then(some [(.bool Bool.false)])else(Z9t a0 a1 0)):=(callI_run rfl (by kernel_rfl)).trans (by kernel_rfl)
theorem ZF0 (a0:Rows) (a1:Int) (a2 a3 a4 a5:Rows) (a6 a7 a8 a9:Int) (a10:Rows) (a11:Int) (a12 a13 a14 a15:Rows) (a16 a17 a18 a19:Int):callI tE ZBN [.sl a0,.int a1,.sl a2,.sl a3,.sl a4,.sl a5,.int a6,.int a7,.int a8,.int a9,.sl a10,.int a11,.sl a12,.sl a13,.sl a14,.sl a15,.int a16,.int a17,.int a18,.int a19]=(((callI tE Z6K [(.sl a0),(.sl a10)])).bind (fun r0=>(bif(!(gb r0))then(some [(.bool Bool.false)])else(bif(!(eqI a1 a11))then(some [(.bool Bool.false)])else(((callI tE Z6K [(.sl a2),(.sl a12)])).bind (fun r1=>(bif(!(gb r1))then(some [(.bool Bool.false)])else(((callI tE Z6K [(.sl a3),(.sl a13)])).bind (fun r2=>(bif(!(gb r2))then(some [(.bool Bool.false)])else(((callI tE Z6K [(.sl a4),(.sl a14)])).bind (fun r3=>(bif(!(gb r3))then(some [(.bool Bool.false)])else(((callI tE ZB7 [(.sl a5),(.sl a15)])).bind (fun r4=>(bif(!(gb r4))then(some [(.bool Bool.false)])else(bif(!(eqI a6 a16))then(some [(.bool Bool.false)])else(bif(!(eqI a7 a17))then(some [(.bool Bool.false)])else(bif(!(eqI a8 a18))then(some [(.bool Bool.false)])else(bif(!(eqI a9 a19))then(some [(.bool Bool.false)])else(some [(.bool Bool.true)]))))))))))))))))))))):=(callI_run rfl (by kernel_rfl)).trans (by kernel_rfl)
noncomputable def Z8X (x0 x1:Int) (x2:Rows):Option (List Dat):=loopK tE Z8I 0 ⟨[(0,(.own (1000000,0))),(1,(.i .i64 x0)),(5,(.i .i64 x1))],[((1000000,0),(.row 277 x2 Bool.true 0 []))]⟩
theorem ZB1 (x0 x1:Int) (x2:Rows):Z8X x0 x1 x2=(bif(ltI x1 (lenI x2))then(bif(inR x1 (lenI x2))then(((callI tE Z5m [(List.getD (at' x2 (tn x1)) 0 (.int 0)),(.int x0)])).bind (fun r0=>(Z8X (gn r0) (w64 (x1+1)) (updR x2 (tn x1) 0 [(List.headD (List.drop 1 r0) (.int 0))]))))else none)else(some [(.int x0),(.sl x2)])):=(loopK_run (by kernel_rfl)).trans (by kernel_rfl)
theorem ZF1 (a0:Rows) (a1:Int):callI tE Z8I [.sl a0,.int a1]=(Z8X a1 0 a0):=(callI_run rfl (by kernel_rfl)).trans (by kernel_rfl)
theorem ZDt (a0:Rows) (a1:Int) (a2 a3 a4 a5:Rows) (a6 a7 a8 a9 a10:Int):callI tE ZA5 [.sl a0,.int a1,.sl a2,.sl a3,.sl a4,.sl a5,.int a6,.int a7,.int a8,.int a9,.int a10]=(((callI tE Z5m [(.sl a0),(.int a10)])).bind (fun r0=>(((callI tE Z5m [(.sl a2),(.int (gn r0))])).bind (fun r1=>(((callI tE Z5m [(.sl a3),(.int (gn r1))])).bind (fun r2=>(((callI tE Z5m [(.sl a4),(.int (gn r2))])).bind (fun r3=>(((callI tE Z8I [(.sl a5),(.int (gn r3))])).bind (fun r4=>(some [(.int (gn r4)),(.sl (gl (List.drop 1 r0))),(.sl (gl (List.drop 1 r1))),(.sl (gl (List.drop 1 r2))),(.sl (gl (List.drop 1 r3))),(.sl (gl (List.drop 1 r4)))]))))))))))):=(callI_run rfl (by kernel_rfl)).trans (by kernel_rfl)
noncomputable def Z8Y (x0:Rows) (x1 x2:Int):Option (List Dat):=loopK tE Z9k 0 ⟨[(0,(.ro 277 Bool.false x0)),(1,(.i .i64 x1)),(5,(.i .i64 x2))],[]⟩
theorem ZB2 (x0:Rows) (x1 x2:Int):Z8Y x0 x1 x2=(bif(ltI x2 (lenI x0))then(bif(inR x2 (lenI x0))then(((callI tE Z5t [(.sl (gl (at' x0 (tn x2)))),(.int x1)])).bind (fun r0=>(bif(ltI (gn r0) 0)then(some [(.int (-1))])else(Z8Y x0 (gn r0) (w64 (x2+1))))))else none)else(some [(.int x1)])):=(loopK_run (by kernel_rfl)).trans (by kernel_rfl)
theorem ZF2 (a0:Rows) (a1:Int):callI tE Z9k [.sl a0,.int a1]=(Z8Y a0 a1 0):=(callI_run rfl (by kernel_rfl)).trans (by kernel_rfl)
set_option maxRecDepth 10000
theorem ZIN (x:List Rw) (hx:x.length≤1099511627776):∃y,y.Perm x∧Srt y∧callI tE Z7W [.sl (x.map Rw.e)]=some [.sl (y.map Rw.e)]:=by
 obtain⟨y,y1,y2,y3⟩:=ZHu x (by omega)
 refine⟨y,y1,y2,?_⟩
 rw[ZEl,ZD1 x hx]
 simp only[gA,y3]
theorem ZJq (l u v w1 w2:List Rw) (c:Rw) (i k:Nat) (hl:l=u++c::v) (hi:u.length=i) (hk:w1.length=k) (hw:(w1++w2).length≤1099511627776) (hi2:i<1152921504606846976):
  (bif(inR (i:Int) (lenI (l.map Rw.e)))then(bif((leI 0 (k:Int))&&(leI (k:Int) (lenI ((w1++w2).map Rw.e))))then(bif(fitM (1+(len (List.take (tn ((lenI ((w1++w2).map Rw.e))-(k:Int))) (List.drop (tn (k:Int)) ((w1++w2).map Rw.e))))) 24)then(bif((leI 0 (k:Int))&&(leI (k:Int) (lenI ((w1++w2).map Rw.e))))then(bif(fitM (0+(len (List.take (tn ((k:Int)-0)) (List.drop (tn 0) ((w1++w2).map Rw.e))))) 24)then(bif(fitM (Nat.succ ((len (List.take (tn ((k:Int)-0)) (List.drop (tn 0) ((w1++w2).map Rw.e))))+(len (List.take (tn ((lenI ((w1++w2).map Rw.e))-(k:Int))) (List.drop (tn (k:Int)) ((w1++w2).map Rw.e)))))) 24)then
   (Z6N (l.map Rw.e) (w64 ((i:Int)+1)) (List.append (List.take (tn ((k:Int)-0)) (List.drop (tn 0) ((w1++w2).map Rw.e))) ([(.int (gn (at' (l.map Rw.e) (tn (i:Int))))),(.int (gn (tk 1 (at' (l.map Rw.e) (tn (i:Int)))))),(.int (gn (tk 2 (at' (l.map Rw.e) (tn (i:Int))))))]::(List.take (tn ((lenI ((w1++w2).map Rw.e))-(k:Int))) (List.drop (tn (k:Int)) ((w1++w2).map Rw.e))))))else none)else none)else none)else none)else none)else none)=
  Z6N (l.map Rw.e) ((i+1:Nat):Int) ((w1++c::w2).map Rw.e):=by
 have hc:at' (l.map Rw.e) i=c.e:=ZDs hl hi
 have hll:i<l.length:=by rw[hl,←hi];simp
 simp only[List.length_append]at hw
 have e1:List.take (tn ((k:Int)-0)) (List.drop (tn 0) ((w1++w2).map Rw.e))=w1.map Rw.e:=by
  show List.take ((k:Int)-0).toNat (List.drop 0 ((w1++w2).map Rw.e))=_
  rw[show((k:Int)-0).toNat=k by omega,List.drop_zero,List.map_append,←hk]
  simp
 have e2:List.take (tn ((lenI ((w1++w2).map Rw.e))-(k:Int))) (List.drop (tn (k:Int)) ((w1++w2).map Rw.e))=w2.map Rw.e:=by
  rw[Z5V]
  show List.take (((w1++w2).length:Int)-(k:Int)).toNat (List.drop k ((w1++w2).map Rw.e))=_
  rw[show(((w1++w2).length:Int)-(k:Int)).toNat=w2.length by simp;omega,List.map_append,←hk]
  simp[List.take_of_length_le]
 rw[ZDM hll,e1,e2,Z5u,Z5u,show leI (k:Int) (lenI ((w1++w2).map Rw.e))=true by rw[Z5V];exact leT (by simp;omega),leT (show(0:Int)≤(k:Int)by omega),show fitM (1+w2.length) 24=true from Z9y (by omega),show fitM (0+w1.length) 24=true from Z9y (by omega),show fitM (Nat.succ (w1.length+w2.length)) 24=true from Z9y (by omega),Z7x (by omega)]
 simp only[cond_true,Bool.and_self,Z6v,hc,gk,gv,gw]
 congr 1
 simp[ZLB]
theorem ss1 (l u v:List Rw) (c:Rw) (i:Nat) (hl:l=u++c::v) (hi:u.length=i) (hi2:i<1152921504606846976):∀(n:Nat) (w1 w2:List Rw) (k:Nat),w1.length=n→k=n→Srt (w1++w2)→(∀y∈w2,Rw.le c y)→(w1++w2).length≤1099511627776→
  ∃w,w.Perm ((w1++w2)++[c])∧Srt w∧Z8S (l.map Rw.e) (i:Nat) (k:Nat) ((w1++w2).map Rw.e)=Z6N (l.map Rw.e) ((i+1:Nat):Int) (w.map Rw.e):=by
 have hll:i<l.length:=by rw[hl,←hi];simp
 have hc:nth l i=c:=by rw[hl,←hi,Z6U _ _ (Nat.le_refl _)];simp[nth]
 have pm:∀w1 w2:List Rw,(w1++c::w2).Perm ((w1++w2)++[c]):=fun w1 w2=>List.perm_middle.trans (by simpa using(List.perm_append_comm (l₁:=[c]) (l₂:=w1++w2)))
 intro n
 induction n with
 |zero=>
  intro w1 w2 k hn hk hs hw hlen
  have:w1=[]:=List.length_eq_zero_iff.mp hn
  subst this
  refine⟨c::w2,pm [] w2,List.pairwise_cons.mpr ⟨hw,by simpa using hs⟩,?_⟩
  rw[ZAw,ltF (by omega),cond_false]
  exact ZJq l u v [] w2 c i k hl hi (by simp;omega) hlen hi2
 |succ n ih=>
  intro w1 w2 k hn hk hs hw hlen
  obtain⟨w1,d,rfl⟩:=snoc_of (n:=n) (l:=w1) hn
  have hlen':=hlen
  simp only[List.length_append,List.length_cons,List.length_nil]at hlen' hn
  have i1:inR ((k-1:Nat):Int) (lenI ((w1++[d]++w2).map Rw.e))=true:=ZDM (by simp;omega)
  have i2:inR (i:Int) (lenI (l.map Rw.e))=true:=ZDM hll
  have hd:nth (w1++[d]++w2) (k-1)=d:=by
   rw[Z84 (w1++[d]) w2 (by simp;omega),Z6U w1 _ (by omega),show k-1-w1.length=0 by omega]
   simp[nth]
  have a1:at' ((w1++[d]++w2).map Rw.e) (k-1)=d.e:=by rw[ZHc (by simp;omega),hd]
  have a2:at' (l.map Rw.e) i=c.e:=by rw[ZHc hll,hc]
  rw[ZAw,ltT (by omega),cond_true,ZBp (by omega) (by omega),i1,cond_true]
  rw[show(bif inR (i:Int) (lenI (l.map Rw.e))then _ else none:Option (List Dat))=_ from by rw[i2,cond_true]]
  simp only[Z6v,a1,a2,gk,gv,gw]
  rw[ZEd]
  simp only[gA]
  rw[ZHb]
  by_cases hcd:Rw.lt c d
  ·rw[decide_eq_true hcd,cond_true]
   have hs':Srt (w1++d::w2):=by simpa using hs
   obtain⟨w,q1,q2,q3⟩:=ih w1 (d::w2) (k-1) (by omega) (by omega) hs' (fun y hy=>by
    rcases List.mem_cons.mp hy with rfl|hy
    ·exact Rw.lt_le hcd
    ·exact hw y hy) (by simp;omega)
   refine⟨w,by simpa using q1,q2,?_⟩
   rw[←q3]
   simp
  ·rw[decide_eq_false hcd,cond_false]
   refine⟨(w1++[d])++c::w2,pm _ _,?_,?_⟩
   ·obtain⟨s1,s2,s3⟩:=List.pairwise_append.mp hs
    refine List.pairwise_append.mpr ⟨s1,List.pairwise_cons.mpr ⟨hw,s2⟩,fun x hx y hy=>?_⟩
    rcases List.mem_cons.mp hy with rfl|hy
    ·obtain⟨t1,t2,t3⟩:=List.pairwise_append.mp s1
     rcases List.mem_append.mp hx with hx|hx
     ·exact Rw.le_tr (t3 x hx d (by simp)) hcd
     ·simp at hx;subst hx;exact hcd
    ·exact s3 x hx y hy
   ·have:=ZJq l u v (w1++[d]) w2 c i k hl hi (by simp;omega) hlen hi2
    simp only[Z6v,a2,gk,gv,gw,i2,cond_true]at this⊢
    exact this
theorem ss0 (l:List Rw) (hll:l.length≤1099511627770):∀(v u w:List Rw) (i:Nat),l=u++v→u.length=i→w.Perm u→Srt w→∃y,y.Perm l∧Srt y∧Z6N (l.map Rw.e) (i:Nat) (w.map Rw.e)=some [.sl (y.map Rw.e)]
 |[],u,w,i,hl,hi,hw,hs=>by
  rw[List.append_nil]at hl
  refine⟨w,hl▸hw,hs,?_⟩
  rw[ZAv,Z5V,ltF (by rw[hl];omega),cond_false]
 |c::v,u,w,i,hl,hi,hw,hs=>by
  have hwl:=hw.length_eq
  have hlen:l.length=u.length+(v.length+1):=by rw[hl];simp
  obtain⟨w',q1,q2,q3⟩:=ss1 l u v c i hl hi (by omega) w.length w [] w.length rfl rfl (by simpa using hs) (fun y hy=>by cases hy) (by simp;omega)
  simp only[List.append_nil]at q1 q3
  obtain⟨y,y1,y2,y3⟩:=ss0 l hll v (u++[c]) w' (i+1) (by simpa using hl) (by simp;omega) (q1.trans (List.Perm.append_right [c] hw)) q2
  refine⟨y,y1,y2,?_⟩
  rw[ZAv,Z5V,ltT (by omega),cond_true,Z5V,q3]
  exact y3
theorem ZHd (x:List Rw) (hx:x.length≤1099511627770):∃y,y.Perm x∧Srt y∧callI tE Z7W [.sl (x.map Rw.e)]=some [.sl (y.map Rw.e)]∧callI tE Z6s [.sl (x.map Rw.e)]=some [.sl (y.map Rw.e)]:=by
 obtain⟨y,y1,y2,y3⟩:=ZIN x (by omega)
 obtain⟨z,z1,z2,z3⟩:=ss0 x hx x [] [] 0 rfl rfl (List.Perm.refl _) List.Pairwise.nil
 have:z=y:=ZC9 (z1.trans y1.symm) z2 y2
 subst this
 refine⟨z,y1,y2,y3,?_⟩
 rw[ZEi]
 exact z3
def ins (c:Rw):List Rw→List Rw
 |[]=>[c]
 |d::l=>if Rw.lt c d then c::d::l else d::ins c l
def ZFg:List Rw→List Rw
 |[]=>[]
 |c::l=>ins c (ZFg l)
theorem ZGK (c:Rw):∀l,(ins c l).Perm (c::l)
 |[]=>List.Perm.refl _
 |d::l=>by
  unfold ins
  split
  ·exact List.Perm.refl _
  ·exact((ZGK c l).cons d).trans (List.Perm.swap c d l)
theorem ZIO (c:Rw):∀{l:List Rw},Srt l→Srt (ins c l)
 |[],_=>List.pairwise_singleton _ _
 |d::l,h=>by
  unfold ins
  obtain⟨h1,h2⟩:=List.pairwise_cons.mp h
  split
  ·rename_i hc
   refine List.pairwise_cons.mpr ⟨fun y hy=>?_,h⟩
   rcases List.mem_cons.mp hy with rfl|hy
   ·exact Rw.lt_le hc
   ·exact Rw.le_tr (Rw.lt_le hc) (h1 y hy)
  ·rename_i hc
   refine List.pairwise_cons.mpr ⟨fun y hy=>?_,ZIO c h2⟩
   rcases List.mem_cons.mp ((ZGK c l).mem_iff.mp hy)with rfl|hy
   ·exact hc
   ·exact h1 y hy
theorem Z9S:∀l,(ZFg l).Perm l
 |[]=>List.Perm.refl _
 |c::l=>(ZGK c _).trans ((Z9S l).cons c)
theorem ZCi:∀l,Srt (ZFg l)
 |[]=>List.Pairwise.nil
 |c::l=>ZIO c (ZCi l)
theorem ZKi (x:List Rw) (hx:x.length≤1099511627770):callI tE Z7W [.sl (x.map Rw.e)]=some [.sl ((ZFg x).map Rw.e)]:=by
 obtain⟨y,y1,y2,y3,_⟩:=ZHd x hx
 rw[y3,ZC9 (y1.trans (Z9S x).symm) y2 (ZCi x)]
theorem ZKj (x:List Rw) (hx:x.length≤1099511627770):callI tE Z6s [.sl (x.map Rw.e)]=some [.sl ((ZFg x).map Rw.e)]:=by
 obtain⟨y,y1,y2,_,y3⟩:=ZHd x hx
 rw[y3,ZC9 (y1.trans (Z9S x).symm) y2 (ZCi x)]
theorem ZAf (l:List Rw):(ZFg l).length=l.length:=(Z9S l).length_eq
theorem ZEf {α:Type} {l:List α} {n:Nat} (h:n<l.length):∃u a v,l=u++a::v∧u.length=n:=
 ⟨l.take n,l[n],l.drop (n+1),by
  have:=List.take_append_drop n l
  rw[List.drop_eq_getElem_cons h]at this
  exact this.symm,by simp;omega⟩
theorem ZGL (r:Rw) (p:List Rw):List.take (tn (lenI ((r::p).map Rw.e)-1)) (List.drop (tn 1) ((r::p).map Rw.e))=p.map Rw.e:=by
 rw[Z5V]
 show List.take ((((r::p).length:Nat):Int)-1).toNat (List.drop 1 (Rw.e r::p.map Rw.e))=_
 simp[List.take_of_length_le]
theorem ZAT {l:List (List Rw)} {a:List Rw} (h:a∈l):a.length≤szL List.length l:=Z8K h
theorem ZJr (l:List (List Rw)) (a:List Rw):List.append (l.map rsE) [[Dat.sl (a.map Rw.e)]]=(l++[a]).map rsE:=by simp[rsE]
def Xc.B (x:Xc):Prop:=x.sz≤1073741824
theorem Xc.B.p {x:Xc} (h:x.B):szL List.length x.pend≤1073741824∧szL List.length x.que≤1073741824∧szL List.length x.got≤1073741824:=by
 simp only[Xc.B,Xc.sz]at h;omega
theorem ZIP (l:List (List Rw)) (h:szL List.length l≤1073741824):callI tE Z7X [.sl (l.map rsE)]=some [.sl (l.flatten.map Rw.e)]:=by
 have hl:=Z63 List.length l
 have hfl:∀m:List (List Rw),m.flatten.length≤szL List.length m:=fun m=>by
  induction m with
  |nil=>simp
  |cons a m ih=>simp only[List.flatten_cons,List.length_append,szL];omega
 rw[ZEz]
 have:=Z98 (l:=l) (L:=fun(s:List Rw) i=>Z6b (l.map rsE) (lenI (l.map rsE)) i (s.map Rw.e)) (F:=fun _ _=>some [.sl (l.flatten.map Rw.e)]) (I:=fun s u _=>s=u.flatten) (by omega) (fun u a v s e hI=>by
  have h1:=hfl (u++[a])
  have h2:szL List.length (u++[a])≤szL List.length l:=by have:=ZDR List.length (u++[a]) v;rw[e,show u++a::v=(u++[a])++v by simp,this];omega
  refine .inl ⟨(u++[a]).flatten,?_,rfl,rfl⟩
  show Z6b _ _ _ _=Z6b _ _ _ _
  subst e
  rw[ZB0,hI]
  simp only[ZE8,ZDq,Z6v,ZDQ,cond_true,rsE,gA,Z5u,ZEb]
  have h3:(u++[a]).flatten.length=u.flatten.length+a.length:=by rw[List.flatten_append,List.length_append];simp
  rw[show fitM (u.flatten.length+a.length) 24=true from Z9y (by omega)]
  simp) (fun s hs=>by
  show Z6b _ _ _ _=_
  rw[ZB0,ZE9,cond_false,hs]) [] rfl
 exact this
def Xc.B2 (x:Xc):Prop:=x.sz≤1073741800
theorem Xc.B2.b {x:Xc} (h:x.B2):x.B:=by simp only[Xc.B2,Xc.B]at*;omega
theorem ZKk (l:List UInt8):(S l).size=l.length:=by simp[S,ByteArray.size]
theorem ZDu (l:List UInt8):szI (S l)=(l.length:Int):=by show((S l).size:Int)=_;rw[ZKk]
theorem ZIQ {i:Int} {n:Nat} (hn:n≤1073741824):win i 0 (w64 ((n:Int)-1))=decide (0≤i∧i<n):=by
 rw[Z5W ⟨by omega,by omega⟩,Bool.eq_iff_iff,ZCe,decide_eq_true_eq]
 constructor<;>(intro h;omega)
theorem ZHH (r:Rw) (p:List Rw):at' ((r::p).map Rw.e) (tn 0)=r.e:=rfl
theorem ZLC (r:Rw) (p:List Rw):inR 0 (lenI ((r::p).map Rw.e))=true:=by rw[Z5V];exact ZFc (by omega) (by(first|omega|(simp only[List.length_append,List.length_cons,List.length_nil,List.length_map,List.length_take,List.length_drop,List.length_replicate,ZDu]at* <;>omega)))
theorem ZLD (r:Rw) (p:List Rw):leI 1 (lenI ((r::p).map Rw.e))=true:=by rw[Z5V];exact leT (by(first|omega|(simp only[List.length_append,List.length_cons,List.length_nil,List.length_map,List.length_take,List.length_drop,List.length_replicate,ZDu]at* <;>omega)))
theorem ZLE (r:Rw) (p:List Rw):eqI (lenI ((r::p).map Rw.e)) 0=false:=by rw[Z5V];exact eqF (by(first|omega|(simp only[List.length_append,List.length_cons,List.length_nil,List.length_map,List.length_take,List.length_drop,List.length_replicate,ZDu]at* <;>omega)))
def isS:List Rw→Bool
 |[]=>true
 |a::l=>(match l with
  |[]=>true
  |b::_=> !decide (Rw.lt b a))&&isS l
theorem ZJs (a b:Rw) (l:List Rw):isS (a::b::l)=(!decide (Rw.lt b a)&&isS (b::l)):=rfl
theorem ZKl (a:Rw):isS [a]=true:=rfl
theorem ZGt (l:List Rw) (hl:l.length<4611686018427387904):∀(v u:List Rw) (a:Rw),l=u++a::v→Z8U (l.map Rw.e) ((u.length+1:Nat):Int)=some [.bool (isS (a::v))]
 |[],u,a,h=>by
  rw[Z8e,Z5V,ltF (by rw[h];simp),cond_false,ZKl]
 |b::v,u,a,h=>by
  have hlen:l.length=u.length+1+1+v.length:=by rw[h];simp;omega
  have a1:at' (l.map Rw.e) u.length=a.e:=ZDs h rfl
  have a2:at' (l.map Rw.e) (u.length+1)=b.e:=ZDs (u:=u++[a]) (v:=v) (by rw[h];simp) (by simp)
  have i1:inR ((u.length+1:Nat):Int) (lenI (l.map Rw.e))=true:=ZDM (by omega)
  have i2:inR ((u.length:Nat):Int) (lenI (l.map Rw.e))=true:=ZDM (by omega)
  have e1:w64 (((u.length+1:Nat):Int)-1)=(u.length:Int):=by rw[Z5W ⟨by omega,by omega⟩];omega
  have ih:=ZGt l hl v (u++[a]) b (by rw[h];simp)
  rw[List.length_append,List.length_singleton]at ih
  rw[Z8e,show ltI ((u.length+1:Nat):Int) (lenI (l.map Rw.e))=true by rw[Z5V];exact ltT (by omega),i1,e1,i2,Z7x (by omega),ih]
  simp only[cond_true,Z6v,a1,a2,gk,gv,gw,ZEc,gA,ZCg,ZJs]
  cases decide (Rw.lt b a)<;>rfl
theorem ZGu (l:List Rw) (hl:l.length<4611686018427387904):callI tE Z8G [.sl (l.map Rw.e)]=some [.bool (isS l)]:=by
 rw[ZEk]
 cases l with
 |nil=>rw[Z8e];rfl
 |cons a v=>exact ZGt (a::v) hl v [] a rfl
theorem ZGv (l:List Rw) (hl:l.length<4611686018427387904):∀(v u:List Rw) (a:Rw),l=u++a::v→Z8R (l.map Rw.e) ((u.length+1:Nat):Int)=some [.bool (isS (a::v))]
 |[],u,a,h=>by
  rw[Z8d,Z5V,ltF (by rw[h];simp),cond_false,ZKl]
 |b::v,u,a,h=>by
  have hlen:l.length=u.length+1+1+v.length:=by rw[h];simp;omega
  have a1:at' (l.map Rw.e) u.length=a.e:=ZDs h rfl
  have a2:at' (l.map Rw.e) (u.length+1)=b.e:=ZDs (u:=u++[a]) (v:=v) (by rw[h];simp) (by simp)
  have i1:inR ((u.length+1:Nat):Int) (lenI (l.map Rw.e))=true:=ZDM (by omega)
  have i2:inR ((u.length:Nat):Int) (lenI (l.map Rw.e))=true:=ZDM (by omega)
  have e1:w64 (((u.length+1:Nat):Int)-1)=(u.length:Int):=by rw[Z5W ⟨by omega,by omega⟩];omega
  have ih:=ZGv l hl v (u++[a]) b (by rw[h];simp)
  rw[List.length_append,List.length_singleton]at ih
  rw[Z8d,show ltI ((u.length+1:Nat):Int) (lenI (l.map Rw.e))=true by rw[Z5V];exact ltT (by omega),i1,e1,i2,Z7x (by omega),ih]
  simp only[cond_true,Z6v,a1,a2,gk,gv,gw,ZEd,gA,ZHb,ZJs]
  cases decide (Rw.lt b a)<;>rfl
theorem ZGw (l:List Rw) (hl:l.length<4611686018427387904):callI tE Z8E [.sl (l.map Rw.e)]=some [.bool (isS l)]:=by
 rw[ZEh]
 cases l with
 |nil=>rw[Z8d];rfl
 |cons a v=>exact ZGv (a::v) hl v [] a rfl
def ZCj (r:Rw) (l:List Rw):Bool:=match l.getLast? with
 |none=>false
 |some x=>decide (Rw.lt r x)
theorem ZHv (r:Rw):ZCj r []=false:=rfl
theorem ZF3 (r:Rw) (u:List Rw) (x:Rw):ZCj r (u++[x])=decide (Rw.lt r x):=by simp[ZCj]
theorem ZIR (l:List Rw):l=[]∨∃u x,l=u++[x]:=by
 cases l.eq_nil_or_concat with
 |inl h=>exact .inl h
 |inr h=>obtain⟨u,x,h⟩:=h;exact .inr ⟨u,x,by simpa using h⟩
theorem ZKm (r:Rw) (l:List Rw) (hl:l.length<4611686018427387904):callI tE ZCc [.int r.k,.int r.v,.int r.w,.sl (l.map Rw.e)]=some [.bool (ZCj r l)]:=by
 rw[ZGr]
 rcases ZIR l with rfl|⟨u,x,rfl⟩
 ·rfl
 ·simp only[List.length_append,List.length_cons,List.length_nil]at hl
  have a1:at' ((u++[x]).map Rw.e) u.length=x.e:=ZDs (u:=u) (v:=[]) (by simp) rfl
  have e1:w64 (lenI ((u++[x]).map Rw.e)-1)=(u.length:Int):=by rw[Z5V,Z5W ⟨by(first|omega|(simp only[List.length_append,List.length_cons,List.length_nil,List.length_map,List.length_take,List.length_drop,List.length_replicate,ZDu]at* <;>omega)),by(first|omega|(simp only[List.length_append,List.length_cons,List.length_nil,List.length_map,List.length_take,List.length_drop,List.length_replicate,ZDu]at* <;>omega))⟩];simp
  rw[show ltI 0 (lenI ((u++[x]).map Rw.e))=true by rw[Z5V];exact ltT (by(first|omega|(simp only[List.length_append,List.length_cons,List.length_nil,List.length_map,List.length_take,List.length_drop,List.length_replicate,ZDu]at* <;>omega))),e1,ZDM (by simp)]
  simp only[cond_true,Z6v,a1,gk,gv,gw,ZEc,gA,ZCg,ZF3]
def ZGM (r:List Rw):Bool:=decide (0<r.length)&&(isS r&&aok r)
def ZDB (l:List (List Rw)):Prop:=szL List.length l≤1073741824
theorem ZHw (l:List (List Rw)) (h:ZDB l):callI tE Z7i [.sl (l.map rsE)]=some [.bool (l.all ZGM)]:=by
 have hl:=Z63 List.length l
 unfold ZDB at h
 rw[ZDA]
 have:=ZCr (l:=l) (L:=Z7F (l.map rsE) (lenI (l.map rsE))) (p:=ZGM) (no:=some [.bool false]) (yes:=some [.bool true]) (by omega) (fun u a v e=>by
  have ha:a.length≤1073741824:=Nat.le_trans (ZAT (by rw[e];simp)) h
  subst e
  rw[Z9R]
  simp only[ZE8,ZDq,Z6v,ZDQ,cond_true,rsE,gA,ZGu a (show a.length<4611686018427387904 by omega),ZDT]
  rw[Z5V Rw.e a]
  unfold ZGM
  by_cases h0:a.length=0
  ·rw[eqT (by omega),h0];rfl
  ·rw[eqF (by omega),decide_eq_true (show 0<a.length by omega)]
   cases isS a
   ·rfl
   ·cases aok a<;>rfl) (by rw[Z9R,ZE9,cond_false])
 exact this.trans (ZI9 _)
theorem ZHx (l:List (List Rw)) (h:ZDB l):callI tE Z7f [.sl (l.map rsE)]=some [.bool (l.all ZGM)]:=by
 have hl:=Z63 List.length l
 unfold ZDB at h
 rw[ZD8]
 have:=ZCr (l:=l) (L:=Z7E (l.map rsE)) (p:=ZGM) (no:=some [.bool false]) (yes:=some [.bool true]) (by omega) (fun u a v e=>by
  have ha:a.length≤1073741824:=Nat.le_trans (ZAT (by rw[e];simp)) h
  subst e
  rw[Z9Q]
  simp only[ZE8,ZDq,Z6v,ZDQ,cond_true,rsE,gA,ZGw a (show a.length<4611686018427387904 by omega),ZCf a (show a.length<4611686018427387904 by omega)]
  rw[Z5V Rw.e a]
  unfold ZGM
  by_cases h0:a.length=0
  ·rw[eqT (by omega),h0];rfl
  ·rw[eqF (by omega),decide_eq_true (show 0<a.length by omega)]
   cases isS a
   ·rfl
   ·cases aok a<;>rfl) (by rw[Z9Q,ZE9,cond_false])
 exact this.trans (ZI9 _)
theorem ZGN (m:List (List Rw)):m.flatten.length≤szL List.length m:=by
 induction m with
 |nil=>simp
 |cons a m ih=>simp only[List.flatten_cons,List.length_append,szL];omega
theorem ZJB (l:List (List Rw)) (h:ZDB l):callI tE Z7y [.sl (l.map rsE)]=some [.sl (l.flatten.map Rw.e)]:=by
 have hl:=Z63 List.length l
 unfold ZDB at h
 rw[ZDX]
 have:=Z98 (l:=l) (L:=fun(s:List Rw) i=>Z6A (l.map rsE) (lenI (l.map rsE)) i (s.map Rw.e)) (F:=fun _ _=>some [.sl (l.flatten.map Rw.e)]) (I:=fun s u _=>s=u.flatten) (by omega) (fun u a v s e hI=>by
  have h1:=ZGN (u++[a])
  have h2:szL List.length (u++[a])≤szL List.length l:=by have:=ZDR List.length (u++[a]) v;rw[e,show u++a::v=(u++[a])++v by simp,this];omega
  refine .inl ⟨(u++[a]).flatten,?_,rfl,rfl⟩
  show Z6A _ _ _ _=Z6A _ _ _ _
  subst e
  rw[Z9s,hI]
  simp only[ZE8,ZDq,Z6v,ZDQ,cond_true,rsE,gA,Z5u,ZEb]
  have h3:(u++[a]).flatten.length=u.flatten.length+a.length:=by rw[List.flatten_append,List.length_append];simp
  rw[show fitM (u.flatten.length+a.length) 24=true from Z9y (by omega)]
  simp) (fun s hs=>by
  show Z6A _ _ _ _=_
  rw[Z9s,ZE9,cond_false,hs]) [] rfl
 exact this
theorem ZJC (l:List (List Rw)) (h:ZDB l):callI tE Z6f [.sl (l.map rsE)]=some [.sl (l.flatten.map Rw.e)]:=by
 have hl:=Z63 List.length l
 unfold ZDB at h
 rw[ZDV]
 have:=Z98 (l:=l) (L:=fun(s:List Rw) i=>Z69 (l.map rsE) i (s.map Rw.e)) (F:=fun _ _=>some [.sl (l.flatten.map Rw.e)]) (I:=fun s u _=>s=u.flatten) (by omega) (fun u a v s e hI=>by
  have h1:=ZGN (u++[a])
  have h2:szL List.length (u++[a])≤szL List.length l:=by have:=ZDR List.length (u++[a]) v;rw[e,show u++a::v=(u++[a])++v by simp,this];omega
  refine .inl ⟨(u++[a]).flatten,?_,rfl,rfl⟩
  show Z69 _ _ _=Z69 _ _ _
  subst e
  rw[Z9q,hI]
  simp only[ZE8,ZDq,Z6v,ZDQ,cond_true,rsE,gA,Z5u,ZEb]
  have h3:(u++[a]).flatten.length=u.flatten.length+a.length:=by rw[List.flatten_append,List.length_append];simp
  rw[show fitM (u.flatten.length+a.length) 24=true from Z9y (by omega)]
  simp) (fun s hs=>by
  show Z69 _ _ _=_
  rw[Z9q,ZE9,cond_false,hs]) [] rfl
 exact this
def ZKA:Nat→List Rw→List Rw→List Rw
 |0,_,_=>[]
 |_+1,[],b=>b
 |_+1,a,[]=>a
 |n+1,x::a,y::b=>if Rw.le x y then x::ZKA n a (y::b)else y::ZKA n (x::a) b
def mrg (a b:List Rw):List Rw:=ZKA (a.length+b.length) a b
theorem ZCQ:∀(n m:Nat) (a b:List Rw),a.length+b.length≤n→a.length+b.length≤m→ZKA n a b=ZKA m a b
 |0,0,_,_,_,_=>rfl
 |0,m+1,a,b,h,_=>by
  have h1:a=[]:=List.length_eq_zero_iff.mp (by omega)
  have h2:b=[]:=List.length_eq_zero_iff.mp (by omega)
  subst h1;subst h2;rfl
 |n+1,0,a,b,_,h=>by
  have h1:a=[]:=List.length_eq_zero_iff.mp (by omega)
  have h2:b=[]:=List.length_eq_zero_iff.mp (by omega)
  subst h1;subst h2;rfl
 |n+1,m+1,[],b,_,_=>rfl
 |n+1,m+1,x::a,[],_,_=>rfl
 |n+1,m+1,x::a,y::b,h,h2=>by
  simp only[List.length_cons]at h h2
  simp only[ZKA]
  rw[ZCQ n m a (y::b) (by simp;omega) (by simp;omega),ZCQ n m (x::a) b (by simp;omega) (by simp;omega)]
theorem ZDC (b:List Rw):mrg [] b=b:=by
 cases b<;>rfl
theorem ZDa (a:List Rw):mrg a []=a:=by
 cases a<;>rfl
theorem ZIS (x y:Rw) (a b:List Rw):mrg (x::a) (y::b)=if Rw.le x y then x::mrg a (y::b)else y::mrg (x::a) b:=by
 unfold mrg
 rw[show(x::a).length+(y::b).length=(a.length+b.length+1)+1 by simp;omega]
 simp only[ZKA]
 rw[ZCQ _ (a.length+(y::b).length) a (y::b) (by simp;omega) (by simp),ZCQ _ ((x::a).length+b.length) (x::a) b (by simp;omega) (by simp)]
theorem ZHI:∀(n:Nat) (a b:List Rw),a.length+b.length=n→(mrg a b).length=n
 |_,[],b,h=>by rw[ZDC];simpa using h
 |_,x::a,[],h=>by rw[ZDa];simpa using h
 |0,x::a,y::b,h=>by simp at h
 |n+1,x::a,y::b,h=>by
  simp only[List.length_cons]at h
  rw[ZIS]
  split
  ·rw[List.length_cons,ZHI n a (y::b) (by simp;omega)]
  ·rw[List.length_cons,ZHI n (x::a) b (by simp;omega)]
theorem ZDv (a b:List Rw):(mrg a b).length=a.length+b.length:=ZHI _ a b rfl
theorem ZHJ (r:Rw) (p:List Rw):ltI 0 (lenI ((r::p).map Rw.e))=true:=by rw[Z5V];exact ltT (by(first|omega|(simp only[List.length_append,List.length_cons,List.length_nil,List.length_map,List.length_take,List.length_drop,List.length_replicate,ZDu]at* <;>omega)))
theorem ZCk:∀(n:Nat) (a b acc:List Rw),a.length+b.length=n→acc.length+n≤2147483648→Z5o (a.map Rw.e) (b.map Rw.e) (acc.map Rw.e)=some [.sl ((acc++mrg a b).map Rw.e)]
 |0,a,b,acc,h,_=>by
  have h1:a=[]:=List.length_eq_zero_iff.mp (by omega)
  have h2:b=[]:=List.length_eq_zero_iff.mp (by omega)
  subst h1;subst h2
  rw[Z6p]
  rw[ZDC,List.append_nil];rfl
 |n+1,[],y::b,acc,h,hl=>by
  have ih:=ZCk n [] b (acc++[y]) (by simp at h⊢;omega) (by simp;omega)
  have f1:fitM (Nat.succ (len (acc.map Rw.e))) 24=true:=by rw[Z5u];exact Z9y (by omega)
  have a1:([[Dat.int y.k,.int y.v,.int y.w]]:Rows)=[y.e]:=rfl
  have z1:lenI (([]:List Rw).map Rw.e)=0:=rfl
  have le01:leI 0 1=true:=rfl
  rw[Z6p,z1,ltF (show(0:Int)≤0 by omega)]
  simp only[cond_false,cond_true,ZHJ,ZLE,ZLC,ZHH,gk,gv,gw,f1,ZLD,le01,Bool.and_self,ZGL,a1,ZDr]
  rw[ih,ZDC,ZDC]
  simp
 |n+1,x::a,[],acc,h,hl=>by
  have ih:=ZCk n a [] (acc++[x]) (by simp at h⊢;omega) (by simp;omega)
  have f1:fitM (Nat.succ (len (acc.map Rw.e))) 24=true:=by rw[Z5u];exact Z9y (by omega)
  have a1:([[Dat.int x.k,.int x.v,.int x.w]]:Rows)=[x.e]:=rfl
  have z1:lenI (([]:List Rw).map Rw.e)=0:=rfl
  have le01:leI 0 1=true:=rfl
  rw[Z6p,z1,eqT (show(0:Int)=0 by omega)]
  simp only[cond_false,cond_true,ZHJ,ZLE,ZLC,ZHH,gk,gv,gw,f1,ZLD,le01,Bool.and_self,ZGL,a1,ZDr]
  rw[ih,ZDa,ZDa]
  simp
 |n+1,x::a,y::b,acc,h,hl=>by
  have f1:fitM (Nat.succ (len (acc.map Rw.e))) 24=true:=by rw[Z5u];exact Z9y (by omega)
  have a1:([[Dat.int x.k,.int x.v,.int x.w]]:Rows)=[x.e]:=rfl
  have a2:([[Dat.int y.k,.int y.v,.int y.w]]:Rows)=[y.e]:=rfl
  have le01:leI 0 1=true:=rfl
  rw[Z6p]
  simp only[cond_false,cond_true,ZHJ,ZLE,ZLC,ZHH,gk,gv,gw,f1,ZLD,le01,Bool.and_self,ZGL,a1,a2,ZDr,ZEc,gA,ZIF]
  rw[ZIS]
  by_cases hxy:Rw.le x y
  ·rw[decide_eq_true hxy,if_pos hxy,cond_true,ZCk n a (y::b) (acc++[x]) (by simp at h⊢;omega) (by simp;omega)]
   simp
  ·rw[decide_eq_false hxy,if_neg hxy,cond_false,ZCk n (x::a) b (acc++[y]) (by simp at h⊢;omega) (by simp;omega)]
   simp
theorem ZLN (a b:List Rw) (h:a.length+b.length≤2147483648):callI tE Z70 [.sl (a.map Rw.e),.sl (b.map Rw.e)]=some [.sl ((mrg a b).map Rw.e)]:=by
 rw[ZDY]
 have:=ZCk _ a b [] rfl (by simpa using h)
 simpa using this
theorem ZCl (A B:List Rw) (hA:A.length+B.length≤2147483648):∀(n:Nat) (a b ua ub acc:List Rw),A=ua++a→B=ub++b→a.length+b.length=n→acc.length+n≤2147483648→
  Z5n (A.map Rw.e) (B.map Rw.e) (ua.length:Nat) (ub.length:Nat) (acc.map Rw.e)=some [.sl ((acc++mrg a b).map Rw.e)]
 |0,a,b,ua,ub,acc,ha,hb,h,_=>by
  have h1:a=[]:=List.length_eq_zero_iff.mp (by omega)
  have h2:b=[]:=List.length_eq_zero_iff.mp (by omega)
  subst h1;subst h2
  rw[List.append_nil]at ha hb
  rw[Z6o,Z5V,Z5V,ltF (by rw[ha];omega),ltF (by rw[hb];omega),ZDC,List.append_nil];rfl
 |n+1,[],y::b,ua,ub,acc,ha,hb,h,hl=>by
  rw[List.append_nil]at ha
  have hBl:B.length=ub.length+(b.length+1):=by rw[hb];simp
  have ih:=ZCl A B hA n [] b ua (ub++[y]) (acc++[y]) (by simpa using ha) (by rw[hb];simp) (by simp at h⊢;omega) (by simp;omega)
  rw[List.length_append,List.length_singleton]at ih
  have f1:fitM (Nat.succ (len (acc.map Rw.e))) 24=true:=by rw[Z5u];exact Z9y (by omega)
  have a1:([[Dat.int y.k,.int y.v,.int y.w]]:Rows)=[y.e]:=rfl
  have b1:at' (B.map Rw.e) ub.length=y.e:=ZDs hb rfl
  have b2:inR (ub.length:Int) (lenI (B.map Rw.e))=true:=ZDM (by omega)
  rw[Z6o,b2]
  simp only[Z5V,Z6v,b1,gk,gv,gw,a1,ZDr,f1]
  rw[ltF (show(A.length:Int)≤(ua.length:Int)by rw[ha];omega),ltT (show(ub.length:Int)<(B.length:Int)by omega),eqF (show(ub.length:Int)≠(B.length:Int)by omega),Z7x (show ub.length<9223372036854775807 by omega)]
  simp only[cond_true,cond_false]
  rw[ih,ZDC,ZDC]
  simp
 |n+1,x::a,[],ua,ub,acc,ha,hb,h,hl=>by
  rw[List.append_nil]at hb
  have hAl:A.length=ua.length+(a.length+1):=by rw[ha];simp
  have ih:=ZCl A B hA n a [] (ua++[x]) ub (acc++[x]) (by rw[ha];simp) (by simpa using hb) (by simp at h⊢;omega) (by simp;omega)
  rw[List.length_append,List.length_singleton]at ih
  have f1:fitM (Nat.succ (len (acc.map Rw.e))) 24=true:=by rw[Z5u];exact Z9y (by omega)
  have a1:([[Dat.int x.k,.int x.v,.int x.w]]:Rows)=[x.e]:=rfl
  have b1:at' (A.map Rw.e) ua.length=x.e:=ZDs ha rfl
  have b2:inR (ua.length:Int) (lenI (A.map Rw.e))=true:=ZDM (by omega)
  rw[Z6o,b2]
  simp only[Z5V,Z6v,b1,gk,gv,gw,a1,ZDr,f1]
  rw[ltT (show(ua.length:Int)<(A.length:Int)by omega),eqT (show(ub.length:Int)=(B.length:Int)by rw[hb]),Z7x (show ua.length<9223372036854775807 by omega)]
  simp only[cond_true,cond_false]
  rw[ih,ZDa,ZDa]
  simp
 |n+1,x::a,y::b,ua,ub,acc,ha,hb,h,hl=>by
  have hAl:A.length=ua.length+(a.length+1):=by rw[ha];simp
  have hBl:B.length=ub.length+(b.length+1):=by rw[hb];simp
  have f1:fitM (Nat.succ (len (acc.map Rw.e))) 24=true:=by rw[Z5u];exact Z9y (by omega)
  have a1:([[Dat.int x.k,.int x.v,.int x.w]]:Rows)=[x.e]:=rfl
  have a2:([[Dat.int y.k,.int y.v,.int y.w]]:Rows)=[y.e]:=rfl
  have b1:at' (A.map Rw.e) ua.length=x.e:=ZDs ha rfl
  have b2:inR (ua.length:Int) (lenI (A.map Rw.e))=true:=ZDM (by omega)
  have b3:at' (B.map Rw.e) ub.length=y.e:=ZDs hb rfl
  have b4:inR (ub.length:Int) (lenI (B.map Rw.e))=true:=ZDM (by omega)
  rw[Z6o,b2,b4]
  simp only[Z5V,Z6v,b1,b3,gk,gv,gw,a1,a2,ZDr,f1,ZEd,gA,ZIF]
  rw[ltT (show(ua.length:Int)<(A.length:Int)by omega),eqF (show(ub.length:Int)≠(B.length:Int)by omega),Z7x (show ua.length<9223372036854775807 by omega),Z7x (show ub.length<9223372036854775807 by omega)]
  simp only[cond_true,cond_false]
  rw[ZIS]
  by_cases hxy:Rw.le x y
  ·have ih:=ZCl A B hA n a (y::b) (ua++[x]) ub (acc++[x]) (by rw[ha];simp) hb (by simp at h⊢;omega) (by simp;omega)
   rw[List.length_append,List.length_singleton]at ih
   rw[decide_eq_true hxy,if_pos hxy,cond_true,ih]
   simp
  ·have ih:=ZCl A B hA n (x::a) b ua (ub++[y]) (acc++[y]) ha (by rw[hb];simp) (by simp at h⊢;omega) (by simp;omega)
   rw[List.length_append,List.length_singleton]at ih
   rw[decide_eq_false hxy,if_neg hxy,cond_false,ih]
   simp
theorem ZLO (a b:List Rw) (h:a.length+b.length≤2147483648):callI tE Z6z [.sl (a.map Rw.e),.sl (b.map Rw.e)]=some [.sl ((mrg a b).map Rw.e)]:=by
 rw[ZDW]
 have:=ZCl a b h _ a b [] [] [] rfl rfl rfl (by simpa using h)
 simpa using this
def ZFh (a b:List Rw):Bool:=decide (ZFg a=ZFg b)
theorem ZIT {a b:List Rw}:ZFh a b=true↔a.Perm b:=by
 simp only[ZFh,decide_eq_true_eq]
 constructor
 ·intro h
  exact(Z9S a).symm.trans (h▸Z9S b)
 ·intro h
  exact ZC9 ((Z9S a).trans (h.trans (Z9S b).symm)) (ZCi a) (ZCi b)
theorem ZGx {a b:List Rw} (h:¬a.length=b.length):ZFh a b=false:=by
 rw[←Bool.not_eq_true,ZIT]
 exact fun hh=>h hh.length_eq
theorem ZKn (a b:List Rw) (ha:a.length≤1099511627770) (hb:b.length≤1099511627770):callI tE Z7o [.sl (a.map Rw.e),.sl (b.map Rw.e)]=some [.bool (ZFh a b)]:=by
 rw[ZEK]
 by_cases h:a.length=b.length
 ·rw[ZC6 h,cond_true]
  simp only[ZKi a ha,ZKi b hb,gA]
  rw[ZIH _ _ (by rw[ZAf];omega)]
  rfl
 ·rw[ZC7 h,cond_false,ZGx h]
theorem ZKo (a b:List Rw) (ha:a.length≤1099511627770) (hb:b.length≤1099511627770):callI tE Z6j [.sl (a.map Rw.e),.sl (b.map Rw.e)]=some [.bool (ZFh a b)]:=by
 rw[ZEI]
 simp only[ZKj a ha,ZKj b hb,gA]
 by_cases h:a.length=b.length
 ·rw[ZC6 (by rw[ZAf,ZAf,h]),Bool.not_true,cond_false]
  have:=ZA9 (L:=fun x y i=>Z81 i x y) (e:=Rw.e) (P:=fun _=>True) (fun p q p' q' a b _ hpl hlt=>by
   rw[ZAa]
   simp only[Z6H,Z6C,Z6v,Z68,cond_true,cond_false,gA,Z7J hpl,ZAs hpl,Rw.e,ZIG,ZGk]) (fun p p' hpl=>by
   rw[ZAa,Z6I,cond_false]) (ZFg a) (ZFg b) [] [] rfl (by rw[ZAf,ZAf,h]) (fun a ha=>trivial) (by simp[ZAf];omega)
  simpa[ZFh]using this
 ·rw[ZC7 (by rw[ZAf,ZAf];exact h),Bool.not_false,cond_true,ZGx h]
def rc (l:List (List Rw)) (n:Nat) (p:Int):Nat:=match l[n]? with
 |none=>0
 |some r=>if p<0 then 0 else match r[p.toNat]? with
  |none=>0
  |some x=>x.cost
theorem ZJD (l:List (List Rw)) (n:Nat) (p:Int):rc l n p≤4:=by
 unfold rc
 split
 ·omega
 ·split
  ·omega
  ·split
   ·omega
   ·exact ZHD _
def ZJE (s:So):Nat:=if s.ph=1 then ZBV s.heap+ZBV s.dfd else if s.ph=2 then(if s.lp<0∨s.rp<0 then 0 else rc s.runs 0 s.lp+rc s.runs 1 s.rp)else if s.ph=3 then rc s.runs 0 s.lp else 0
def So.B (s:So):Prop:=s.sz≤1073741824
theorem So.B.p {s:So} (h:s.B):s.inp.length≤1073741824∧s.heap.length≤1073741824∧s.dfd.length≤1073741824∧s.out.length≤1073741824∧ZDB s.runs:=by
 simp only[So.B,So.sz]at h
 unfold ZDB
 omega
theorem ZHe (s:So) (n:Nat) (p:Int) (h:s.B):callI tE Z8h [.sl (s.inp.map Rw.e),.int s.pos,.sl (s.heap.map Rw.e),.sl (s.dfd.map Rw.e),.sl (s.out.map Rw.e),.sl (s.runs.map rsE),.int s.lp,.int s.rp,.int s.ph,.int s.wr,.int (n:Int),.int p]=some [.int (rc s.runs n p:Nat)]:=by
 have hl:=Z63 List.length s.runs
 have hb:=h.p.2.2.2.2
 unfold ZDB at hb
 rw[ZFf,Z5V]
 unfold rc
 by_cases hn:n<s.runs.length
 ·obtain⟨u,a,v,hr,rfl⟩:=ZEf hn
  have ha:a.length≤1073741824:=Nat.le_trans (ZAT (by rw[hr];simp)) hb
  have e1:s.runs[u.length]?=some a:=by rw[hr];simp
  have e2:at' (s.runs.map rsE) u.length=rsE a:=ZDs hr rfl
  rw[leF (by omega),cond_false,e1]
  simp only[Z6v,e2,rsE,gA,Z5V]
  by_cases hp:p<0
  ·rw[ltT hp,cond_true,if_pos hp];rfl
  ·rw[ltF (by omega),cond_false,if_neg hp,ZFc (by omega) (by omega),cond_true]
   by_cases hpa:p.toNat<a.length
   ·obtain⟨u2,x,v2,hx,hu2⟩:=ZEf hpa
    have e3:a[p.toNat]?=some x:=by rw[hx,←hu2];simp
    have e4:at' (a.map Rw.e) (tn p)=x.e:=ZDs hx hu2
    rw[leF (by omega),cond_false,e3,ZFc (by omega) (by omega),cond_true,cond_true]
    simp only[e4,gk,gv,gw,ZHa,gA]
   ·rw[leT (by omega),cond_true,List.getElem?_eq_none (by omega)];rfl
 ·rw[leT (by omega),cond_true,List.getElem?_eq_none (by omega)];rfl
theorem ZIU (l:List (List Rw)) (n:Nat) (p:Int) (h:ZDB l) (hp:0≤p):∃q:List Rw,callI tE Z9Y [.sl (l.map rsE),.int (n:Int),.int p]=some [.sl (q.map Rw.e)]∧ZBV q=rc l n p∧q.length≤1∧q=(match l[n]? with
  |none=>[]
  |some r=>(match r[p.toNat]? with
   |none=>[]
   |some x=>[x])):=by
 have hl:=Z63 List.length l
 unfold ZDB at h
 rw[ZGH,Z5V]
 unfold rc
 by_cases hn:n<l.length
 ·obtain⟨u,a,v,hr,rfl⟩:=ZEf hn
  have ha:a.length≤1073741824:=Nat.le_trans (ZAT (by rw[hr];simp)) h
  have e1:l[u.length]?=some a:=by rw[hr];simp
  have e2:at' (l.map rsE) u.length=rsE a:=ZDs hr rfl
  rw[ltT (by omega),cond_true,ZFc (by omega) (by omega),e1]
  simp only[Z6v,e2,rsE,gA,Z5V,cond_true]
  rw[if_neg (by omega)]
  by_cases hpa:p.toNat<a.length
  ·obtain⟨u2,x,v2,hx,hu2⟩:=ZEf hpa
   have e3:a[p.toNat]?=some x:=by rw[hx,←hu2];simp
   have e4:at' (a.map Rw.e) (tn p)=x.e:=ZDs hx hu2
   rw[ltT (by omega),cond_true,e3,ZFc (by omega) (by omega),cond_true]
   exact⟨[x],by simp only[e4,gk,gv,gw];rfl,by simp[ZBV],by simp,rfl⟩
  ·rw[ltF (by omega),cond_false,List.getElem?_eq_none (by omega)]
   exact⟨[],rfl,rfl,by simp,rfl⟩
 ·rw[ltF (by omega),cond_false,List.getElem?_eq_none (by omega)]
  exact⟨[],rfl,rfl,by simp,rfl⟩
theorem ZLX (s:So) (h:s.B):callI tE Z7h [.sl (s.inp.map Rw.e),.int s.pos,.sl (s.heap.map Rw.e),.sl (s.dfd.map Rw.e),.sl (s.out.map Rw.e),.sl (s.runs.map rsE),.int s.lp,.int s.rp,.int s.ph,.int s.wr]=some [.int (ZJE s:Nat)]:=by
 obtain⟨h1,h2,h3,h4,h5⟩:=h.p
 have r0:=ZHe s 0 s.lp h
 have r1:=ZHe s 1 s.rp h
 have e0:((0:Nat):Int)=0:=rfl
 have e1:((1:Nat):Int)=1:=rfl
 rw[e0]at r0
 rw[e1]at r1
 have t1:=ZDU s.heap
 have t2:=ZDU s.dfd
 have q1:=ZJD s.runs 0 s.lp
 have q2:=ZJD s.runs 1 s.rp
 rw[ZD9]
 simp only[ZG4 s.heap (by omega),ZG4 s.dfd (by omega),r0,r1,gA]
 unfold ZJE
 by_cases p1:s.ph=1
 ·rw[eqT p1,cond_true,if_pos p1,Z5W ⟨by omega,by omega⟩]
  simp
 ·rw[eqF p1,cond_false,if_neg p1]
  by_cases p2:s.ph=2
  ·rw[eqT p2,cond_true,if_pos p2]
   by_cases p3:s.lp<0
   ·rw[ltT p3,if_pos (.inl p3)];rfl
   ·rw[ltF (by omega),cond_false]
    by_cases p4:s.rp<0
    ·rw[ltT p4,if_pos (.inr p4)];rfl
    ·rw[ltF (by omega),cond_false,if_neg (by omega),Z5W ⟨by omega,by omega⟩]
     simp
  ·rw[eqF p2,cond_false,if_neg p2]
   by_cases p3:s.ph=3
   ·rw[eqT p3,cond_true,if_pos p3]
   ·rw[eqF p3,cond_false,if_neg p3];rfl
theorem ZLY (s:So) (h:s.B):callI tE Z7e [.sl (s.inp.map Rw.e),.int s.pos,.sl (s.heap.map Rw.e),.sl (s.dfd.map Rw.e),.sl (s.out.map Rw.e),.sl (s.runs.map rsE),.int s.lp,.int s.rp,.int s.ph,.int s.wr]=some [.int (ZJE s:Nat)]:=by
 obtain⟨h1,h2,h3,h4,h5⟩:=h.p
 have t1:=ZDU s.heap
 have t2:=ZDU s.dfd
 have q1:=ZJD s.runs 0 s.lp
 have q2:=ZJD s.runs 1 s.rp
 rw[ZD7]
 simp only[ZC8 s.heap (by omega),ZC8 s.dfd (by omega),gA]
 unfold ZJE
 by_cases p1:s.ph=1
 ·rw[eqT p1,cond_true,if_pos p1,Z5W ⟨by omega,by omega⟩]
  simp
 ·rw[eqF p1,cond_false,if_neg p1]
  by_cases p2:s.ph=2
  ·rw[eqT p2,cond_true,if_pos p2]
   by_cases p3:s.lp<0
   ·rw[ltT p3,if_pos (.inl p3)];rfl
   ·rw[ltF (by omega),cond_false]
    by_cases p4:s.rp<0
    ·rw[ltT p4,if_pos (.inr p4)];rfl
    ·obtain⟨a,a1,a2,a3,_⟩:=ZIU s.runs 0 s.lp h5 (by omega)
     obtain⟨b,b1,b2,b3,_⟩:=ZIU s.runs 1 s.rp h5 (by omega)
     rw[show((0:Nat):Int)=0 from rfl]at a1
     rw[show((1:Nat):Int)=1 from rfl]at b1
     rw[ltF (by omega),cond_false,if_neg (by omega)]
     simp only[a1,b1,gA,ZC8 a (by omega),ZC8 b (by omega),a2,b2]
     rw[Z5W ⟨by omega,by omega⟩]
     simp
  ·rw[eqF p2,cond_false,if_neg p2]
   by_cases p3:s.ph=3
   ·rw[eqT p3,cond_true,if_pos p3]
    by_cases p4:s.lp<0
    ·rw[ltT p4,cond_true]
     unfold rc
     cases s.runs[0]?<;>simp[p4]
    ·obtain⟨a,a1,a2,a3,_⟩:=ZIU s.runs 0 s.lp h5 (by omega)
     rw[show((0:Nat):Int)=0 from rfl]at a1
     rw[ltF (by omega),cond_false]
     simp only[a1,gA,ZC8 a (by omega),a2]
   ·rw[eqF p3,cond_false,if_neg p3];rfl
def ZHK (s:So):Bool:=match s.runs with
 |a::b::_=>win s.lp 0 a.length&&(win s.rp 0 b.length&&(decide (s.out=mrg (a.take s.lp.toNat) (b.take s.rp.toNat))&&decide (s.out=(mrg a b).take (s.lp.toNat+s.rp.toNat))))
 |_=>false
def ZIV (s:So):Bool:=
 if s.ph=2 then ZHK s
 else if s.ph=3 then decide (s.runs.length=1)&&(decide (0≤s.lp∧s.lp<s.inp.length)&&(decide (s.rp=0)&&decide (s.out=[])))
 else if s.ph=4 then decide (s.runs.length≤1)&&(decide (s.lp=s.inp.length)&&(decide (s.rp=0)&&decide (s.out=[])))
 else false
def ZF4 (s:So):Bool:=
 if s.ph=1 then decide (s.lp=0)&&(decide (s.rp=0)&&(decide (s.out≠[]∨s.dfd=[])&&(decide (ZJE s≤60)&&ZFh (s.runs.flatten++(s.out++(s.heap++s.dfd))) (s.inp.take s.pos.toNat))))
 else decide (s.pos=s.inp.length)&&(decide (s.heap=[])&&(decide (s.dfd=[])&&(ZFh s.runs.flatten s.inp&&ZIV s)))
def ZKp (s:So):Bool:=aok s.inp&&(win s.pos 0 s.inp.length&&(s.runs.all ZGM&&(decide (0≤s.wr)&&(isS s.out&&((s.heap.all fun r=> !ZCj r s.out)&&ZF4 s)))))
def So.B2 (s:So):Prop:=s.sz≤1073741800
theorem So.B2.b {s:So} (h:s.B2):s.B:=by simp only[So.B2,So.B]at*;omega
theorem ZHf (l:List Rw) (p:Int):List.take (tn (p-0)) (List.drop (tn 0) (l.map Rw.e))=(l.take p.toNat).map Rw.e:=by
 show List.take (p-0).toNat (List.drop 0 (l.map Rw.e))=_
 rw[Int.sub_zero,List.drop_zero,List.map_take]
theorem ZAt {α:Type} (l:List α):decide (l=[])=decide (l.length=0):=by
 cases l<;>simp
theorem ZHg (n:Nat):leI (n:Int) 60=decide (n≤60):=by
 unfold leI;congr 1;apply propext;omega
theorem ZLF (s:So) (h:s.B2) (hp:win s.pos 0 s.inp.length=true) (x0:Int) (x1:Rows) (n:Int):
  Z6V x0 x1 n n (s.inp.map Rw.e) s.pos (s.heap.map Rw.e) (s.dfd.map Rw.e) (s.out.map Rw.e) (s.runs.map rsE) s.lp s.rp s.ph s.wr=some [.bool (ZF4 s)]:=by
 obtain⟨h1,h2,h3,h4,h5⟩:=h.b.p
 have hpp:=ZCe.mp hp
 have hfl:=ZGN s.runs
 have hsz:s.inp.length+(s.heap.length+(s.dfd.length+(s.out.length+s.runs.flatten.length)))≤1073741800:=by
  simp only[So.B2,So.sz]at h;omega
 have ht:callI tE Z7X [.sl [[.sl (s.runs.flatten.map Rw.e)],[.sl (s.out.map Rw.e)],[.sl (s.heap.map Rw.e)],[.sl (s.dfd.map Rw.e)]]]=some [.sl ((s.runs.flatten++(s.out++(s.heap++s.dfd))).map Rw.e)]:=by
  have:=ZIP [s.runs.flatten,s.out,s.heap,s.dfd] (by simp only[szL];omega)
  simpa[rsE]using this
 have hb1:=ZKn (s.runs.flatten++(s.out++(s.heap++s.dfd))) (s.inp.take s.pos.toNat) (by(first|omega|(simp only[List.length_append,List.length_cons,List.length_nil,List.length_map,List.length_take,List.length_drop,List.length_replicate,ZDu]at* <;>omega))) (by(first|omega|(simp only[List.length_append,List.length_cons,List.length_nil,List.length_map,List.length_take,List.length_drop,List.length_replicate,ZDu]at* <;>omega)))
 have hb2:=ZKn s.runs.flatten s.inp (by omega) (by omega)
 rw[Z8o,ltF (Int.le_refl n),cond_false]
 simp only[ZJB s.runs h5,ZLX s h.b,gA,ht,hb2,ZHf,hb1]
 unfold ZF4
 by_cases p1:s.ph=1
 ·rw[eqT p1,cond_true,if_pos p1]
  by_cases q1:s.lp=0
  ·rw[eqT q1,cond_true,decide_eq_true q1]
   by_cases q2:s.rp=0
   ·rw[eqT q2,cond_true,decide_eq_true q2,leT (show 0≤s.pos by omega),show leI s.pos (lenI (s.inp.map Rw.e))=true by rw[Z5V];exact leT (by omega)]
    simp only[Bool.and_self,cond_true,ZHg,Z5V]
    by_cases q3:0<s.out.length
    ·rw[ltT (by omega),cond_true,decide_eq_true (show s.out≠[]∨s.dfd=[]from .inl (fun e=>by rw[e]at q3;simp at q3))]
     cases decide (ZJE s≤60)<;>rfl
    ·rw[ltF (by omega),cond_false]
     have qo:s.out=[]:=List.length_eq_zero_iff.mp (by omega)
     by_cases q4:s.dfd.length=0
     ·rw[eqT (by omega),cond_true,decide_eq_true (show s.out≠[]∨s.dfd=[]from .inr (List.length_eq_zero_iff.mp q4))]
      cases decide (ZJE s≤60)<;>rfl
     ·rw[eqF (by omega),cond_false,decide_eq_false (show¬(s.out≠[]∨s.dfd=[])from fun e=>e.elim (fun e=>e qo) (fun e=>q4 (by rw[e];rfl)))]
      rfl
   ·rw[eqF q2,decide_eq_false q2];rfl
  ·rw[eqF q1,decide_eq_false q1];rfl
 ·rw[eqF p1,cond_false,if_neg p1]
  simp only[Z5V]
  by_cases q1:s.pos=s.inp.length
  ·rw[eqT q1,Bool.not_true,cond_false,decide_eq_true q1]
   by_cases q2:s.heap.length=0
   ·rw[ltF (by omega),cond_false,ZAt s.heap,decide_eq_true q2]
    by_cases q3:s.dfd.length=0
    ·rw[ltF (by omega),cond_false,ZAt s.dfd,decide_eq_true q3]
     simp only[Bool.true_and]
     cases ZFh s.runs.flatten s.inp
     ·rfl
     ·simp only[Bool.not_true,cond_false,Bool.true_and]
      unfold ZIV
      by_cases p2:s.ph=2
      ·rw[eqT p2,cond_true,if_pos p2]
       unfold ZHK
       cases hr:s.runs with
       |nil=>rfl
       |cons a r=>
        cases r with
        |nil=>rfl
        |cons b r=>
         have ha:a.length≤1073741824:=Nat.le_trans (ZAT (by rw[hr];simp)) h5
         have hb:b.length≤1073741824:=Nat.le_trans (ZAT (by rw[hr];simp)) h5
         have g0:at' ((a::b::r).map rsE) (tn 0)=rsE a:=rfl
         have g1:at' ((a::b::r).map rsE) (tn 1)=rsE b:=rfl
         have l0:ltI ((a::b::r).length:Int) 2=false:=ltF (by simp;omega)
         have l1:inR 0 ((a::b::r).length:Int)=true:=ZFc (by omega) (by simp;omega)
         have l2:inR 1 ((a::b::r).length:Int)=true:=ZFc (by omega) (by simp;omega)
         simp only[l0,l1,l2,cond_true,cond_false,g0,g1,rsE,gA,Z5V,Z7D]
         by_cases w1:win s.lp 0 a.length=true
         ·by_cases w2:win s.rp 0 b.length=true
          ·have w3:=ZCe.mp w1
           have w4:=ZCe.mp w2
           have m1:=ZLN (a.take s.lp.toNat) (b.take s.rp.toNat) (by simp;omega)
           have m2:=ZLN a b (by omega)
           have ml:=ZDv a b
           have e1:=ZIH s.out (mrg (a.take s.lp.toNat) (b.take s.rp.toNat)) (by omega)
           have e2:=ZIH s.out ((mrg a b).take (s.lp.toNat+s.rp.toNat)) (by omega)
           have e3:w64 (s.lp+s.rp)=s.lp+s.rp:=Z5W ⟨by omega,by omega⟩
           have e4:(s.lp+s.rp).toNat=s.lp.toNat+s.rp.toNat:=by omega
           rw[w1,w2,leT w3.1,leT w3.2,leT w4.1,leT w4.2]
           simp only[Bool.not_true,cond_false,Bool.and_self,cond_true,ZHf,m1,m2,e1,gA,e3,e4,Z5V,e2]
           rw[leT (by omega),leT (by rw[ml];omega)]
           simp only[Bool.and_self,cond_true,Bool.true_and]
           cases decide (s.out=mrg (a.take s.lp.toNat) (b.take s.rp.toNat))<;>rfl
          ·rw[w1,(Bool.not_eq_true _).mp w2];rfl
         ·rw[(Bool.not_eq_true _).mp w1];rfl
      ·rw[eqF p2,cond_false,if_neg p2]
       by_cases p3:s.ph=3
       ·rw[eqT p3,cond_true,if_pos p3]
        by_cases w1:s.runs.length=1
        ·rw[eqT (by omega),cond_true,decide_eq_true w1]
         simp only[Z7D,ZIQ (show s.inp.length≤1073741824 by omega),gA,Bool.true_and]
         by_cases w2:0≤s.lp∧s.lp<s.inp.length
         ·rw[decide_eq_true w2,cond_true]
          by_cases w3:s.rp=0
          ·rw[eqT w3,cond_true,decide_eq_true w3,ZAt]
           unfold eqI
           simp
          ·rw[eqF w3,decide_eq_false w3];rfl
         ·rw[decide_eq_false w2];rfl
        ·rw[eqF (by omega),decide_eq_false w1];rfl
       ·rw[eqF p3,cond_false,if_neg p3]
        by_cases p4:s.ph=4
        ·rw[eqT p4,cond_true,if_pos p4]
         by_cases w1:s.runs.length≤1
         ·rw[leT (by omega),cond_true,decide_eq_true w1]
          by_cases w2:s.lp=s.inp.length
          ·rw[eqT w2,cond_true,decide_eq_true w2]
           by_cases w3:s.rp=0
           ·rw[eqT w3,cond_true,decide_eq_true w3,ZAt]
            unfold eqI
            simp
           ·rw[eqF w3,decide_eq_false w3];rfl
          ·rw[eqF w2,decide_eq_false w2];rfl
         ·rw[leF (by omega),decide_eq_false w1];rfl
        ·rw[eqF p4,if_neg p4];rfl
    ·rw[ltT (by omega),ZAt s.dfd,decide_eq_false q3];simp
   ·rw[ltT (by omega),ZAt s.heap,decide_eq_false q2];rfl
  ·rw[eqF q1,decide_eq_false q1];rfl
theorem ZJF (s:So) (h:s.B2):callI tE Z7O [.sl (s.inp.map Rw.e),.int s.pos,.sl (s.heap.map Rw.e),.sl (s.dfd.map Rw.e),.sl (s.out.map Rw.e),.sl (s.runs.map rsE),.int s.lp,.int s.rp,.int s.ph,.int s.wr]=some [.bool (ZKp s)]:=by
 obtain⟨h1,h2,h3,h4,h5⟩:=h.b.p
 rw[ZCu]
 simp only[ZDT,Z7D,Z5V,ZHw s.runs h5,ZGu s.out (by omega),gA]
 unfold ZKp
 cases aok s.inp
 ·rfl
 ·by_cases hp:win s.pos 0 s.inp.length=true
  ·rw[hp]
   cases s.runs.all ZGM
   ·rfl
   ·by_cases hw:0≤s.wr
    ·rw[ltF hw,decide_eq_true hw]
     cases isS s.out
     ·rfl
     ·have:=ZCr (l:=s.heap) (L:=fun i=>Z6V 0 (s.heap.map Rw.e) (s.heap.length:Nat) i (s.inp.map Rw.e) s.pos (s.heap.map Rw.e) (s.dfd.map Rw.e) (s.out.map Rw.e) (s.runs.map rsE) s.lp s.rp s.ph s.wr) (p:=fun r=> !ZCj r s.out) (no:=some [.bool false]) (yes:=some [.bool (ZF4 s)]) (by omega) (fun u a v e=>by
       have hu:u.length<s.heap.length:=by rw[e];simp
       have ha:at' (s.heap.map Rw.e) u.length=a.e:=ZDs e rfl
       rw[Z8o,ltT (by omega),cond_true,ZDM hu,cond_true]
       simp only[Z6v,ha,gk,gv,gw,ZKm a s.out (by omega),gA]
       cases ZCj a s.out<;>rfl) (ZLF s h hp 0 _ _)
      refine this.trans ?_
      cases s.heap.all fun r=> !ZCj r s.out<;>rfl
    ·rw[ltT (by omega),decide_eq_false hw];rfl
  ·rw[(Bool.not_eq_true _).mp hp];rfl
theorem ZLG (s:So) (h:s.B2) (hp:win s.pos 0 s.inp.length=true) (x0:Int):
  Z6D x0 (w64 ((s.out.length:Int)-1)) (s.heap.length:Nat) (s.inp.map Rw.e) s.pos (s.heap.map Rw.e) (s.dfd.map Rw.e) (s.out.map Rw.e) (s.runs.map rsE) s.lp s.rp s.ph s.wr=some [.bool (ZF4 s)]:=by
 obtain⟨h1,h2,h3,h4,h5⟩:=h.b.p
 have hpp:=ZCe.mp hp
 have hfl:=ZGN s.runs
 have hsz:s.inp.length+(s.heap.length+(s.dfd.length+(s.out.length+s.runs.flatten.length)))≤1073741800:=by
  simp only[So.B2,So.sz]at h;omega
 have hb1:=ZKo (s.runs.flatten++(s.out++(s.heap++s.dfd))) (s.inp.take s.pos.toNat) (by(first|omega|(simp only[List.length_append,List.length_cons,List.length_nil,List.length_map,List.length_take,List.length_drop,List.length_replicate,ZDu]at* <;>omega))) (by(first|omega|(simp only[List.length_append,List.length_cons,List.length_nil,List.length_map,List.length_take,List.length_drop,List.length_replicate,ZDu]at* <;>omega)))
 have hb2:=ZKo s.runs.flatten s.inp (by omega) (by omega)
 have f1:fitM (s.runs.flatten.length+s.out.length) 24=true:=Z9y (by omega)
 have f2:fitM ((s.runs.flatten++s.out).length+s.heap.length) 24=true:=Z9y (by(first|omega|(simp only[List.length_append,List.length_cons,List.length_nil,List.length_map,List.length_take,List.length_drop,List.length_replicate,ZDu]at* <;>omega)))
 have f3:fitM ((s.runs.flatten++s.out++s.heap).length+s.dfd.length) 24=true:=Z9y (by(first|omega|(simp only[List.length_append,List.length_cons,List.length_nil,List.length_map,List.length_take,List.length_drop,List.length_replicate,ZDu]at* <;>omega)))
 have hass:s.runs.flatten++s.out++s.heap++s.dfd=s.runs.flatten++(s.out++(s.heap++s.dfd)):=by simp
 have hlast:leI 0 (w64 ((s.out.length:Int)-1))=decide (0<s.out.length):=by
  rw[Z5W ⟨by omega,by omega⟩];unfold leI;congr 1;apply propext;omega
 rw[Z8n,Z5V,ltF (Int.le_refl _),cond_false]
 simp only[ZJC s.runs h5,ZLY s h.b,gA,hb2,ZHf,Z5u,ZEb,f1,f2,f3,cond_true,hass,hb1,hlast,Z5V]
 unfold ZF4
 by_cases p1:s.ph=1
 ·rw[eqT p1,cond_true,if_pos p1]
  by_cases q1:s.lp=0
  ·rw[eqT q1,cond_true,decide_eq_true q1]
   by_cases q2:s.rp=0
   ·rw[eqT q2,cond_true,decide_eq_true q2,leT (show 0≤s.pos by omega),leT (show s.pos≤s.inp.length by omega)]
    simp only[Bool.and_self,cond_true,ZHg]
    by_cases q4:s.dfd.length=0
    ·rw[eqT (by omega),cond_true,decide_eq_true (show s.out≠[]∨s.dfd=[]from .inr (List.length_eq_zero_iff.mp q4))]
     cases decide (ZJE s≤60)<;>rfl
    ·rw[eqF (by omega),cond_false]
     by_cases q3:0<s.out.length
     ·rw[decide_eq_true q3,cond_true,decide_eq_true (show s.out≠[]∨s.dfd=[]from .inl (fun e=>by rw[e]at q3;simp at q3))]
      cases decide (ZJE s≤60)<;>rfl
     ·have qo:s.out=[]:=List.length_eq_zero_iff.mp (by omega)
      rw[decide_eq_false q3,cond_false,decide_eq_false (show¬(s.out≠[]∨s.dfd=[])from fun e=>e.elim (fun e=>e qo) (fun e=>q4 (by rw[e];rfl)))]
      rfl
   ·rw[eqF q2,decide_eq_false q2];rfl
  ·rw[eqF q1,decide_eq_false q1];rfl
 ·rw[eqF p1,cond_false,if_neg p1]
  by_cases q1:s.pos=s.inp.length
  ·rw[eqT q1,Bool.not_true,cond_false,decide_eq_true q1,Z5W (n:=(s.heap.length:Int)+(s.dfd.length:Int)) ⟨by omega,by omega⟩]
   by_cases q2:s.heap.length=0
   ·by_cases q3:s.dfd.length=0
    ·rw[ltF (by omega),cond_false,ZAt s.heap,decide_eq_true q2,ZAt s.dfd,decide_eq_true q3]
     simp only[Bool.true_and]
     unfold ZIV
     by_cases p2:s.ph=2
     ·rw[eqT p2,cond_true,if_pos p2]
      unfold ZHK
      cases hr:s.runs with
      |nil=>simp[ltI]
      |cons a r=>
       cases r with
       |nil=>simp[ltI]
       |cons b r=>
        have ha:a.length≤1073741824:=Nat.le_trans (ZAT (by rw[hr];simp)) h5
        have hb:b.length≤1073741824:=Nat.le_trans (ZAT (by rw[hr];simp)) h5
        have g0:at' ((a::b::r).map rsE) (tn 0)=rsE a:=rfl
        have g1:at' ((a::b::r).map rsE) (tn 1)=rsE b:=rfl
        have l0:ltI ((a::b::r).length:Int) 2=false:=ltF (by simp;omega)
        have l1:inR 0 ((a::b::r).length:Int)=true:=ZFc (by omega) (by simp;omega)
        have l2:inR 1 ((a::b::r).length:Int)=true:=ZFc (by omega) (by simp;omega)
        simp only[l0,l1,l2,cond_true,cond_false,g0,g1,rsE,gA,Z5V,ZAA]
        by_cases w1:win s.lp 0 a.length=true
        ·by_cases w2:win s.rp 0 b.length=true
         ·have w3:=ZCe.mp w1
          have w4:=ZCe.mp w2
          have m1:=ZLO (a.take s.lp.toNat) (b.take s.rp.toNat) (by simp;omega)
          have m2:=ZLO a b (by omega)
          have ml:=ZDv a b
          have ml2:=ZDv (a.take s.lp.toNat) (b.take s.rp.toNat)
          simp only[List.length_take]at ml2
          have e1:=ZJo (mrg (a.take s.lp.toNat) (b.take s.rp.toNat)) s.out (by omega)
          have e2:=ZJo s.out ((mrg a b).take (s.lp.toNat+s.rp.toNat)) (by omega)
          have e3:w64 (s.lp+s.rp)=s.lp+s.rp:=Z5W ⟨by omega,by omega⟩
          have e4:(s.lp+s.rp).toNat=s.lp.toNat+s.rp.toNat:=by omega
          have e5:decide (mrg (a.take s.lp.toNat) (b.take s.rp.toNat)=s.out)=decide (s.out=mrg (a.take s.lp.toNat) (b.take s.rp.toNat)):=by
           congr 1;exact propext ⟨fun e=>e.symm,fun e=>e.symm⟩
          rw[w1,w2,leT w3.1,leT w3.2,leT w4.1,leT w4.2]
          simp only[Bool.not_true,cond_false,Bool.and_self,cond_true,ZHf,m1,m2,gA,e3,e4,Z5V,e2,e1]
          rw[leT (by omega),leT (by rw[ml];omega),e5]
          simp only[Bool.and_self,cond_true,Bool.true_and]
          cases decide (s.out=(mrg a b).take (s.lp.toNat+s.rp.toNat))<;>cases decide (s.out=mrg (a.take s.lp.toNat) (b.take s.rp.toNat))<;>simp
         ·rw[w1,(Bool.not_eq_true _).mp w2];simp
        ·rw[(Bool.not_eq_true _).mp w1];simp
     ·rw[eqF p2,cond_false,if_neg p2]
      by_cases w1:s.runs.length≤1
      ·rw[ltF (by omega),cond_false]
       by_cases w2:s.rp=0
       ·rw[eqT w2,Bool.not_true,cond_false,decide_eq_true w2]
        by_cases w3:s.out.length=0
        ·rw[ltF (by omega),cond_false,ZAt s.out,decide_eq_true w3]
         cases ZFh s.runs.flatten s.inp
         ·rfl
         ·simp only[Bool.not_true,cond_false,Bool.true_and,Bool.and_true]
          by_cases p3:s.ph=3
          ·rw[eqT p3,cond_true,if_pos p3]
           by_cases w4:s.runs.length=1
           ·rw[eqT (by omega),cond_true,decide_eq_true w4]
            simp only[ZAA,ZIQ (show s.inp.length≤1073741824 by omega),gA,Bool.true_and]
           ·rw[eqF (by omega),decide_eq_false w4];rfl
          ·rw[eqF p3,cond_false,if_neg p3]
           by_cases p4:s.ph=4
           ·rw[eqT p4,cond_true,if_pos p4,decide_eq_true w1]
            unfold eqI
            simp
           ·rw[eqF p4,if_neg p4];rfl
        ·rw[ltT (by omega),ZAt s.out,decide_eq_false w3]
         simp
       ·rw[eqF w2,decide_eq_false w2]
        simp
      ·rw[ltT (by omega),decide_eq_false w1,decide_eq_false (show¬s.runs.length=1 by omega)]
       simp
    ·rw[ltT (by omega),ZAt s.dfd,decide_eq_false q3];simp
   ·rw[ltT (by omega),ZAt s.heap,decide_eq_false q2];simp
  ·rw[eqF q1,decide_eq_false q1];rfl
theorem ZJG (s:So) (h:s.B2):callI tE Z7L [.sl (s.inp.map Rw.e),.int s.pos,.sl (s.heap.map Rw.e),.sl (s.dfd.map Rw.e),.sl (s.out.map Rw.e),.sl (s.runs.map rsE),.int s.lp,.int s.rp,.int s.ph,.int s.wr]=some [.bool (ZKp s)]:=by
 obtain⟨h1,h2,h3,h4,h5⟩:=h.b.p
 rw[ZCt]
 simp only[ZCf s.inp (by omega),ZAA,Z5V,ZHx s.runs h5,ZGw s.out (by omega),gA]
 unfold ZKp
 cases aok s.inp
 ·rfl
 ·by_cases hp:win s.pos 0 s.inp.length=true
  ·rw[hp]
   cases s.runs.all ZGM
   ·rfl
   ·by_cases hw:0≤s.wr
    ·rw[ltF hw,decide_eq_true hw]
     cases isS s.out
     ·rfl
     ·have hlast:leI 0 (w64 ((s.out.length:Int)-1))=decide (0<s.out.length):=by
       rw[Z5W ⟨by omega,by omega⟩];unfold leI;congr 1;apply propext;omega
      have:=ZCr (l:=s.heap) (L:=fun i=>Z6D 0 (w64 ((s.out.length:Int)-1)) i (s.inp.map Rw.e) s.pos (s.heap.map Rw.e) (s.dfd.map Rw.e) (s.out.map Rw.e) (s.runs.map rsE) s.lp s.rp s.ph s.wr) (p:=fun r=> !ZCj r s.out) (no:=some [.bool false]) (yes:=some [.bool (ZF4 s)]) (by omega) (fun u a v e=>by
       have hu:u.length<s.heap.length:=by rw[e];simp
       have ha:at' (s.heap.map Rw.e) u.length=a.e:=ZDs e rfl
       rw[Z8n,Z5V,ltT (by omega),cond_true,hlast]
       rcases ZIR s.out with ho|⟨q,x,ho⟩
       ·rw[ho,ZHv];rfl
       ·have hx:at' (s.out.map Rw.e) q.length=x.e:=ZDs (u:=q) (v:=[]) (by rw[ho]) rfl
        have hql:s.out.length=q.length+1:=by rw[ho];simp
        have hl2:w64 ((s.out.length:Int)-1)=(q.length:Int):=by rw[Z5W ⟨by omega,by omega⟩];omega
        rw[decide_eq_true (by omega:0<s.out.length),cond_true,hl2,ZFc (by omega) (by omega),ZDM (by omega)]
        simp only[cond_true,Z6v,ha,hx,gk,gv,gw,ZEd,gA,ZCg]
        rw[show ZCj a s.out=decide (Rw.lt a x)by rw[ho,ZF3]]
        cases decide (Rw.lt a x)<;>rfl) (ZLG s h hp 0)
      refine this.trans ?_
      cases s.heap.all fun r=> !ZCj r s.out<;>rfl
    ·rw[ltT (by omega),decide_eq_false hw];rfl
  ·rw[(Bool.not_eq_true _).mp hp];rfl
def Ck.B2 (c:Ck):Prop:=c.sz≤1073741800
set_option maxRecDepth 100000
theorem ZGO (a0:Int) (a1 a2 a3:Rows) (a4 a5:Int):callI tE ZCE [.int a0,.sl a1,.sl a2,.sl a3,.int a4,.int a5]=(((callI tE Z6P [(.sl a1),(.int a5)])).bind (fun r0=>(bif(ltI (gn r0) 0)then(some [(.int (-1))])else(((callI tE Z6P [(.sl a2),(.int (gn r0))])).bind (fun r1=>(bif(ltI (gn r1) 0)then(some [(.int (-1))])else(((callI tE ZBu [(.sl a3),(.int (gn r1))])).bind (fun r2=>(bif(ltI (gn r2) 0)then(some [(.int (-1))])else(some [(.int (gn r2))])))))))))):=(callI_run rfl (by kernel_rfl)).trans (by kernel_rfl)
noncomputable def Z7r (x0:Rows) (x1 x2:Int):Option (List Dat):=loopK tE ZAB 0 ⟨[(0,(.ro 348 Bool.false x0)),(1,(.i .i64 x1)),(5,(.i .i64 x2))],[]⟩
theorem ZBX (x0:Rows) (x1 x2:Int):Z7r x0 x1 x2=(bif(ltI x2 (lenI x0))then(bif(inR x2 (lenI x0))then(((callI tE ZCE [(.int (gn (at' x0 (tn x2)))),(.sl (gl (tk 1 (at' x0 (tn x2))))),(.sl (gl (tk 2 (at' x0 (tn x2))))),(.sl (gl (tk 3 (at' x0 (tn x2))))),(.int (gn (tk 4 (at' x0 (tn x2))))),(.int x1)])).bind (fun r0=>(bif(ltI (gn r0) 0)then(some [(.int (-1))])else(Z7r x0 (gn r0) (w64 (x2+1))))))else none)else(some [(.int x1)])):=(loopK_run (by kernel_rfl)).trans (by kernel_rfl)
theorem ZFi (a0:Rows) (a1:Int):callI tE ZAB [.sl a0,.int a1]=(bif(ltI (w64 (a1-(lenI a0))) 0)then(some [(.int (-1))])else(Z7r a0 (w64 (a1-(lenI a0))) 0)):=(callI_run rfl (by kernel_rfl)).trans (by kernel_rfl)
theorem ZF5 (a0:Rows) (a1 a2 a3:Int):callI tE ZBC [.sl a0,.int a1,.int a2,.int a3]=(((callI tE ZAB [(.sl a0),(.int a3)])).bind (fun r0=>(bif(ltI (gn r0) 0)then(some [(.int (-1))])else(some [(.int (gn r0))])))):=(callI_run rfl (by kernel_rfl)).trans (by kernel_rfl)
theorem ZDb (a0:Rows) (a1 a2:Int):callI tE Z9X [.sl a0,.int a1,.int a2]=(((callI tE Z6P [(.sl a0),(.int a2)])).bind (fun r0=>(bif(ltI (gn r0) 0)then(some [(.int (-1))])else(some [(.int (gn r0))])))):=(callI_run rfl (by kernel_rfl)).trans (by kernel_rfl)
noncomputable def Z6d (x0:Rows) (x1 x2:Int):Option (List Dat):=loopK tE Z7d 0 ⟨[(0,(.ro 351 Bool.false x0)),(1,(.i .i64 x1)),(5,(.i .i64 x2))],[]⟩
theorem Z9T (x0:Rows) (x1 x2:Int):Z6d x0 x1 x2=(bif(ltI x2 (lenI x0))then(bif(inR x2 (lenI x0))then(((callI tE Z9X [(.sl (gl (at' x0 (tn x2)))),(.int (gn (tk 1 (at' x0 (tn x2))))),(.int x1)])).bind (fun r0=>(bif(ltI (gn r0) 0)then(some [(.int (-1))])else(Z6d x0 (gn r0) (w64 (x2+1))))))else none)else(some [(.int x1)])):=(loopK_run (by kernel_rfl)).trans (by kernel_rfl)
theorem ZDD (a0:Rows) (a1:Int):callI tE Z7d [.sl a0,.int a1]=(bif(ltI (w64 (a1-(lenI a0))) 0)then(some [(.int (-1))])else(Z6d a0 (w64 (a1-(lenI a0))) 0)):=(callI_run rfl (by kernel_rfl)).trans (by kernel_rfl)
theorem ZDE (a0:Rows) (a1:Int) (a2:Bool) (a3:Int):callI tE Z9I [.sl a0,.int a1,.bool a2,.int a3]=(((callI tE Z7d [(.sl a0),(.int a3)])).bind (fun r0=>(bif(ltI (gn r0) 0)then(some [(.int (-1))])else(some [(.int (gn r0))])))):=(callI_run rfl (by kernel_rfl)).trans (by kernel_rfl)
theorem ZHL (a0:Int) (a1:Rows) (a2:Int) (a3 a4 a5 a6:Rows) (a7 a8 a9 a10:Int) (a11:Rows) (a12 a13:Int) (a14:Rows) (a15:Int) (a16:Bool) (a17:Int):callI tE ZCF [.int a0,.sl a1,.int a2,.sl a3,.sl a4,.sl a5,.sl a6,.int a7,.int a8,.int a9,.int a10,.sl a11,.int a12,.int a13,.sl a14,.int a15,.bool a16,.int a17]=(((callI tE ZBB [(.sl a1),(.int a2),(.sl a3),(.sl a4),(.sl a5),(.sl a6),(.int a7),(.int a8),(.int a9),(.int a10),(.int a17)])).bind (fun r0=>(bif(ltI (gn r0) 0)then(some [(.int (-1))])else(((callI tE ZBC [(.sl a11),(.int a12),(.int a13),(.int (gn r0))])).bind (fun r1=>(bif(ltI (gn r1) 0)then(some [(.int (-1))])else(((callI tE Z9I [(.sl a14),(.int a15),(.bool a16),(.int (gn r1))])).bind (fun r2=>(bif(ltI (gn r2) 0)then(some [(.int (-1))])else(some [(.int (gn r2))])))))))))):=(callI_run rfl (by kernel_rfl)).trans (by kernel_rfl)
theorem ZFj (a0:Rows) (a1:Int):callI tE ZBv [.sl a0,.int a1]=(bif(ltI (w64 (a1-(lenI a0))) 0)then(some [(.int (-1))])else(some [(.int (w64 (a1-(lenI a0))))])):=(callI_run rfl (by kernel_rfl)).trans (by kernel_rfl)
theorem ZF6 (a0:Rows) (a1:Int):callI tE ZBD [.sl a0,.int a1]=(bif(ltI (w64 (a1-(lenI a0))) 0)then(some [(.int (-1))])else(some [(.int (w64 (a1-(lenI a0))))])):=(callI_run rfl (by kernel_rfl)).trans (by kernel_rfl)
theorem ZF7 (a0 a1 a2:Rows) (a3:Int):callI tE ZBE [.sl a0,.sl a1,.sl a2,.int a3]=(((callI tE Z6P [(.sl a0),(.int a3)])).bind (fun r0=>(bif(ltI (gn r0) 0)then(some [(.int (-1))])else(((callI tE ZBv [(.sl a1),(.int (gn r0))])).bind (fun r1=>(bif(ltI (gn r1) 0)then(some [(.int (-1))])else(((callI tE ZBD [(.sl a2),(.int (gn r1))])).bind (fun r2=>(bif(ltI (gn r2) 0)then(some [(.int (-1))])else(some [(.int (gn r2))])))))))))):=(callI_run rfl (by kernel_rfl)).trans (by kernel_rfl)
theorem ZF8 (a0:Int) (a1:Rows) (a2:Int) (a3 a4 a5 a6:Rows) (a7 a8 a9 a10:Int) (a11:Rows) (a12 a13:Int) (a14:Rows) (a15:Int) (a16:Bool):callI tE Z8D [.int a0,.sl a1,.int a2,.sl a3,.sl a4,.sl a5,.sl a6,.int a7,.int a8,.int a9,.int a10,.sl a11,.int a12,.int a13,.sl a14,.int a15,.bool a16]=(bif(eqI a0 1)then(some [(.bool (eqI a9 4))])else(bif(eqI a0 2)then(some [(.bool (eqI (lenI a11) 0))])else(bif(eqI a0 3)then(some [(.bool (eqI (lenI a14) 0))])else(some [(.bool Bool.true)])))):=(callI_run rfl (by kernel_rfl)).trans (by kernel_rfl)
theorem ZCW (a0:Int):callI tE Z7v [.int a0]=(((callI tE Z5l [(.int a0),(.int 1),(.int 4)])).bind (fun r0=>(some [(.bool (gb r0))]))):=(callI_run rfl (by kernel_rfl)).trans (by kernel_rfl)
theorem ZDc (a0:Int) (a1 a2 a3:Rows) (a4:Int):callI tE Z9a [.int a0,.sl a1,.sl a2,.sl a3,.int a4]=(((callI tE Z7v [(.int a0)])).bind (fun r0=>(bif(gb r0)then(((callI tE Z61 [(.sl a1)])).bind (fun r1=>(bif(gb r1)then(((callI tE Z61 [(.sl a2)])).bind (fun r2=>(bif(gb r2)then(bif(eqI (lenI a3) (lenI a1))then(((callI tE Z5l [(.int a4),(.int 0),(.int 4)])).bind (fun r3=>(some [(.bool (gb r3))])))else(some [(.bool Bool.false)]))else(some [(.bool Bool.false)]))))else(some [(.bool Bool.false)]))))else(some [(.bool Bool.false)])))):=(callI_run rfl (by kernel_rfl)).trans (by kernel_rfl)
noncomputable def Z5j (x0 x1 x2 x3:Int) (x4:Rows) (x5 x6:Int):Option (List Dat):=loopK tE Z7M 0 ⟨[(1,(.ptr (500000,0) x0 0)),(3,(.i .i64 x1)),(4,(.i .i64 x2)),(5,(.i .i64 x3))],[((500000,0),(.box 57 [(.ro 202 Bool.false x4),(.i .i64 x5),(.i .i64 x6)]))]⟩
theorem Z8p (x0 x1 x2 x3:Int) (x4:Rows) (x5 x6:Int):Z5j x0 x1 x2 x3 x4 x5 x6=(bif(ltI x3 (lenI x4))then(bif(inR x3 (lenI x4))then(((callI tE Z9a [(.int (gn (at' x4 (tn x3)))),(.sl (gl (tk 1 (at' x4 (tn x3))))),(.sl (gl (tk 2 (at' x4 (tn x3))))),(.sl (gl (tk 3 (at' x4 (tn x3))))),(.int (gn (tk 4 (at' x4 (tn x3)))))])).bind (fun r0=>(bif(!(gb r0))then(some [(.bool Bool.false)])else(bif(inR x3 (lenI x4))then(bif(inR 0 (lenI x4))then(bif(!(eqI (gn (at' x4 (tn x3))) (gn (at' x4 (tn 0)))))then(some [(.bool Bool.false)])else(bif(inR x3 (lenI x4))then(bif(inR x3 (lenI x4))then(Z5j x0 (w64 (x1+(lenI (gl (List.drop 1 (at' x4 (tn x3))))))) (w64 (x2+(lenI (gl (List.drop 2 (at' x4 (tn x3))))))) (w64 (x3+1)) x4 x5 x6)else none)else none))else none)else none))))else none)else(bif(leI x1 24)then(bif(leI x2 24)then(bif(leI (lenI x4) 40)then(((callI tE Z5l [(.int x5),(.int 0),(.int 100000)])).bind (fun r0=>(bif(gb r0)then(((callI tE Z5l [(.int x6),(.int 0),(.int 1000)])).bind (fun r1=>(some [(.bool (gb r1))])))else(some [(.bool Bool.false)]))))else(some [(.bool Bool.false)]))else(some [(.bool Bool.false)]))else(some [(.bool Bool.false)]))):=(loopK_run (by kernel_rfl)).trans (by kernel_rfl)
theorem ZCv (a0:Rows) (a1 a2:Int):callI tE Z7M [.sl a0,.int a1,.int a2]=(Z5j 0 0 0 0 a0 a1 a2):=(callI_run rfl (by kernel_rfl)).trans (by kernel_rfl)
noncomputable def Z5Z (x0 x1 x2:Int) (x3:Rows) (x4:Int) (x5:Bool):Option (List Dat):=loopK tE Z6g 0 ⟨[(1,(.ptr (500000,0) x0 0)),(3,(.i .i64 x1)),(4,(.i .i64 x2))],[((500000,0),(.box 60 [(.ro 205 Bool.false x3),(.i .i64 x4),(.b x5)]))]⟩
theorem Z7s (x0 x1 x2:Int) (x3:Rows) (x4:Int) (x5:Bool):Z5Z x0 x1 x2 x3 x4 x5=(bif(ltI x2 (lenI x3))then(bif(inR x2 (lenI x3))then(((callI tE Z61 [(.sl (gl (at' x3 (tn x2))))])).bind (fun r0=>(bif(!(gb r0))then(some [(.bool Bool.false)])else(bif(inR x2 (lenI x3))then(((callI tE Z5l [(.int (gn (List.drop 1 (at' x3 (tn x2))))),(.int 0),(.int 4)])).bind (fun r1=>(bif(!(gb r1))then(some [(.bool Bool.false)])else(bif(inR x2 (lenI x3))then(Z5Z x0 (w64 (x1+(lenI (gl (at' x3 (tn x2)))))) (w64 (x2+1)) x3 x4 x5)else none))))else none))))else none)else(bif(leI x1 24)then(bif(leI (lenI x3) 40)then(((callI tE Z5l [(.int x4),(.int 0),(.int 100000)])).bind (fun r0=>(some [(.bool (gb r0))])))else(some [(.bool Bool.false)]))else(some [(.bool Bool.false)]))):=(loopK_run (by kernel_rfl)).trans (by kernel_rfl)
theorem ZCA (a0:Rows) (a1:Int) (a2:Bool):callI tE Z6g [.sl a0,.int a1,.bool a2]=(Z5Z 0 0 0 a0 a1 a2):=(callI_run rfl (by kernel_rfl)).trans (by kernel_rfl)
theorem ZFk (a0:Int) (a1 a2 a3:Rows) (a4:Int):callI tE ZBy [.int a0,.sl a1,.sl a2,.sl a3,.int a4]=(bif(fitM (0+(len a1)) 24)then(bif(fitM (0+(len a2)) 24)then(bif(fitM (0+(len a3)) 1)then(some [(.int a0),(.sl a1),(.sl a2),(.sl a3),(.int a4)])else none)else none)else none):=(callI_run rfl (by kernel_rfl)).trans (by kernel_rfl)
noncomputable def Z99 (x0 x1 x2 x3:Int) (x4:Rows) (x5 x6 x7 x8 x9 x10:Int) (x11 x12:Rows):Option (List Dat):=loopK tE ZAE 0 ⟨[(1,(.ptr (500000,0) x0 0)),(2,(.ptr (500001,0) x1 0)),(3,(.ptr (500002,0) x2 0)),(4,(.i .i64 x3))],[((500000,0),(.box 57 [(.ro 202 Bool.false x4),(.i .i64 x5),(.i .i64 x6)])),((500001,0),(.box 57 [(.own (500003,0)),(.i .i64 x7),(.i .i64 x8)])),((500002,0),(.box 57 [(.own (500004,0)),(.i .i64 x9),(.i .i64 x10)])),((500003,0),(.row 202 x11 Bool.true 0 [])),((500004,0),(.row 202 x12 Bool.true 0 []))]⟩
theorem ZBY (x0 x1 x2 x3:Int) (x4:Rows) (x5 x6 x7 x8 x9 x10:Int) (x11 x12:Rows):Z99 x0 x1 x2 x3 x4 x5 x6 x7 x8 x9 x10 x11 x12=(bif(ltI x3 (lenI x4))then(bif(inR x3 (lenI x4))then(((callI tE ZBy [(.int (gn (at' x4 (tn x3)))),(.sl (gl (tk 1 (at' x4 (tn x3))))),(.sl (gl (tk 2 (at' x4 (tn x3))))),(.sl (gl (tk 3 (at' x4 (tn x3))))),(.int (gn (tk 4 (at' x4 (tn x3)))))])).bind (fun r0=>(bif(fitM (Nat.succ (len x12)) 88)then(Z99 x0 x1 x2 (w64 (x3+1)) x4 x5 x6 x7 x8 x9 x10 x11 (List.append x12 [[(.int (gn r0)),(.sl (gl (tk 1 r0))),(.sl (gl (tk 2 r0))),(.sl (gl (tk 3 r0))),(.int (gn (tk 4 r0)))]]))else none)))else none)else(some [(.sl x12),(.int x9),(.int x10)])):=(loopK_run (by kernel_rfl)).trans (by kernel_rfl)
theorem ZFl (a0:Rows) (a1 a2:Int):callI tE ZAE [.sl a0,.int a1,.int a2]=(Z99 0 0 0 0 a0 a1 a2 0 0 a1 a2 [] []):=(callI_run rfl (by kernel_rfl)).trans (by kernel_rfl)
noncomputable def Z9A (x0 x1 x2 x3:Int) (x4:Rows) (x5:Int) (x6:Bool) (x7:Int) (x8:Bool) (x9:Int) (x10:Bool) (x11 x12:Rows):Option (List Dat):=loopK tE ZAF 0 ⟨[(1,(.ptr (500000,0) x0 0)),(2,(.ptr (500001,0) x1 0)),(3,(.ptr (500002,0) x2 0)),(4,(.i .i64 x3))],[((500000,0),(.box 60 [(.ro 205 Bool.false x4),(.i .i64 x5),(.b x6)])),((500001,0),(.box 60 [(.own (500003,0)),(.i .i64 x7),(.b x8)])),((500002,0),(.box 60 [(.own (500004,0)),(.i .i64 x9),(.b x10)])),((500003,0),(.row 205 x11 Bool.true 0 [])),((500004,0),(.row 205 x12 Bool.true 0 []))]⟩
theorem ZBZ (x0 x1 x2 x3:Int) (x4:Rows) (x5:Int) (x6:Bool) (x7:Int) (x8:Bool) (x9:Int) (x10:Bool) (x11 x12:Rows):Z9A x0 x1 x2 x3 x4 x5 x6 x7 x8 x9 x10 x11 x12=(bif(ltI x3 (lenI x4))then(bif(inR x3 (lenI x4))then(bif(fitM (0+(len (gl (at' x4 (tn x3))))) 24)then(bif(inR x3 (lenI x4))then(bif(fitM (Nat.succ (len x12)) 32)then(Z9A x0 x1 x2 (w64 (x3+1)) x4 x5 x6 x7 x8 x9 x10 x11 (List.append x12 [[(.sl (gl (at' x4 (tn x3)))),(.int (gn (List.drop 1 (at' x4 (tn x3)))))]]))else none)else none)else none)else none)else(some [(.sl x12),(.int x9),(.bool x10)])):=(loopK_run (by kernel_rfl)).trans (by kernel_rfl)
theorem ZFm (a0:Rows) (a1:Int) (a2:Bool):callI tE ZAF [.sl a0,.int a1,.bool a2]=(Z9A 0 0 0 0 a0 a1 a2 0 Bool.false a1 a2 [] []):=(callI_run rfl (by kernel_rfl)).trans (by kernel_rfl)
theorem ZGP (a0:Int) (a1 a2 a3:Rows) (a4:Int):callI tE ZCI [.int a0,.sl a1,.sl a2,.sl a3,.int a4]=(((callI tE Z6J [(.sl a1)])).bind (fun r0=>(((callI tE Z6J [(.sl a2)])).bind (fun r1=>(((callI tE ZAI [(.sl a3)])).bind (fun r2=>(some [(.int a0),(.sl (gl r0)),(.sl (gl r1)),(.sl (gl r2)),(.int a4)]))))))):=(callI_run rfl (by kernel_rfl)).trans (by kernel_rfl)
noncomputable def Z9B (x0:Rows) (x1:Int) (x2:Rows):Option (List Dat):=loopK tE ZAJ 0 ⟨[(0,(.ro 348 Bool.false x0)),(3,(.own (500000,0))),(4,(.i .i64 x1))],[((500000,0),(.row 202 x2 Bool.true 0 []))]⟩
theorem ZBa (x0:Rows) (x1:Int) (x2:Rows):Z9B x0 x1 x2=(bif(ltI x1 (lenI x0))then(bif(inR x1 (lenI x0))then(((callI tE ZCI [(.int (gn (at' x0 (tn x1)))),(.sl (gl (tk 1 (at' x0 (tn x1))))),(.sl (gl (tk 2 (at' x0 (tn x1))))),(.sl (gl (tk 3 (at' x0 (tn x1))))),(.int (gn (tk 4 (at' x0 (tn x1)))))])).bind (fun r0=>(bif(inR x1 (lenI x2))then(Z9B x0 (w64 (x1+1)) (updR x2 (tn x1) 0 [(.int (gn r0)),(.sl (gl (tk 1 r0))),(.sl (gl (tk 2 r0))),(.sl (gl (tk 3 r0))),(.int (gn (tk 4 r0)))]))else none)))else none)else(some [(.sl x2)])):=(loopK_run (by kernel_rfl)).trans (by kernel_rfl)
theorem ZFn (a0:Rows):callI tE ZAJ [.sl a0]=(bif((leI 0 (lenI a0))&&((eqI (lenI a0) (lenI a0))&&(fitM (tn (lenI a0)) 88)))then(Z9B a0 0 (List.replicate (tn (lenI a0)) [(.int 0),(.sl []),(.sl []),(.sl []),(.int 0)]))else none):=(callI_run rfl (by kernel_rfl)).trans (by kernel_rfl)
theorem ZF9 (a0:Rows) (a1 a2:Int):callI tE ZBJ [.sl a0,.int a1,.int a2]=(((callI tE ZAJ [(.sl a0)])).bind (fun r0=>(some [(.sl (gl r0)),(.int a1),(.int a2)]))):=(callI_run rfl (by kernel_rfl)).trans (by kernel_rfl)
theorem ZDd (a0:Rows) (a1:Int):callI tE Z9b [.sl a0,.int a1]=(((callI tE Z6J [(.sl a0)])).bind (fun r0=>(some [(.sl (gl r0)),(.int a1)]))):=(callI_run rfl (by kernel_rfl)).trans (by kernel_rfl)
noncomputable def Z7G (x0:Rows) (x1:Int) (x2:Rows):Option (List Dat):=loopK tE Z7g 0 ⟨[(0,(.ro 351 Bool.false x0)),(3,(.own (500000,0))),(4,(.i .i64 x1))],[((500000,0),(.row 205 x2 Bool.true 0 []))]⟩
theorem Z9U (x0:Rows) (x1:Int) (x2:Rows):Z7G x0 x1 x2=(bif(ltI x1 (lenI x0))then(bif(inR x1 (lenI x0))then(((callI tE Z9b [(.sl (gl (at' x0 (tn x1)))),(.int (gn (tk 1 (at' x0 (tn x1)))))])).bind (fun r0=>(bif(inR x1 (lenI x2))then(Z7G x0 (w64 (x1+1)) (updR x2 (tn x1) 0 [(.sl (gl r0)),(.int (gn (tk 1 r0)))]))else none)))else none)else(some [(.sl x2)])):=(loopK_run (by kernel_rfl)).trans (by kernel_rfl)
theorem ZDF (a0:Rows):callI tE Z7g [.sl a0]=(bif((leI 0 (lenI a0))&&((eqI (lenI a0) (lenI a0))&&(fitM (tn (lenI a0)) 32)))then(Z7G a0 0 (List.replicate (tn (lenI a0)) [(.sl []),(.int 0)]))else none):=(callI_run rfl (by kernel_rfl)).trans (by kernel_rfl)
theorem ZDG (a0:Rows) (a1:Int) (a2:Bool):callI tE Z9J [.sl a0,.int a1,.bool a2]=(((callI tE Z7g [(.sl a0)])).bind (fun r0=>(some [(.sl (gl r0)),(.int a1),(.bool a2)]))):=(callI_run rfl (by kernel_rfl)).trans (by kernel_rfl)
theorem ZHM (a0:Int) (a1:Rows) (a2:Int) (a3 a4 a5 a6:Rows) (a7 a8 a9 a10:Int) (a11:Rows) (a12 a13:Int) (a14:Rows) (a15:Int) (a16:Bool):callI tE Z9K [.int a0,.sl a1,.int a2,.sl a3,.sl a4,.sl a5,.sl a6,.int a7,.int a8,.int a9,.int a10,.sl a11,.int a12,.int a13,.sl a14,.int a15,.bool a16]=(((callI tE ZBI [(.sl a1),(.int a2),(.sl a3),(.sl a4),(.sl a5),(.sl a6),(.int a7),(.int a8),(.int a9),(.int a10)])).bind (fun r0=>(((callI tE ZBJ [(.sl a11),(.int a12),(.int a13)])).bind (fun r1=>(((callI tE Z9J [(.sl a14),(.int a15),(.bool a16)])).bind (fun r2=>(some [(.int a0),(.sl (gl r0)),(.int (gn (tk 1 r0))),(.sl (gl (tk 2 r0))),(.sl (gl (tk 3 r0))),(.sl (gl (tk 4 r0))),(.sl (gl (tk 5 r0))),(.int (gn (tk 6 r0))),(.int (gn (tk 7 r0))),(.int (gn (tk 8 r0))),(.int (gn (tk 9 r0))),(.sl (gl r1)),(.int (gn (tk 1 r1))),(.int (gn (tk 2 r1))),(.sl (gl r2)),(.int (gn (tk 1 r2))),(.bool (gb (tk 2 r2)))]))))))):=(callI_run rfl (by kernel_rfl)).trans (by kernel_rfl)
theorem ZGQ (a0 a1 a2 a3 a4 a5:Int) (a6:Bool):callI tE ZCJ [.int a0,.int a1,.int a2,.int a3,.int a4,.int a5,.bool a6]=(((callI tE ZAW [(.int a0),(.int a1),(.int a2)])).bind (fun r0=>(((callI tE ZAW [(.int a3),(.int a4),(.int a5)])).bind (fun r1=>(some [(.int (gn r0)),(.int (gn (tk 1 r0))),(.int (gn (tk 2 r0))),(.int (gn r1)),(.int (gn (tk 1 r1))),(.int (gn (tk 2 r1))),(.bool a6)]))))):=(callI_run rfl (by kernel_rfl)).trans (by kernel_rfl)
noncomputable def Z9C (x0:Rows) (x1:Int) (x2:Rows):Option (List Dat):=loopK tE ZAK 0 ⟨[(0,(.ro 396 Bool.false x0)),(3,(.own (500000,0))),(4,(.i .i64 x1))],[((500000,0),(.row 228 x2 Bool.true 0 []))]⟩
theorem ZBb (x0:Rows) (x1:Int) (x2:Rows):Z9C x0 x1 x2=(bif(ltI x1 (lenI x0))then(bif(inR x1 (lenI x0))then(((callI tE ZCJ [(.int (gn (at' x0 (tn x1)))),(.int (gn (tk 1 (at' x0 (tn x1))))),(.int (gn (tk 2 (at' x0 (tn x1))))),(.int (gn (tk 3 (at' x0 (tn x1))))),(.int (gn (tk 4 (at' x0 (tn x1))))),(.int (gn (tk 5 (at' x0 (tn x1))))),(.bool (gb (tk 6 (at' x0 (tn x1)))))])).bind (fun r0=>(bif(inR x1 (lenI x2))then(Z9C x0 (w64 (x1+1)) (updR x2 (tn x1) 0 [(.int (gn r0)),(.int (gn (tk 1 r0))),(.int (gn (tk 2 r0))),(.int (gn (tk 3 r0))),(.int (gn (tk 4 r0))),(.int (gn (tk 5 r0))),(.bool (gb (tk 6 r0)))]))else none)))else none)else(some [(.sl x2)])):=(loopK_run (by kernel_rfl)).trans (by kernel_rfl)
theorem ZFo (a0:Rows):callI tE ZAK [.sl a0]=(bif((leI 0 (lenI a0))&&((eqI (lenI a0) (lenI a0))&&(fitM (tn (lenI a0)) 56)))then(Z9C a0 0 (List.replicate (tn (lenI a0)) [(.int 0),(.int 0),(.int 0),(.int 0),(.int 0),(.int 0),(.bool Bool.false)]))else none):=(callI_run rfl (by kernel_rfl)).trans (by kernel_rfl)
theorem ZFp (a0 a1 a2 a3 a4:Int):callI tE ZBz [.int a0,.int a1,.int a2,.int a3,.int a4]=(some [(.int a0),(.int a1),(.int a2),(.int a3),(.int a4)]):=(callI_run rfl (by kernel_rfl)).trans (by kernel_rfl)
noncomputable def Z8Z (x0:Rows) (x1:Int) (x2:Rows):Option (List Dat):=loopK tE Z9c 0 ⟨[(0,(.ro 398 Bool.false x0)),(3,(.own (500000,0))),(4,(.i .i64 x1))],[((500000,0),(.row 231 x2 Bool.true 0 []))]⟩
theorem ZB3 (x0:Rows) (x1:Int) (x2:Rows):Z8Z x0 x1 x2=(bif(ltI x1 (lenI x0))then(bif(inR x1 (lenI x0))then(((callI tE ZBz [(.int (gn (at' x0 (tn x1)))),(.int (gn (tk 1 (at' x0 (tn x1))))),(.int (gn (tk 2 (at' x0 (tn x1))))),(.int (gn (tk 3 (at' x0 (tn x1))))),(.int (gn (tk 4 (at' x0 (tn x1)))))])).bind (fun r0=>(bif(inR x1 (lenI x2))then(Z8Z x0 (w64 (x1+1)) (updR x2 (tn x1) 0 [(.int (gn r0)),(.int (gn (tk 1 r0))),(.int (gn (tk 2 r0))),(.int (gn (tk 3 r0))),(.int (gn (tk 4 r0)))]))else none)))else none)else(some [(.sl x2)])):=(loopK_run (by kernel_rfl)).trans (by kernel_rfl)
theorem ZFA (a0:Rows):callI tE Z9c [.sl a0]=(bif((leI 0 (lenI a0))&&((eqI (lenI a0) (lenI a0))&&(fitM (tn (lenI a0)) 40)))then(Z8Z a0 0 (List.replicate (tn (lenI a0)) [(.int 0),(.int 0),(.int 0),(.int 0),(.int 0)]))else none):=(callI_run rfl (by kernel_rfl)).trans (by kernel_rfl)
theorem ZFB (a0 a1 a2:Rows):callI tE ZBK [.sl a0,.sl a1,.sl a2]=(((callI tE Z6J [(.sl a0)])).bind (fun r0=>(((callI tE ZAK [(.sl a1)])).bind (fun r1=>(((callI tE Z9c [(.sl a2)])).bind (fun r2=>(some [(.sl (gl r0)),(.sl (gl r1)),(.sl (gl r2))]))))))):=(callI_run rfl (by kernel_rfl)).trans (by kernel_rfl)
theorem ZFC (a0:Int) (a1:Rows) (a2:Int) (a3 a4 a5 a6:Rows) (a7 a8 a9 a10:Int) (a11:Rows) (a12 a13:Int) (a14:Rows) (a15:Int) (a16:Bool):callI tE Z8F [.int a0,.sl a1,.int a2,.sl a3,.sl a4,.sl a5,.sl a6,.int a7,.int a8,.int a9,.int a10,.sl a11,.int a12,.int a13,.sl a14,.int a15,.bool a16]=(bif(eqI a0 1)then(some [(.bool (eqI a9 4))])else(bif(eqI a0 2)then(some [(.bool (eqI (lenI a11) 0))])else(bif(eqI a0 3)then(some [(.bool (eqI (lenI a14) 0))])else(some [(.bool Bool.true)])))):=(callI_run rfl (by kernel_rfl)).trans (by kernel_rfl)
theorem ZCX (a0:Int):callI tE Z7w [.int a0]=(((callI tE Z5f [(.int a0),(.int 1),(.int 4)])).bind (fun r0=>(some [(.bool (gb r0))]))):=(callI_run rfl (by kernel_rfl)).trans (by kernel_rfl)
theorem ZDe (a0:Int) (a1 a2 a3:Rows) (a4:Int):callI tE Z9e [.int a0,.sl a1,.sl a2,.sl a3,.int a4]=(((callI tE Z7w [(.int a0)])).bind (fun r0=>(bif(gb r0)then(((callI tE Z6L [(.sl a1)])).bind (fun r1=>(bif(gb r1)then(((callI tE Z6L [(.sl a2)])).bind (fun r2=>(bif(gb r2)then(bif(eqI (lenI a3) (lenI a1))then(((callI tE Z5f [(.int a4),(.int 0),(.int 4)])).bind (fun r3=>(some [(.bool (gb r3))])))else(some [(.bool Bool.false)]))else(some [(.bool Bool.false)]))))else(some [(.bool Bool.false)]))))else(some [(.bool Bool.false)])))):=(callI_run rfl (by kernel_rfl)).trans (by kernel_rfl)
noncomputable def Z5k (x0 x1 x2:Int) (x3:Rows) (x4 x5:Int) (x6:Rows) (x7 x8:Int):Option (List Dat):=loopK tE Z7P 0 ⟨[(1,(.ptr (500000,0) x0 0)),(3,(.i .i64 x1)),(4,(.i .i64 x2)),(24,(.ro 202 Bool.false x3)),(25,(.i .i64 x4)),(26,(.i .i64 x5))],[((500000,0),(.box 57 [(.ro 202 Bool.false x6),(.i .i64 x7),(.i .i64 x8)]))]⟩
theorem Z8q (x0 x1 x2:Int) (x3:Rows) (x4 x5:Int) (x6:Rows) (x7 x8:Int):Z5k x0 x1 x2 x3 x4 x5 x6 x7 x8=(bif(ltI x5 x4)then(bif(inR x5 (lenI x3))then(((callI tE Z9e [(.int (gn (at' x3 (tn x5)))),(.sl (gl (tk 1 (at' x3 (tn x5))))),(.sl (gl (tk 2 (at' x3 (tn x5))))),(.sl (gl (tk 3 (at' x3 (tn x5))))),(.int (gn (tk 4 (at' x3 (tn x5)))))])).bind (fun r0=>(bif(!(gb r0))then(some [(.bool Bool.false)])else(bif(inR 0 (lenI x6))then(bif(!(eqI (gn (at' x3 (tn x5))) (gn (at' x6 (tn 0)))))then(some [(.bool Bool.false)])else(Z5k x0 (w64 (x1+(lenI (gl (tk 1 (at' x3 (tn x5))))))) (w64 (x2+(lenI (gl (tk 2 (at' x3 (tn x5))))))) x3 x4 (w64 (x5+1)) x6 x7 x8))else none))))else none)else(bif(leI x1 24)then(some [(.bool (leI x2 24))])else(some [(.bool Bool.false)]))):=(loopK_run (by kernel_rfl)).trans (by kernel_rfl)
theorem ZCw (a0:Rows) (a1 a2:Int):callI tE Z7P [.sl a0,.int a1,.int a2]=(bif(ltI 40 (lenI a0))then(some [(.bool Bool.false)])else(((callI tE Z5f [(.int a1),(.int 0),(.int 100000)])).bind (fun r0=>(bif(!(gb r0))then(some [(.bool Bool.false)])else(((callI tE Z5f [(.int a2),(.int 0),(.int 1000)])).bind (fun r1=>(bif(!(gb r1))then(some [(.bool Bool.false)])else(Z5k 0 0 0 a0 (lenI a0) 0 a0 a1 a2)))))))):=(callI_run rfl (by kernel_rfl)).trans (by kernel_rfl)
noncomputable def Z5a (x0 x1:Int) (x2:Rows) (x3 x4:Int) (x5:Rows) (x6:Int) (x7:Bool):Option (List Dat):=loopK tE Z6h 0 ⟨[(1,(.ptr (500000,0) x0 0)),(3,(.i .i64 x1)),(7,(.ro 205 Bool.false x2)),(8,(.i .i64 x3)),(9,(.i .i64 x4))],[((500000,0),(.box 60 [(.ro 205 Bool.false x5),(.i .i64 x6),(.b x7)]))]⟩
theorem Z7t (x0 x1:Int) (x2:Rows) (x3 x4:Int) (x5:Rows) (x6:Int) (x7:Bool):Z5a x0 x1 x2 x3 x4 x5 x6 x7=(bif(ltI x4 x3)then(bif(inR x4 (lenI x2))then(((callI tE Z6L [(.sl (gl (at' x2 (tn x4))))])).bind (fun r0=>(bif(!(gb r0))then(some [(.bool Bool.false)])else(((callI tE Z5f [(.int (gn (tk 1 (at' x2 (tn x4))))),(.int 0),(.int 4)])).bind (fun r1=>(bif(!(gb r1))then(some [(.bool Bool.false)])else(Z5a x0 (w64 (x1+(lenI (gl (at' x2 (tn x4)))))) x2 x3 (w64 (x4+1)) x5 x6 x7)))))))else none)else(bif(leI (lenI x5) 40)then(bif(leI x1 24)then(((callI tE Z5f [(.int x6),(.int 0),(.int 100000)])).bind (fun r0=>(some [(.bool (gb r0))])))else(some [(.bool Bool.false)]))else(some [(.bool Bool.false)]))):=(loopK_run (by kernel_rfl)).trans (by kernel_rfl)
theorem ZCB (a0:Rows) (a1:Int) (a2:Bool):callI tE Z6h [.sl a0,.int a1,.bool a2]=(Z5a 0 0 a0 (lenI a0) 0 a0 a1 a2):=(callI_run rfl (by kernel_rfl)).trans (by kernel_rfl)
theorem ZEO (a0:Int) (a1 a2 a3:Rows) (a4:Int):callI tE ZAp [.int a0,.sl a1,.sl a2,.sl a3,.int a4]=(((callI tE Z6T [(.sl a1)])).bind (fun r0=>(((callI tE Z6T [(.sl a2)])).bind (fun r1=>(bif(fitM (0+(len a3)) 1)then(some [(.int a0),(.sl (gl r0)),(.sl (gl r1)),(.sl a3),(.int a4)])else none))))):=(callI_run rfl (by kernel_rfl)).trans (by kernel_rfl)
noncomputable def Z6w (x0:Rows) (x1 x2:Int) (x3:Rows):Option (List Dat):=loopK tE ZA3 0 ⟨[(3,(.own (500000,0))),(6,(.ro 202 Bool.false x0)),(7,(.i .i64 x1)),(8,(.i .i64 x2))],[((500000,0),(.row 202 x3 Bool.true 0 []))]⟩
theorem Z9z (x0:Rows) (x1 x2:Int) (x3:Rows):Z6w x0 x1 x2 x3=(bif(ltI x2 x1)then(bif(inR x2 (lenI x0))then(((callI tE ZAp [(.int (gn (at' x0 (tn x2)))),(.sl (gl (tk 1 (at' x0 (tn x2))))),(.sl (gl (tk 2 (at' x0 (tn x2))))),(.sl (gl (tk 3 (at' x0 (tn x2))))),(.int (gn (tk 4 (at' x0 (tn x2)))))])).bind (fun r0=>(bif(fitM (Nat.succ (len x3)) 88)then(Z6w x0 x1 (w64 (x2+1)) (List.append x3 [[(.int (gn r0)),(.sl (gl (tk 1 r0))),(.sl (gl (tk 2 r0))),(.sl (gl (tk 3 r0))),(.int (gn (tk 4 r0)))]]))else none)))else none)else(some [(.sl x3)])):=(loopK_run (by kernel_rfl)).trans (by kernel_rfl)
theorem ZDw (a0:Rows):callI tE ZA3 [.sl a0]=(Z6w a0 (lenI a0) 0 []):=(callI_run rfl (by kernel_rfl)).trans (by kernel_rfl)
theorem ZDf (a0:Rows) (a1 a2:Int):callI tE Z9g [.sl a0,.int a1,.int a2]=(((callI tE ZA3 [(.sl a0)])).bind (fun r0=>(some [(.sl (gl r0)),(.int a1),(.int a2)]))):=(callI_run rfl (by kernel_rfl)).trans (by kernel_rfl)
noncomputable def Z6i (x0 x1:Int) (x2:Rows) (x3 x4:Int) (x5:Rows) (x6:Int) (x7:Bool) (x8:Int) (x9:Bool) (x10 x11:Rows):Option (List Dat):=loopK tE Z6x 0 ⟨[(1,(.ptr (500000,0) x0 0)),(2,(.ptr (500001,0) x1 0)),(3,(.own (500002,0))),(7,(.ro 205 Bool.false x2)),(8,(.i .i64 x3)),(9,(.i .i64 x4))],[((500000,0),(.box 60 [(.ro 205 Bool.false x5),(.i .i64 x6),(.b x7)])),((500001,0),(.box 60 [(.own (500003,0)),(.i .i64 x8),(.b x9)])),((500002,0),(.row 205 x10 Bool.true 0 [])),((500003,0),(.row 205 x11 Bool.true 0 []))]⟩
theorem Z8M (x0 x1:Int) (x2:Rows) (x3 x4:Int) (x5:Rows) (x6:Int) (x7:Bool) (x8:Int) (x9:Bool) (x10 x11:Rows):Z6i x0 x1 x2 x3 x4 x5 x6 x7 x8 x9 x10 x11=(bif(ltI x4 x3)then(bif(inR x4 (lenI x2))then(((callI tE Z6T [(.sl (gl (at' x2 (tn x4))))])).bind (fun r0=>(bif(fitM (Nat.succ (len x10)) 32)then(Z6i x0 x1 x2 x3 (w64 (x4+1)) x5 x6 x7 x8 x9 (List.append x10 [[(.sl (gl r0)),(.int (gn (tk 1 (at' x2 (tn x4)))))]]) x11)else none)))else none)else(some [(.sl x10),(.int x6),(.bool x7)])):=(loopK_run (by kernel_rfl)).trans (by kernel_rfl)
theorem ZCY (a0:Rows) (a1:Int) (a2:Bool):callI tE Z6x [.sl a0,.int a1,.bool a2]=(Z6i 0 0 a0 (lenI a0) 0 a0 a1 a2 0 Bool.false [] []):=(callI_run rfl (by kernel_rfl)).trans (by kernel_rfl)
theorem ZFq (a0:Int) (a1:Rows) (a2:Int) (a3 a4 a5 a6:Rows) (a7 a8 a9 a10:Int) (a11:Rows) (a12 a13:Int) (a14:Rows) (a15:Int) (a16:Bool):callI tE ZAN [.int a0,.sl a1,.int a2,.sl a3,.sl a4,.sl a5,.sl a6,.int a7,.int a8,.int a9,.int a10,.sl a11,.int a12,.int a13,.sl a14,.int a15,.bool a16]=(((callI tE Z9f [(.sl a1),(.int a2),(.sl a3),(.sl a4),(.sl a5),(.sl a6),(.int a7),(.int a8),(.int a9),(.int a10)])).bind (fun r0=>(((callI tE Z9g [(.sl a11),(.int a12),(.int a13)])).bind (fun r1=>(((callI tE Z6x [(.sl a14),(.int a15),(.bool a16)])).bind (fun r2=>(some [(.int a0),(.sl (gl r0)),(.int (gn (tk 1 r0))),(.sl (gl (tk 2 r0))),(.sl (gl (tk 3 r0))),(.sl (gl (tk 4 r0))),(.sl (gl (tk 5 r0))),(.int (gn (tk 6 r0))),(.int (gn (tk 7 r0))),(.int (gn (tk 8 r0))),(.int (gn (tk 9 r0))),(.sl (gl r1)),(.int (gn (tk 1 r1))),(.int (gn (tk 2 r1))),(.sl (gl r2)),(.int (gn (tk 1 r2))),(.bool (gb (tk 2 r2)))]))))))):=(callI_run rfl (by kernel_rfl)).trans (by kernel_rfl)
theorem ZDg (a0 a1 a2:Rows):callI tE Z9h [.sl a0,.sl a1,.sl a2]=(((callI tE Z6T [(.sl a0)])).bind (fun r0=>(bif(fitM (0+(len a1)) 56)then(bif(fitM (0+(len a2)) 40)then(some [(.sl (gl r0)),(.sl a1),(.sl a2)])else none)else none))):=(callI_run rfl (by kernel_rfl)).trans (by kernel_rfl)
theorem ZGR (a0:Int) (a1 a2 a3:Rows) (a4 a5:Int) (a6 a7 a8:Rows) (a9:Int):callI tE ZCL [.int a0,.sl a1,.sl a2,.sl a3,.int a4,.int a5,.sl a6,.sl a7,.sl a8,.int a9]=(bif(!(eqI a0 a5))then(some [(.bool Bool.false)])else(((callI tE Z6K [(.sl a1),(.sl a6)])).bind (fun r0=>(bif(!(gb r0))then(some [(.bool Bool.false)])else(((callI tE Z6K [(.sl a2),(.sl a7)])).bind (fun r1=>(bif(!(gb r1))then(some [(.bool Bool.false)])else(((callI tE ZAO [(.sl a3),(.sl a8)])).bind (fun r2=>(bif(!(gb r2))then(some [(.bool Bool.false)])else(bif(!(eqI a4 a9))then(some [(.bool Bool.false)])else(some [(.bool Bool.true)])))))))))))):=(callI_run rfl (by kernel_rfl)).trans (by kernel_rfl)
noncomputable def Z9D (x0 x1:Rows) (x2:Int):Option (List Dat):=loopK tE ZAP 0 ⟨[(0,(.ro 202 Bool.false x0)),(1,(.ro 202 Bool.false x1)),(5,(.i .i64 x2))],[]⟩
theorem ZBc (x0 x1:Rows) (x2:Int):Z9D x0 x1 x2=(bif(ltI x2 (lenI x0))then(bif(inR x2 (lenI x0))then(bif(inR x2 (lenI x1))then(((callI tE ZCL [(.int (gn (at' x0 (tn x2)))),(.sl (gl (tk 1 (at' x0 (tn x2))))),(.sl (gl (tk 2 (at' x0 (tn x2))))),(.sl (gl (tk 3 (at' x0 (tn x2))))),(.int (gn (tk 4 (at' x0 (tn x2))))),(.int (gn (at' x1 (tn x2)))),(.sl (gl (tk 1 (at' x1 (tn x2))))),(.sl (gl (tk 2 (at' x1 (tn x2))))),(.sl (gl (tk 3 (at' x1 (tn x2))))),(.int (gn (tk 4 (at' x1 (tn x2)))))])).bind (fun r0=>(bif(!(gb r0))then(some [(.bool Bool.false)])else(Z9D x0 x1 (w64 (x2+1))))))else none)else none)else(some [(.bool Bool.true)])):=(loopK_run (by kernel_rfl)).trans (by kernel_rfl)
theorem ZFr (a0 a1:Rows):callI tE ZAP [.sl a0,.sl a1]=(bif(!(eqI (lenI a0) (lenI a1)))then(some [(.bool Bool.false)])else(Z9D a0 a1 0)):=(callI_run rfl (by kernel_rfl)).trans (by kernel_rfl)
theorem ZFD (a0:Rows) (a1 a2:Int) (a3:Rows) (a4 a5:Int):callI tE ZBO [.sl a0,.int a1,.int a2,.sl a3,.int a4,.int a5]=(((callI tE ZAP [(.sl a0),(.sl a3)])).bind (fun r0=>(bif(!(gb r0))then(some [(.bool Bool.false)])else(bif(!(eqI a1 a4))then(some [(.bool Bool.false)])else(bif(!(eqI a2 a5))then(some [(.bool Bool.false)])else(some [(.bool Bool.true)])))))):=(callI_run rfl (by kernel_rfl)).trans (by kernel_rfl)
theorem ZDh (a0:Rows) (a1:Int) (a2:Rows) (a3:Int):callI tE Z9i [.sl a0,.int a1,.sl a2,.int a3]=(((callI tE Z6K [(.sl a0),(.sl a2)])).bind (fun r0=>(bif(!(gb r0))then(some [(.bool Bool.false)])else(bif(!(eqI a1 a3))then(some [(.bool Bool.false)])else(some [(.bool Bool.true)]))))):=(callI_run rfl (by kernel_rfl)).trans (by kernel_rfl)
noncomputable def Z7H (x0 x1:Rows) (x2:Int):Option (List Dat):=loopK tE Z7j 0 ⟨[(0,(.ro 205 Bool.false x0)),(1,(.ro 205 Bool.false x1)),(5,(.i .i64 x2))],[]⟩
theorem Z9V (x0 x1:Rows) (x2:Int):Z7H x0 x1 x2=(bif(ltI x2 (lenI x0))then(bif(inR x2 (lenI x0))then(bif(inR x2 (lenI x1))then(((callI tE Z9i [(.sl (gl (at' x0 (tn x2)))),(.int (gn (tk 1 (at' x0 (tn x2))))),(.sl (gl (at' x1 (tn x2)))),(.int (gn (tk 1 (at' x1 (tn x2)))))])).bind (fun r0=>(bif(!(gb r0))then(some [(.bool Bool.false)])else(Z7H x0 x1 (w64 (x2+1))))))else none)else none)else(some [(.bool Bool.true)])):=(loopK_run (by kernel_rfl)).trans (by kernel_rfl)
theorem ZDH (a0 a1:Rows):callI tE Z7j [.sl a0,.sl a1]=(bif(!(eqI (lenI a0) (lenI a1)))then(some [(.bool Bool.false)])else(Z7H a0 a1 0)):=(callI_run rfl (by kernel_rfl)).trans (by kernel_rfl)
theorem ZDI (a0:Rows) (a1:Int) (a2:Bool) (a3:Rows) (a4:Int) (a5:Bool):callI tE Z9L [.sl a0,.int a1,.bool a2,.sl a3,.int a4,.bool a5]=(((callI tE Z7j [(.sl a0),(.sl a3)])).bind (fun r0=>(bif(!(gb r0))then(some [(.bool Bool.false)])else(bif(!(eqI a1 a4))then(some [(.bool Bool.false)])else(bif(!(eqBo a2 a5))then(some [(.bool Bool.false)])else(some [(.bool Bool.true)])))))):=(callI_run rfl (by kernel_rfl)).trans (by kernel_rfl)
theorem ZHN (a0:Int) (a1:Rows) (a2:Int) (a3 a4 a5 a6:Rows) (a7 a8 a9 a10:Int) (a11:Rows) (a12 a13:Int) (a14:Rows) (a15:Int) (a16:Bool) (a17:Int) (a18:Rows) (a19:Int) (a20 a21 a22 a23:Rows) (a24 a25 a26 a27:Int) (a28:Rows) (a29 a30:Int) (a31:Rows) (a32:Int) (a33:Bool):callI tE ZCM [.int a0,.sl a1,.int a2,.sl a3,.sl a4,.sl a5,.sl a6,.int a7,.int a8,.int a9,.int a10,.sl a11,.int a12,.int a13,.sl a14,.int a15,.bool a16,.int a17,.sl a18,.int a19,.sl a20,.sl a21,.sl a22,.sl a23,.int a24,.int a25,.int a26,.int a27,.sl a28,.int a29,.int a30,.sl a31,.int a32,.bool a33]=(bif(!(eqI a0 a17))then(some [(.bool Bool.false)])else(((callI tE ZBN [(.sl a1),(.int a2),(.sl a3),(.sl a4),(.sl a5),(.sl a6),(.int a7),(.int a8),(.int a9),(.int a10),(.sl a18),(.int a19),(.sl a20),(.sl a21),(.sl a22),(.sl a23),(.int a24),(.int a25),(.int a26),(.int a27)])).bind (fun r0=>(bif(!(gb r0))then(some [(.bool Bool.false)])else(((callI tE ZBO [(.sl a11),(.int a12),(.int a13),(.sl a28),(.int a29),(.int a30)])).bind (fun r1=>(bif(!(gb r1))then(some [(.bool Bool.false)])else(((callI tE Z9L [(.sl a14),(.int a15),(.bool a16),(.sl a31),(.int a32),(.bool a33)])).bind (fun r2=>(bif(!(gb r2))then(some [(.bool Bool.false)])else(some [(.bool Bool.true)]))))))))))):=(callI_run rfl (by kernel_rfl)).trans (by kernel_rfl)
theorem ZGS (a0 a1 a2 a3 a4 a5:Int) (a6:Bool) (a7 a8 a9 a10 a11 a12:Int) (a13:Bool):callI tE ZCN [.int a0,.int a1,.int a2,.int a3,.int a4,.int a5,.bool a6,.int a7,.int a8,.int a9,.int a10,.int a11,.int a12,.bool a13]=(((callI tE ZAY [(.int a0),(.int a1),(.int a2),(.int a7),(.int a8),(.int a9)])).bind (fun r0=>(bif(!(gb r0))then(some [(.bool Bool.false)])else(((callI tE ZAY [(.int a3),(.int a4),(.int a5),(.int a10),(.int a11),(.int a12)])).bind (fun r1=>(bif(!(gb r1))then(some [(.bool Bool.false)])else(bif(!(eqBo a6 a13))then(some [(.bool Bool.false)])else(some [(.bool Bool.true)])))))))):=(callI_run rfl (by kernel_rfl)).trans (by kernel_rfl)
noncomputable def Z9E (x0 x1:Rows) (x2:Int):Option (List Dat):=loopK tE ZAQ 0 ⟨[(0,(.ro 228 Bool.false x0)),(1,(.ro 228 Bool.false x1)),(5,(.i .i64 x2))],[]⟩
theorem ZBd (x0 x1:Rows) (x2:Int):Z9E x0 x1 x2=(bif(ltI x2 (lenI x0))then(bif(inR x2 (lenI x0))then(bif(inR x2 (lenI x1))then(((callI tE ZCN [(.int (gn (at' x0 (tn x2)))),(.int (gn (tk 1 (at' x0 (tn x2))))),(.int (gn (tk 2 (at' x0 (tn x2))))),(.int (gn (tk 3 (at' x0 (tn x2))))),(.int (gn (tk 4 (at' x0 (tn x2))))),(.int (gn (tk 5 (at' x0 (tn x2))))),(.bool (gb (tk 6 (at' x0 (tn x2))))),(.int (gn (at' x1 (tn x2)))),(.int (gn (tk 1 (at' x1 (tn x2))))),(.int (gn (tk 2 (at' x1 (tn x2))))),(.int (gn (tk 3 (at' x1 (tn x2))))),(.int (gn (tk 4 (at' x1 (tn x2))))),(.int (gn (tk 5 (at' x1 (tn x2))))),(.bool (gb (tk 6 (at' x1 (tn x2)))))])).bind (fun r0=>(bif(!(gb r0))then(some [(.bool Bool.false)])else(Z9E x0 x1 (w64 (x2+1))))))else none)else none)else(some [(.bool Bool.true)])):=(loopK_run (by kernel_rfl)).trans (by kernel_rfl)
theorem ZFs (a0 a1:Rows):callI tE ZAQ [.sl a0,.sl a1]=(bif(!(eqI (lenI a0) (lenI a1)))then(some [(.bool Bool.false)])else(Z9E a0 a1 0)):=(callI_run rfl (by kernel_rfl)).trans (by kernel_rfl)
theorem ZFt (a0 a1 a2 a3 a4 a5 a6 a7 a8 a9:Int):callI tE ZC0 [.int a0,.int a1,.int a2,.int a3,.int a4,.int a5,.int a6,.int a7,.int a8,.int a9]=(bif(!(eqI a0 a5))then(some [(.bool Bool.false)])else(bif(!(eqI a1 a6))then(some [(.bool Bool.false)])else(bif(!(eqI a2 a7))then(some [(.bool Bool.false)])else(bif(!(eqI a3 a8))then(some [(.bool Bool.false)])else(bif(!(eqI a4 a9))then(some [(.bool Bool.false)])else(some [(.bool Bool.true)])))))):=(callI_run rfl (by kernel_rfl)).trans (by kernel_rfl)
noncomputable def Z8a (x0 x1:Rows) (x2:Int):Option (List Dat):=loopK tE Z9j 0 ⟨[(0,(.ro 231 Bool.false x0)),(1,(.ro 231 Bool.false x1)),(5,(.i .i64 x2))],[]⟩
theorem ZB4 (x0 x1:Rows) (x2:Int):Z8a x0 x1 x2=(bif(ltI x2 (lenI x0))then(bif(inR x2 (lenI x0))then(bif(inR x2 (lenI x1))then(((callI tE ZC0 [(.int (gn (at' x0 (tn x2)))),(.int (gn (tk 1 (at' x0 (tn x2))))),(.int (gn (tk 2 (at' x0 (tn x2))))),(.int (gn (tk 3 (at' x0 (tn x2))))),(.int (gn (tk 4 (at' x0 (tn x2))))),(.int (gn (at' x1 (tn x2)))),(.int (gn (tk 1 (at' x1 (tn x2))))),(.int (gn (tk 2 (at' x1 (tn x2))))),(.int (gn (tk 3 (at' x1 (tn x2))))),(.int (gn (tk 4 (at' x1 (tn x2)))))])).bind (fun r0=>(bif(!(gb r0))then(some [(.bool Bool.false)])else(Z8a x0 x1 (w64 (x2+1))))))else none)else none)else(some [(.bool Bool.true)])):=(loopK_run (by kernel_rfl)).trans (by kernel_rfl)
theorem ZFE (a0 a1:Rows):callI tE Z9j [.sl a0,.sl a1]=(bif(!(eqI (lenI a0) (lenI a1)))then(some [(.bool Bool.false)])else(Z8a a0 a1 0)):=(callI_run rfl (by kernel_rfl)).trans (by kernel_rfl)
theorem ZFF (a0 a1 a2 a3 a4 a5:Rows):callI tE ZBP [.sl a0,.sl a1,.sl a2,.sl a3,.sl a4,.sl a5]=(((callI tE Z6K [(.sl a0),(.sl a3)])).bind (fun r0=>(bif(!(gb r0))then(some [(.bool Bool.false)])else(((callI tE ZAQ [(.sl a1),(.sl a4)])).bind (fun r1=>(bif(!(gb r1))then(some [(.bool Bool.false)])else(((callI tE Z9j [(.sl a2),(.sl a5)])).bind (fun r2=>(bif(!(gb r2))then(some [(.bool Bool.false)])else(some [(.bool Bool.true)])))))))))):=(callI_run rfl (by kernel_rfl)).trans (by kernel_rfl)
noncomputable def Z85 (x0 x1:Int) (x2:Rows):Option (List Dat):=loopK tE Z8z 0 ⟨[(0,(.own (1000000,0))),(1,(.i .i64 x0)),(5,(.i .i64 x1))],[((1000000,0),(.row 228 x2 Bool.true 0 []))]⟩
theorem ZAg (x0 x1:Int) (x2:Rows):Z85 x0 x1 x2=(bif(ltI x1 (lenI x2))then(bif(inR x1 (lenI x2))then(bif(inR x1 (lenI (updR x2 (tn x1) 0 [(.int x0)])))then(bif(inR x1 (lenI (updR (updR x2 (tn x1) 0 [(.int x0)]) (tn x1) 1 [(.int (w64 (x0+1)))])))then(bif(inR x1 (lenI (updR (updR (updR x2 (tn x1) 0 [(.int x0)]) (tn x1) 1 [(.int (w64 (x0+1)))]) (tn x1) 2 [(.int (w64 ((w64 (x0+1))+1)))])))then(bif(inR x1 (lenI (updR (updR (updR (updR x2 (tn x1) 0 [(.int x0)]) (tn x1) 1 [(.int (w64 (x0+1)))]) (tn x1) 2 [(.int (w64 ((w64 (x0+1))+1)))]) (tn x1) 3 [(.int (w64 ((w64 ((w64 (x0+1))+1))+1)))])))then(bif(inR x1 (lenI (updR (updR (updR (updR (updR x2 (tn x1) 0 [(.int x0)]) (tn x1) 1 [(.int (w64 (x0+1)))]) (tn x1) 2 [(.int (w64 ((w64 (x0+1))+1)))]) (tn x1) 3 [(.int (w64 ((w64 ((w64 (x0+1))+1))+1)))]) (tn x1) 4 [(.int (w64 ((w64 ((w64 ((w64 (x0+1))+1))+1))+1)))])))then(bif(inR x1 (lenI (updR (updR (updR (updR (updR (updR x2 (tn x1) 0 [(.int x0)]) (tn x1) 1 [(.int (w64 (x0+1)))]) (tn x1) 2 [(.int (w64 ((w64 (x0+1))+1)))]) (tn x1) 3 [(.int (w64 ((w64 ((w64 (x0+1))+1))+1)))]) (tn x1) 4 [(.int (w64 ((w64 ((w64 ((w64 (x0+1))+1))+1))+1)))]) (tn x1) 5 [(.int (w64 ((w64 ((w64 ((w64 ((w64 (x0+1))+1))+1))+1))+1)))])))then(Z85 (w64 ((w64 ((w64 ((w64 ((w64 ((w64 ((w64 (x0+1))+1))+1))+1))+1))+1))+1)) (w64 (x1+1)) (updR (updR (updR (updR (updR (updR (updR x2 (tn x1) 0 [(.int x0)]) (tn x1) 1 [(.int (w64 (x0+1)))]) (tn x1) 2 [(.int (w64 ((w64 (x0+1))+1)))]) (tn x1) 3 [(.int (w64 ((w64 ((w64 (x0+1))+1))+1)))]) (tn x1) 4 [(.int (w64 ((w64 ((w64 ((w64 (x0+1))+1))+1))+1)))]) (tn x1) 5 [(.int (w64 ((w64 ((w64 ((w64 ((w64 (x0+1))+1))+1))+1))+1)))]) (tn x1) 6 [(.bool (eqI (Int.tmod (w64 ((w64 ((w64 ((w64 ((w64 ((w64 (x0+1))+1))+1))+1))+1))+1)) 3) 0))]))else none)else none)else none)else none)else none)else none)else none)else(some [(.int x0),(.sl x2)])):=(loopK_run (by kernel_rfl)).trans (by kernel_rfl)
theorem ZEP (a0:Rows) (a1:Int):callI tE Z8z [.sl a0,.int a1]=(Z85 a1 0 a0):=(callI_run rfl (by kernel_rfl)).trans (by kernel_rfl)
noncomputable def Z7k (x0 x1:Int) (x2:Rows):Option (List Dat):=loopK tE Z8P 0 ⟨[(0,(.own (1000000,0))),(1,(.i .i64 x0)),(5,(.i .i64 x1))],[((1000000,0),(.row 231 x2 Bool.true 0 []))]⟩
theorem ZA0 (x0 x1:Int) (x2:Rows):Z7k x0 x1 x2=(bif(ltI x1 (lenI x2))then(bif(inR x1 (lenI x2))then(bif(inR x1 (lenI (updR x2 (tn x1) 0 [(.int x0)])))then(bif(inR x1 (lenI (updR (updR x2 (tn x1) 0 [(.int x0)]) (tn x1) 1 [(.int (w64 (x0+1)))])))then(bif(inR x1 (lenI (updR (updR (updR x2 (tn x1) 0 [(.int x0)]) (tn x1) 1 [(.int (w64 (x0+1)))]) (tn x1) 2 [(.int (w64 ((w64 (x0+1))+1)))])))then(bif(inR x1 (lenI (updR (updR (updR (updR x2 (tn x1) 0 [(.int x0)]) (tn x1) 1 [(.int (w64 (x0+1)))]) (tn x1) 2 [(.int (w64 ((w64 (x0+1))+1)))]) (tn x1) 3 [(.int (w64 ((w64 ((w64 (x0+1))+1))+1)))])))then(Z7k (w64 ((w64 ((w64 ((w64 ((w64 (x0+1))+1))+1))+1))+1)) (w64 (x1+1)) (updR (updR (updR (updR (updR x2 (tn x1) 0 [(.int x0)]) (tn x1) 1 [(.int (w64 (x0+1)))]) (tn x1) 2 [(.int (w64 ((w64 (x0+1))+1)))]) (tn x1) 3 [(.int (w64 ((w64 ((w64 (x0+1))+1))+1)))]) (tn x1) 4 [(.int (w64 ((w64 ((w64 ((w64 (x0+1))+1))+1))+1)))]))else none)else none)else none)else none)else none)else(some [(.int x0),(.sl x2)])):=(loopK_run (by kernel_rfl)).trans (by kernel_rfl)
theorem ZDx (a0:Rows) (a1:Int):callI tE Z8P [.sl a0,.int a1]=(Z7k a1 0 a0):=(callI_run rfl (by kernel_rfl)).trans (by kernel_rfl)
noncomputable def Z86 (x0 x1:Int) (x2:Rows):Option (List Dat):=loopK tE Z7q 0 ⟨[(0,(.own (1000000,0))),(1,(.i .i64 x0)),(5,(.i .i64 x1))],[((1000000,0),(.row 202 x2 Bool.true 0 []))]⟩
theorem ZAh (x0 x1:Int) (x2:Rows):Z86 x0 x1 x2=(bif(ltI x1 (lenI x2))then(bif(inR x1 (lenI x2))then(bif(inR x1 (lenI (updR x2 (tn x1) 0 [(.int x0)])))then(((callI tE Z5m [(List.getD (at' (updR x2 (tn x1) 0 [(.int x0)]) (tn x1)) 1 (.int 0)),(.int (w64 (x0+1)))])).bind (fun r0=>(bif(inR x1 (lenI (updR (updR x2 (tn x1) 0 [(.int x0)]) (tn x1) 1 [(List.headD (List.drop 1 r0) (.int 0))])))then(((callI tE Z5m [(List.getD (at' (updR (updR x2 (tn x1) 0 [(.int x0)]) (tn x1) 1 [(List.headD (List.drop 1 r0) (.int 0))]) (tn x1)) 2 (.int 0)),(.int (gn r0))])).bind (fun r1=>(bif(inR x1 (lenI (updR (updR (updR x2 (tn x1) 0 [(.int x0)]) (tn x1) 1 [(List.headD (List.drop 1 r0) (.int 0))]) (tn x1) 2 [(List.headD (List.drop 1 r1) (.int 0))])))then(((callI tE Z90 [(List.getD (at' (updR (updR (updR x2 (tn x1) 0 [(.int x0)]) (tn x1) 1 [(List.headD (List.drop 1 r0) (.int 0))]) (tn x1) 2 [(List.headD (List.drop 1 r1) (.int 0))]) (tn x1)) 3 (.int 0)),(.int (gn r1))])).bind (fun r2=>(bif(inR x1 (lenI (updR (updR (updR (updR x2 (tn x1) 0 [(.int x0)]) (tn x1) 1 [(List.headD (List.drop 1 r0) (.int 0))]) (tn x1) 2 [(List.headD (List.drop 1 r1) (.int 0))]) (tn x1) 3 [(List.headD (List.drop 1 r2) (.int 0))])))then(Z86 (w64 ((gn r2)+1)) (w64 (x1+1)) (updR (updR (updR (updR (updR x2 (tn x1) 0 [(.int x0)]) (tn x1) 1 [(List.headD (List.drop 1 r0) (.int 0))]) (tn x1) 2 [(List.headD (List.drop 1 r1) (.int 0))]) (tn x1) 3 [(List.headD (List.drop 1 r2) (.int 0))]) (tn x1) 4 [(.int (gn r2))]))else none)))else none)))else none)))else none)else none)else(some [(.int x0),(.sl x2)])):=(loopK_run (by kernel_rfl)).trans (by kernel_rfl)
theorem ZEQ (a0:Rows) (a1:Int):callI tE Z7q [.sl a0,.int a1]=(Z86 a1 0 a0):=(callI_run rfl (by kernel_rfl)).trans (by kernel_rfl)
noncomputable def Z6q (x0 x1:Int) (x2:Rows):Option (List Dat):=loopK tE Z6c 0 ⟨[(0,(.own (1000000,0))),(1,(.i .i64 x0)),(5,(.i .i64 x1))],[((1000000,0),(.row 205 x2 Bool.true 0 []))]⟩
theorem Z8b (x0 x1:Int) (x2:Rows):Z6q x0 x1 x2=(bif(ltI x1 (lenI x2))then(bif(inR x1 (lenI x2))then(((callI tE Z5m [(List.getD (at' x2 (tn x1)) 0 (.int 0)),(.int x0)])).bind (fun r0=>(bif(inR x1 (lenI (updR x2 (tn x1) 0 [(List.headD (List.drop 1 r0) (.int 0))])))then(Z6q (w64 ((gn r0)+1)) (w64 (x1+1)) (updR (updR x2 (tn x1) 0 [(List.headD (List.drop 1 r0) (.int 0))]) (tn x1) 1 [(.int (gn r0))]))else none)))else none)else(some [(.int x0),(.sl x2)])):=(loopK_run (by kernel_rfl)).trans (by kernel_rfl)
theorem ZCm (a0:Rows) (a1:Int):callI tE Z6c [.sl a0,.int a1]=(Z6q a1 0 a0):=(callI_run rfl (by kernel_rfl)).trans (by kernel_rfl)
theorem ZDy (a0:Rows) (a1 a2 a3:Int):callI tE ZA6 [.sl a0,.int a1,.int a2,.int a3]=(((callI tE Z7q [(.sl a0),(.int a3)])).bind (fun r0=>(some [(.int (gn r0)),(.sl (gl (List.drop 1 r0)))]))):=(callI_run rfl (by kernel_rfl)).trans (by kernel_rfl)
theorem ZCn (a0:Rows) (a1:Int) (a2:Bool) (a3:Int):callI tE Z8J [.sl a0,.int a1,.bool a2,.int a3]=(((callI tE Z6c [(.sl a0),(.int a3)])).bind (fun r0=>(some [(.int (gn r0)),(.sl (gl (List.drop 1 r0)))]))):=(callI_run rfl (by kernel_rfl)).trans (by kernel_rfl)
theorem ZGT (a0:Int) (a1:Rows) (a2:Int) (a3 a4 a5 a6:Rows) (a7 a8 a9 a10:Int) (a11:Rows) (a12 a13:Int) (a14:Rows) (a15:Int) (a16:Bool) (a17:Int):callI tE ZB8 [.int a0,.sl a1,.int a2,.sl a3,.sl a4,.sl a5,.sl a6,.int a7,.int a8,.int a9,.int a10,.sl a11,.int a12,.int a13,.sl a14,.int a15,.bool a16,.int a17]=(((callI tE ZA5 [(.sl a1),(.int a2),(.sl a3),(.sl a4),(.sl a5),(.sl a6),(.int a7),(.int a8),(.int a9),(.int a10),(.int a17)])).bind (fun r0=>(((callI tE ZA6 [(.sl a11),(.int a12),(.int a13),(.int (gn r0))])).bind (fun r1=>(((callI tE Z8J [(.sl a14),(.int a15),(.bool a16),(.int (gn r1))])).bind (fun r2=>(some [(.int (gn r2)),(.sl (gl (List.drop 1 r0))),(.sl (gl (tk 1 (List.drop 1 r0)))),(.sl (gl (tk 2 (List.drop 1 r0)))),(.sl (gl (tk 3 (List.drop 1 r0)))),(.sl (gl (tk 4 (List.drop 1 r0)))),(.sl (gl (List.drop 1 r1))),(.sl (gl (List.drop 1 r2)))]))))))):=(callI_run rfl (by kernel_rfl)).trans (by kernel_rfl)
noncomputable def Z87 (x0:Rows) (x1 x2:Int):Option (List Dat):=loopK tE Z92 0 ⟨[(0,(.ro 228 Bool.false x0)),(1,(.i .i64 x1)),(5,(.i .i64 x2))],[]⟩
theorem ZAi (x0:Rows) (x1 x2:Int):Z87 x0 x1 x2=(bif(ltI x2 (lenI x0))then(bif(inR x2 (lenI x0))then(bif(!(eqI (gn (at' x0 (tn x2))) x1))then(some [(.int (-1))])else(bif(inR x2 (lenI x0))then(bif(!(eqI (gn (List.drop 1 (at' x0 (tn x2)))) (w64 (x1+1))))then(some [(.int (-1))])else(bif(inR x2 (lenI x0))then(bif(!(eqI (gn (List.drop 2 (at' x0 (tn x2)))) (w64 ((w64 (x1+1))+1))))then(some [(.int (-1))])else(bif(inR x2 (lenI x0))then(bif(!(eqI (gn (List.drop 3 (at' x0 (tn x2)))) (w64 ((w64 ((w64 (x1+1))+1))+1))))then(some [(.int (-1))])else(bif(inR x2 (lenI x0))then(bif(!(eqI (gn (List.drop 4 (at' x0 (tn x2)))) (w64 ((w64 ((w64 ((w64 (x1+1))+1))+1))+1))))then(some [(.int (-1))])else(bif(inR x2 (lenI x0))then(bif(!(eqI (gn (List.drop 5 (at' x0 (tn x2)))) (w64 ((w64 ((w64 ((w64 ((w64 (x1+1))+1))+1))+1))+1))))then(some [(.int (-1))])else(bif(inR x2 (lenI x0))then(bif(!(eqBo (gb (List.drop 6 (at' x0 (tn x2)))) (eqI (Int.tmod (w64 ((w64 ((w64 ((w64 ((w64 ((w64 (x1+1))+1))+1))+1))+1))+1)) 3) 0)))then(some [(.int (-1))])else(Z87 x0 (w64 ((w64 ((w64 ((w64 ((w64 ((w64 ((w64 (x1+1))+1))+1))+1))+1))+1))+1)) (w64 (x2+1))))else none))else none))else none))else none))else none))else none))else none)else(some [(.int x1)])):=(loopK_run (by kernel_rfl)).trans (by kernel_rfl)
theorem ZER (a0:Rows) (a1:Int):callI tE Z92 [.sl a0,.int a1]=(Z87 a0 a1 0):=(callI_run rfl (by kernel_rfl)).trans (by kernel_rfl)
noncomputable def Z7l (x0:Rows) (x1 x2:Int):Option (List Dat):=loopK tE Z8Q 0 ⟨[(0,(.ro 231 Bool.false x0)),(1,(.i .i64 x1)),(5,(.i .i64 x2))],[]⟩
theorem ZA1 (x0:Rows) (x1 x2:Int):Z7l x0 x1 x2=(bif(ltI x2 (lenI x0))then(bif(inR x2 (lenI x0))then(bif(!(eqI (gn (at' x0 (tn x2))) x1))then(some [(.int (-1))])else(bif(inR x2 (lenI x0))then(bif(!(eqI (gn (List.drop 1 (at' x0 (tn x2)))) (w64 (x1+1))))then(some [(.int (-1))])else(bif(inR x2 (lenI x0))then(bif(!(eqI (gn (List.drop 2 (at' x0 (tn x2)))) (w64 ((w64 (x1+1))+1))))then(some [(.int (-1))])else(bif(inR x2 (lenI x0))then(bif(!(eqI (gn (List.drop 3 (at' x0 (tn x2)))) (w64 ((w64 ((w64 (x1+1))+1))+1))))then(some [(.int (-1))])else(bif(inR x2 (lenI x0))then(bif(!(eqI (gn (List.drop 4 (at' x0 (tn x2)))) (w64 ((w64 ((w64 ((w64 (x1+1))+1))+1))+1))))then(some [(.int (-1))])else(Z7l x0 (w64 ((w64 ((w64 ((w64 ((w64 (x1+1))+1))+1))+1))+1)) (w64 (x2+1))))else none))else none))else none))else none))else none)else(some [(.int x1)])):=(loopK_run (by kernel_rfl)).trans (by kernel_rfl)
theorem ZDz (a0:Rows) (a1:Int):callI tE Z8Q [.sl a0,.int a1]=(Z7l a0 a1 0):=(callI_run rfl (by kernel_rfl)).trans (by kernel_rfl)
noncomputable def Z88 (x0:Rows) (x1 x2:Int):Option (List Dat):=loopK tE Z94 0 ⟨[(0,(.ro 202 Bool.false x0)),(1,(.i .i64 x1)),(5,(.i .i64 x2))],[]⟩
theorem ZAj (x0:Rows) (x1 x2:Int):Z88 x0 x1 x2=(bif(ltI x2 (lenI x0))then(bif(inR x2 (lenI x0))then(bif(!(eqI (gn (at' x0 (tn x2))) x1))then(some [(.int (-1))])else(bif(inR x2 (lenI x0))then(((callI tE Z5t [(.sl (gl (List.drop 1 (at' x0 (tn x2))))),(.int (w64 (x1+1)))])).bind (fun r0=>(bif(ltI (gn r0) 0)then(some [(.int (-1))])else(bif(inR x2 (lenI x0))then(((callI tE Z5t [(.sl (gl (List.drop 2 (at' x0 (tn x2))))),(.int (gn r0))])).bind (fun r1=>(bif(ltI (gn r1) 0)then(some [(.int (-1))])else(bif(inR x2 (lenI x0))then(((callI tE Z93 [(.sl (gl (List.drop 3 (at' x0 (tn x2))))),(.int (gn r1))])).bind (fun r2=>(bif(ltI (gn r2) 0)then(some [(.int (-1))])else(bif(inR x2 (lenI x0))then(bif(!(eqI (gn (List.drop 4 (at' x0 (tn x2)))) (gn r2)))then(some [(.int (-1))])else(Z88 x0 (w64 ((gn r2)+1)) (w64 (x2+1))))else none))))else none))))else none))))else none))else none)else(some [(.int x1)])):=(loopK_run (by kernel_rfl)).trans (by kernel_rfl)
theorem ZES (a0:Rows) (a1:Int):callI tE Z94 [.sl a0,.int a1]=(Z88 a0 a1 0):=(callI_run rfl (by kernel_rfl)).trans (by kernel_rfl)
noncomputable def Z6r (x0:Rows) (x1 x2:Int):Option (List Dat):=loopK tE Z73 0 ⟨[(0,(.ro 205 Bool.false x0)),(1,(.i .i64 x1)),(5,(.i .i64 x2))],[]⟩
theorem Z8c (x0:Rows) (x1 x2:Int):Z6r x0 x1 x2=(bif(ltI x2 (lenI x0))then(bif(inR x2 (lenI x0))then(((callI tE Z5t [(.sl (gl (at' x0 (tn x2)))),(.int x1)])).bind (fun r0=>(bif(ltI (gn r0) 0)then(some [(.int (-1))])else(bif(inR x2 (lenI x0))then(bif(!(eqI (gn (List.drop 1 (at' x0 (tn x2)))) (gn r0)))then(some [(.int (-1))])else(Z6r x0 (w64 ((gn r0)+1)) (w64 (x2+1))))else none))))else none)else(some [(.int x1)])):=(loopK_run (by kernel_rfl)).trans (by kernel_rfl)
theorem ZCo (a0:Rows) (a1:Int):callI tE Z73 [.sl a0,.int a1]=(Z6r a0 a1 0):=(callI_run rfl (by kernel_rfl)).trans (by kernel_rfl)
set_option maxRecDepth 10000
def ZJt (t:Tk):Bool:=win t.kind 1 4&&(aok t.left&&(aok t.right&&(eqI t.mat.length t.left.length&&win t.level 0 4)))
def tkZ:Tk:=⟨0,[],[],[],0⟩
def Z6M (l:List Tk):Nat:=(l.map fun t=>t.left.length).sum
def Z5v (l:List Tk):Nat:=(l.map fun t=>t.right.length).sum
def ZL8 (j:Jn):Bool:=decide (j.pend.length≤40)&&(win j.wr 0 100000&&(win j.parts 0 1000&&((j.pend.all fun t=>ZJt t&&decide (t.kind=(j.pend.headD tkZ).kind))&&(decide (Z6M j.pend≤24)&&decide (Z5v j.pend≤24)))))
def Z6m (l:List Gt):Nat:=(l.map fun t=>t.rows.length).sum
def ZL9 (a:Ag):Bool:=(a.pend.all fun t=>aok t.rows&&win t.level 0 4)&&(decide (a.pend.length≤40)&&(decide (Z6m a.pend≤24)&&win a.wr 0 100000))
set_option maxRecDepth 100000
theorem ZET (a0:Rows) (a1:Int):callI tE Z8x [.sl a0,.int a1]=(bif(ltI (w64 (a1-(lenI a0))) 0)then(some [(.int (-1))])else(some [(.int (w64 (a1-(lenI a0))))])):=(callI_run rfl (by kernel_rfl)).trans (by kernel_rfl)
theorem ZFG (a0 a1:Int) (a2 a3:Rows) (a4:Int):callI tE ZBA [.int a0,.int a1,.sl a2,.sl a3,.int a4]=(((callI tE Z8x [(.sl a2),(.int a4)])).bind (fun r0=>(bif(ltI (gn r0) 0)then(some [(.int (-1))])else(((callI tE Z8x [(.sl a3),(.int (gn r0))])).bind (fun r1=>(bif(ltI (gn r1) 0)then(some [(.int (-1))])else(some [(.int (gn r1))]))))))):=(callI_run rfl (by kernel_rfl)).trans (by kernel_rfl)
theorem ZGU (a0 a1:Int) (a2:Rows) (a3:Int) (a4 a5 a6 a7:Rows) (a8 a9 a10 a11:Int) (a12:Rows) (a13 a14:Int) (a15:Rows) (a16:Int) (a17:Bool) (a18 a19 a20:Rows) (a21:Bool) (a22:Int):callI tE ZCG [.int a0,.int a1,.sl a2,.int a3,.sl a4,.sl a5,.sl a6,.sl a7,.int a8,.int a9,.int a10,.int a11,.sl a12,.int a13,.int a14,.sl a15,.int a16,.bool a17,.sl a18,.sl a19,.sl a20,.bool a21,.int a22]=(((callI tE ZCF [(.int a1),(.sl a2),(.int a3),(.sl a4),(.sl a5),(.sl a6),(.sl a7),(.int a8),(.int a9),(.int a10),(.int a11),(.sl a12),(.int a13),(.int a14),(.sl a15),(.int a16),(.bool a17),(.int a22)])).bind (fun r0=>(bif(ltI (gn r0) 0)then(some [(.int (-1))])else(((callI tE ZBE [(.sl a18),(.sl a19),(.sl a20),(.int (gn r0))])).bind (fun r1=>(bif(ltI (gn r1) 0)then(some [(.int (-1))])else(some [(.int (gn r1))]))))))):=(callI_run rfl (by kernel_rfl)).trans (by kernel_rfl)
noncomputable def Z7u (x0:Rows) (x1 x2:Int):Option (List Dat):=loopK tE ZAC 0 ⟨[(0,(.ro 253 Bool.false x0)),(1,(.i .i64 x1)),(5,(.i .i64 x2))],[]⟩
theorem ZBe (x0:Rows) (x1 x2:Int):Z7u x0 x1 x2=(bif(ltI x2 (lenI x0))then(bif(inR x2 (lenI x0))then(((callI tE ZCG [(.int (gn (at' x0 (tn x2)))),(.int (gn (tk 1 (at' x0 (tn x2))))),(.sl (gl (tk 2 (at' x0 (tn x2))))),(.int (gn (tk 3 (at' x0 (tn x2))))),(.sl (gl (tk 4 (at' x0 (tn x2))))),(.sl (gl (tk 5 (at' x0 (tn x2))))),(.sl (gl (tk 6 (at' x0 (tn x2))))),(.sl (gl (tk 7 (at' x0 (tn x2))))),(.int (gn (tk 8 (at' x0 (tn x2))))),(.int (gn (tk 9 (at' x0 (tn x2))))),(.int (gn (tk 10 (at' x0 (tn x2))))),(.int (gn (tk 11 (at' x0 (tn x2))))),(.sl (gl (tk 12 (at' x0 (tn x2))))),(.int (gn (tk 13 (at' x0 (tn x2))))),(.int (gn (tk 14 (at' x0 (tn x2))))),(.sl (gl (tk 15 (at' x0 (tn x2))))),(.int (gn (tk 16 (at' x0 (tn x2))))),(.bool (gb (tk 17 (at' x0 (tn x2))))),(.sl (gl (tk 18 (at' x0 (tn x2))))),(.sl (gl (tk 19 (at' x0 (tn x2))))),(.sl (gl (tk 20 (at' x0 (tn x2))))),(.bool (gb (tk 21 (at' x0 (tn x2))))),(.int x1)])).bind (fun r0=>(bif(ltI (gn r0) 0)then(some [(.int (-1))])else(Z7u x0 (gn r0) (w64 (x2+1))))))else none)else(some [(.int x1)])):=(loopK_run (by kernel_rfl)).trans (by kernel_rfl)
theorem ZFu (a0:Rows) (a1:Int):callI tE ZAC [.sl a0,.int a1]=(bif(ltI (w64 (a1-(lenI a0))) 0)then(some [(.int (-1))])else(Z7u a0 (w64 (a1-(lenI a0))) 0)):=(callI_run rfl (by kernel_rfl)).trans (by kernel_rfl)
theorem ZFH (a0 a1:Int) (a2 a3 a4:Rows) (a5 a6:Int):callI tE ZBF [.int a0,.int a1,.sl a2,.sl a3,.sl a4,.int a5,.int a6]=(((callI tE ZBA [(.int a0),(.int a1),(.sl a2),(.sl a3),(.int a6)])).bind (fun r0=>(bif(ltI (gn r0) 0)then(some [(.int (-1))])else(((callI tE ZAC [(.sl a4),(.int (gn r0))])).bind (fun r1=>(bif(ltI (gn r1) 0)then(some [(.int (-1))])else(some [(.int (gn r1))]))))))):=(callI_run rfl (by kernel_rfl)).trans (by kernel_rfl)
theorem ZFv (a0:Int) (a1:Rows) (a2:Int) (a3 a4 a5 a6:Rows) (a7 a8 a9 a10:Int) (a11:Rows) (a12 a13:Int) (a14:Rows) (a15:Int) (a16:Bool):callI tE Z8f [.int a0,.sl a1,.int a2,.sl a3,.sl a4,.sl a5,.sl a6,.int a7,.int a8,.int a9,.int a10,.sl a11,.int a12,.int a13,.sl a14,.int a15,.bool a16]=(bif(eqI a0 1)then(((callI tE Z7L [(.sl a1),(.int a2),(.sl a3),(.sl a4),(.sl a5),(.sl a6),(.int a7),(.int a8),(.int a9),(.int a10)])).bind (fun r0=>(some [(.bool (gb r0))])))else(bif(eqI a0 2)then(((callI tE Z7M [(.sl a11),(.int a12),(.int a13)])).bind (fun r0=>(some [(.bool (gb r0))])))else(bif(eqI a0 3)then(((callI tE Z6g [(.sl a14),(.int a15),(.bool a16)])).bind (fun r0=>(some [(.bool (gb r0))])))else(some [(.bool Bool.false)])))):=(callI_run rfl (by kernel_rfl)).trans (by kernel_rfl)
theorem ZFw (a0:Int):callI tE Z8g [.int a0]=(some [(.int (bif(ltI (w64 (Int.tdiv a0 8)) 5)then(w64 (Int.tdiv a0 8))else 5))]):=(callI_run rfl (by kernel_rfl)).trans (by kernel_rfl)
noncomputable def Z6W (x0 x1 x2 x3:Int) (x4 x5 x6:Rows):Option (List Dat):=loopK tE Z5w 0 ⟨[(1,(.ptr (500000,0) x0 0)),(3,(.own (500001,0))),(4,(.i .i64 x1))],[((500000,0),(.box 44 [(.i .i64 x2),(.i .i64 x3),(.ro 177 Bool.false x4),(.ro 177 Bool.false x5)])),((500001,0),(.row 42 x6 Bool.false 0 []))]⟩
noncomputable def Z5x (x0 x1 x2 x3 x4:Int) (x5 x6 x7:Rows):Option (List Dat):=loopK tE Z5w 1 ⟨[(1,(.ptr (500000,0) x0 0)),(3,(.own (500001,0))),(4,(.i .i64 x1)),(5,(.i .i64 x2))],[((500000,0),(.box 44 [(.i .i64 x3),(.i .i64 x4),(.ro 177 Bool.false x5),(.ro 177 Bool.false x6)])),((500001,0),(.row 42 x7 Bool.false 0 []))]⟩
noncomputable def Z6E (x0 x1 x2 x3:Int) (x4 x5:Rows):Option (List Dat):=loopK tE Z5w 2 ⟨[(1,(.ptr (500000,0) x0 0)),(7,(.i .i64 x1))],[((500000,0),(.box 44 [(.i .i64 x2),(.i .i64 x3),(.ro 177 Bool.false x4),(.ro 177 Bool.false x5)]))]⟩
noncomputable def Z6X (x0 x1 x2 x3 x4:Int) (x5 x6:Rows):Option (List Dat):=loopK tE Z5w 3 ⟨[(1,(.ptr (500000,0) x0 0)),(7,(.i .i64 x1)),(8,(.i .i64 x2))],[((500000,0),(.box 44 [(.i .i64 x3),(.i .i64 x4),(.ro 177 Bool.false x5),(.ro 177 Bool.false x6)]))]⟩
theorem Z7K (x0 x1 x2 x3:Int) (x4 x5 x6:Rows):Z6W x0 x1 x2 x3 x4 x5 x6=(bif(ltI x1 2)then(Z5x x0 x1 0 x2 x3 x4 x5 x6)else(Z6E x0 0 x2 x3 x4 x5)):=(loopK_run (by kernel_rfl)).trans (by kernel_rfl)
theorem Z8r (x0 x1 x2 x3 x4:Int) (x5 x6 x7:Rows):Z5x x0 x1 x2 x3 x4 x5 x6 x7=(bif(inR x1 (lenI x7))then(bif(ltI x2 (lenI (gl (at' x7 (tn x1)))))then(bif(inR x1 (lenI x7))then(bif(inR x2 (lenI (gl (at' x7 (tn x1)))))then(((callI tE Z5l [(.int (gn (at' (gl (at' x7 (tn x1))) (tn x2)))),(.int 0),(.int (w64 (x4-1)))])).bind (fun r0=>(bif(!(gb r0))then(some [(.bool Bool.false)])else(bif(ltI 0 x2)then(bif(inR x1 (lenI x7))then(bif(inR (w64 (x2-1)) (lenI (gl (at' x7 (tn x1)))))then(bif(leI (gn (at' (gl (at' x7 (tn x1))) (tn x2))) (gn (at' (gl (at' x7 (tn x1))) (tn (w64 (x2-1))))))then(some [(.bool Bool.false)])else(((callI tE Z5l [(.int (gn (tk 1 (at' (gl (at' x7 (tn x1))) (tn x2))))),(.int 8),(.int 60)])).bind (fun r1=>(bif(!(gb r1))then(some [(.bool Bool.false)])else(((callI tE Z5l [(.int (gn (tk 2 (at' (gl (at' x7 (tn x1))) (tn x2))))),(.int 0),(.int 9)])).bind (fun r2=>(bif(!(gb r2))then(some [(.bool Bool.false)])else(Z5x x0 x1 (w64 (x2+1)) x3 x4 x5 x6 x7))))))))else none)else none)else(((callI tE Z5l [(.int (gn (tk 1 (at' (gl (at' x7 (tn x1))) (tn x2))))),(.int 8),(.int 60)])).bind (fun r1=>(bif(!(gb r1))then(some [(.bool Bool.false)])else(((callI tE Z5l [(.int (gn (tk 2 (at' (gl (at' x7 (tn x1))) (tn x2))))),(.int 0),(.int 9)])).bind (fun r2=>(bif(!(gb r2))then(some [(.bool Bool.false)])else(Z5x x0 x1 (w64 (x2+1)) x3 x4 x5 x6 x7)))))))))))else none)else none)else(Z6W x0 (w64 (x1+1)) x3 x4 x5 x6 x7))else none):=(loopK_run (by kernel_rfl)).trans (by kernel_rfl)
theorem Z8s (x0 x1 x2 x3:Int) (x4 x5:Rows):Z6E x0 x1 x2 x3 x4 x5=(bif(ltI x1 (lenI x4))then(Z6X x0 x1 0 x2 x3 x4 x5)else(((callI tE Z5l [(.int x2),(.int 8),(.int 120)])).bind (fun r0=>(bif(gb r0)then(((callI tE Z5l [(.int x3),(.int 0),(.int 1000)])).bind (fun r1=>(bif(gb r1)then(((callI tE Z8g [(.int x2)])).bind (fun r2=>(bif(leI (lenI x4) (gn r2))then(bif(eqI (lenI x5) 0)then(some [(.bool (leI (lenI x5) 5))])else(((callI tE Z8g [(.int x2)])).bind (fun r3=>(bif(eqI (lenI x4) (gn r3))then(some [(.bool (leI (lenI x5) 5))])else(some [(.bool Bool.false)])))))else(some [(.bool Bool.false)]))))else(some [(.bool Bool.false)]))))else(some [(.bool Bool.false)]))))):=(loopK_run (by kernel_rfl)).trans (by kernel_rfl)
theorem Z8t (x0 x1 x2 x3 x4:Int) (x5 x6:Rows):Z6X x0 x1 x2 x3 x4 x5 x6=(bif(ltI x2 (lenI x6))then(bif(inR x1 (lenI x5))then(bif(inR x2 (lenI x6))then(bif(eqI (gn (at' x5 (tn x1))) (gn (at' x6 (tn x2))))then(some [(.bool Bool.false)])else(Z6X x0 x1 (w64 (x2+1)) x3 x4 x5 x6))else none)else none)else(Z6E x0 (w64 (x1+1)) x3 x4 x5 x6)):=(loopK_run (by kernel_rfl)).trans (by kernel_rfl)
theorem ZCx (a0 a1:Int) (a2 a3:Rows):callI tE Z5w [.int a0,.int a1,.sl a2,.sl a3]=(Z6W 0 0 a0 a1 a2 a3 [[(.sl a2)],[(.sl a3)]]):=(callI_run rfl (by kernel_rfl)).trans (by kernel_rfl)
noncomputable def ZAU (x0:Rows) (x1 x2:Int):Option (List Dat):=loopK tE ZAV 0 ⟨[(0,(.ro 177 Bool.false x0)),(1,(.i .i64 x1)),(5,(.i .i64 x2))],[]⟩
theorem ZCC (x0:Rows) (x1 x2:Int):ZAU x0 x1 x2=(bif(ltI x2 (lenI x0))then(bif(inR x2 (lenI x0))then(bif(eqI (gn (at' x0 (tn x2))) x1)then(some [(.int x2)])else(ZAU x0 x1 (w64 (x2+1))))else none)else(some [(.int (-1))])):=(loopK_run (by kernel_rfl)).trans (by kernel_rfl)
theorem ZGy (a0:Rows) (a1:Int):callI tE ZAV [.sl a0,.int a1]=(ZAU a0 a1 0):=(callI_run rfl (by kernel_rfl)).trans (by kernel_rfl)
noncomputable def Z6F (x0 x1 x2 x3:Int) (x4 x5 x6:Rows) (x7:Int):Option (List Dat):=loopK tE Z7N 0 ⟨[(1,(.ptr (500000,0) x0 0)),(3,(.i .i64 x1))],[((500000,0),(.box 47 [(.i .i64 x2),(.i .i64 x3),(.ro 177 Bool.false x4),(.ro 177 Bool.false x5),(.ro 91 Bool.false x6),(.i .i64 x7)]))]⟩
theorem Z8u (x0 x1 x2 x3:Int) (x4 x5 x6:Rows) (x7:Int):Z6F x0 x1 x2 x3 x4 x5 x6 x7=(bif(ltI x1 (lenI x6))then(bif(inR x1 (lenI x6))then(((callI tE ZAV [(.sl x4),(.int x1)])).bind (fun r0=>(bif(leI 0 (gn r0))then(bif(!(eqI (gn (at' x6 (tn x1))) x1))then(some [(.bool Bool.false)])else(((callI tE Z8f [(.int (gn (tk 1 (at' x6 (tn x1))))),(.sl (gl (tk 2 (at' x6 (tn x1))))),(.int (gn (tk 3 (at' x6 (tn x1))))),(.sl (gl (tk 4 (at' x6 (tn x1))))),(.sl (gl (tk 5 (at' x6 (tn x1))))),(.sl (gl (tk 6 (at' x6 (tn x1))))),(.sl (gl (tk 7 (at' x6 (tn x1))))),(.int (gn (tk 8 (at' x6 (tn x1))))),(.int (gn (tk 9 (at' x6 (tn x1))))),(.int (gn (tk 10 (at' x6 (tn x1))))),(.int (gn (tk 11 (at' x6 (tn x1))))),(.sl (gl (tk 12 (at' x6 (tn x1))))),(.int (gn (tk 13 (at' x6 (tn x1))))),(.int (gn (tk 14 (at' x6 (tn x1))))),(.sl (gl (tk 15 (at' x6 (tn x1))))),(.int (gn (tk 16 (at' x6 (tn x1))))),(.bool (gb (tk 17 (at' x6 (tn x1)))))])).bind (fun r1=>(bif(!(gb r1))then(some [(.bool Bool.false)])else(((callI tE Z8D [(.int (gn (tk 1 (at' x6 (tn x1))))),(.sl (gl (tk 2 (at' x6 (tn x1))))),(.int (gn (tk 3 (at' x6 (tn x1))))),(.sl (gl (tk 4 (at' x6 (tn x1))))),(.sl (gl (tk 5 (at' x6 (tn x1))))),(.sl (gl (tk 6 (at' x6 (tn x1))))),(.sl (gl (tk 7 (at' x6 (tn x1))))),(.int (gn (tk 8 (at' x6 (tn x1))))),(.int (gn (tk 9 (at' x6 (tn x1))))),(.int (gn (tk 10 (at' x6 (tn x1))))),(.int (gn (tk 11 (at' x6 (tn x1))))),(.sl (gl (tk 12 (at' x6 (tn x1))))),(.int (gn (tk 13 (at' x6 (tn x1))))),(.int (gn (tk 14 (at' x6 (tn x1))))),(.sl (gl (tk 15 (at' x6 (tn x1))))),(.int (gn (tk 16 (at' x6 (tn x1))))),(.bool (gb (tk 17 (at' x6 (tn x1)))))])).bind (fun r2=>(bif(!(eqBo (gb (tk 21 (at' x6 (tn x1)))) (gb r2)))then(some [(.bool Bool.false)])else(bif(eqBo Bool.true (gb (tk 21 (at' x6 (tn x1)))))then(some [(.bool Bool.false)])else(Z6F x0 (w64 (x1+1)) x2 x3 x4 x5 x6 x7)))))))))else(((callI tE ZAV [(.sl x5),(.int x1)])).bind (fun r1=>(bif(!(eqI (gn (at' x6 (tn x1))) x1))then(some [(.bool Bool.false)])else(((callI tE Z8f [(.int (gn (tk 1 (at' x6 (tn x1))))),(.sl (gl (tk 2 (at' x6 (tn x1))))),(.int (gn (tk 3 (at' x6 (tn x1))))),(.sl (gl (tk 4 (at' x6 (tn x1))))),(.sl (gl (tk 5 (at' x6 (tn x1))))),(.sl (gl (tk 6 (at' x6 (tn x1))))),(.sl (gl (tk 7 (at' x6 (tn x1))))),(.int (gn (tk 8 (at' x6 (tn x1))))),(.int (gn (tk 9 (at' x6 (tn x1))))),(.int (gn (tk 10 (at' x6 (tn x1))))),(.int (gn (tk 11 (at' x6 (tn x1))))),(.sl (gl (tk 12 (at' x6 (tn x1))))),(.int (gn (tk 13 (at' x6 (tn x1))))),(.int (gn (tk 14 (at' x6 (tn x1))))),(.sl (gl (tk 15 (at' x6 (tn x1))))),(.int (gn (tk 16 (at' x6 (tn x1))))),(.bool (gb (tk 17 (at' x6 (tn x1)))))])).bind (fun r2=>(bif(!(gb r2))then(some [(.bool Bool.false)])else(((callI tE Z8D [(.int (gn (tk 1 (at' x6 (tn x1))))),(.sl (gl (tk 2 (at' x6 (tn x1))))),(.int (gn (tk 3 (at' x6 (tn x1))))),(.sl (gl (tk 4 (at' x6 (tn x1))))),(.sl (gl (tk 5 (at' x6 (tn x1))))),(.sl (gl (tk 6 (at' x6 (tn x1))))),(.sl (gl (tk 7 (at' x6 (tn x1))))),(.int (gn (tk 8 (at' x6 (tn x1))))),(.int (gn (tk 9 (at' x6 (tn x1))))),(.int (gn (tk 10 (at' x6 (tn x1))))),(.int (gn (tk 11 (at' x6 (tn x1))))),(.sl (gl (tk 12 (at' x6 (tn x1))))),(.int (gn (tk 13 (at' x6 (tn x1))))),(.int (gn (tk 14 (at' x6 (tn x1))))),(.sl (gl (tk 15 (at' x6 (tn x1))))),(.int (gn (tk 16 (at' x6 (tn x1))))),(.bool (gb (tk 17 (at' x6 (tn x1)))))])).bind (fun r3=>(bif(!(eqBo (gb (tk 21 (at' x6 (tn x1)))) (gb r3)))then(some [(.bool Bool.false)])else(bif(eqBo (leI 0 (gn r1)) (gb (tk 21 (at' x6 (tn x1)))))then(some [(.bool Bool.false)])else(Z6F x0 (w64 (x1+1)) x2 x3 x4 x5 x6 x7))))))))))))))else none)else(some [(.bool Bool.true)])):=(loopK_run (by kernel_rfl)).trans (by kernel_rfl)
theorem ZCy (a0 a1:Int) (a2 a3 a4:Rows) (a5:Int):callI tE Z7N [.int a0,.int a1,.sl a2,.sl a3,.sl a4,.int a5]=(((callI tE Z5w [(.int a0),(.int a1),(.sl a2),(.sl a3)])).bind (fun r0=>(bif(!(gb r0))then(some [(.bool Bool.false)])else(bif(!(eqI (lenI a4) a1))then(some [(.bool Bool.false)])else(bif(ltI 8 (lenI a4))then(some [(.bool Bool.false)])else(((callI tE Z5l [(.int a5),(.int 0),(.int 1000)])).bind (fun r1=>(bif(!(gb r1))then(some [(.bool Bool.false)])else(Z6F 0 0 a0 a1 a2 a3 a4 a5))))))))):=(callI_run rfl (by kernel_rfl)).trans (by kernel_rfl)
theorem ZGz (a0:Int) (a1:Rows) (a2:Int) (a3 a4 a5 a6:Rows) (a7 a8 a9 a10:Int) (a11:Rows) (a12 a13:Int) (a14:Rows) (a15:Int) (a16:Bool):callI tE ZBk [.int a0,.sl a1,.int a2,.sl a3,.sl a4,.sl a5,.sl a6,.int a7,.int a8,.int a9,.int a10,.sl a11,.int a12,.int a13,.sl a14,.int a15,.bool a16]=(((callI tE ZBx [(.sl a1),(.int a2),(.sl a3),(.sl a4),(.sl a5),(.sl a6),(.int a7),(.int a8),(.int a9),(.int a10)])).bind (fun r0=>(((callI tE ZAE [(.sl a11),(.int a12),(.int a13)])).bind (fun r1=>(((callI tE ZAF [(.sl a14),(.int a15),(.bool a16)])).bind (fun r2=>(some [(.int a0),(.sl (gl r0)),(.int (gn (tk 1 r0))),(.sl (gl (tk 2 r0))),(.sl (gl (tk 3 r0))),(.sl (gl (tk 4 r0))),(.sl (gl (tk 5 r0))),(.int (gn (tk 6 r0))),(.int (gn (tk 7 r0))),(.int (gn (tk 8 r0))),(.int (gn (tk 9 r0))),(.sl (gl r1)),(.int (gn (tk 1 r1))),(.int (gn (tk 2 r1))),(.sl (gl r2)),(.int (gn (tk 1 r2))),(.bool (gb (tk 2 r2)))]))))))):=(callI_run rfl (by kernel_rfl)).trans (by kernel_rfl)
theorem ZGV (a0 a1 a2:Rows):callI tE ZCH [.sl a0,.sl a1,.sl a2]=(bif(fitM (0+(len a0)) 24)then(bif(fitM (0+(len a1)) 56)then(bif(fitM (0+(len a2)) 40)then(some [(.sl a0),(.sl a1),(.sl a2)])else none)else none)else none):=(callI_run rfl (by kernel_rfl)).trans (by kernel_rfl)
theorem ZFx (a0 a1:Int) (a2 a3:Rows):callI tE ZAG [.int a0,.int a1,.sl a2,.sl a3]=(bif(fitM (0+(len a2)) 24)then(bif(fitM (0+(len a3)) 24)then(some [(.int a0),(.int a1),(.sl a2),(.sl a3)])else none)else none):=(callI_run rfl (by kernel_rfl)).trans (by kernel_rfl)
noncomputable def Z9F (x0 x1 x2 x3 x4 x5:Int) (x6 x7 x8:Rows) (x9 x10 x11 x12 x13 x14 x15:Int) (x16 x17 x18 x19 x20 x21:Rows):Option (List Dat):=loopK tE ZAH 0 ⟨[(1,(.ptr (500000,0) x0 0)),(2,(.ptr (500001,0) x1 0)),(4,(.ptr (500002,0) x2 0)),(5,(.i .i64 x3))],[((500000,0),(.box 47 [(.i .i64 x4),(.i .i64 x5),(.ro 177 Bool.false x6),(.ro 177 Bool.false x7),(.ro 91 Bool.false x8),(.i .i64 x9)])),((500001,0),(.box 47 [(.i .i64 x10),(.i .i64 x11),(.own (500003,0)),(.own (500004,0)),(.own (500005,0)),(.i .i64 x12)])),((500002,0),(.box 47 [(.i .i64 x13),(.i .i64 x14),(.own (500006,0)),(.own (500007,0)),(.own (500008,0)),(.i .i64 x15)])),((500003,0),(.row 177 x16 Bool.true 0 [])),((500004,0),(.row 177 x17 Bool.true 0 [])),((500005,0),(.row 91 x18 Bool.true 0 [])),((500006,0),(.row 177 x19 Bool.true 0 [])),((500007,0),(.row 177 x20 Bool.true 0 [])),((500008,0),(.row 91 x21 Bool.true 0 []))]⟩
theorem ZBf (x0 x1 x2 x3 x4 x5:Int) (x6 x7 x8:Rows) (x9 x10 x11 x12 x13 x14 x15:Int) (x16 x17 x18 x19 x20 x21:Rows):Z9F x0 x1 x2 x3 x4 x5 x6 x7 x8 x9 x10 x11 x12 x13 x14 x15 x16 x17 x18 x19 x20 x21=(bif(ltI x3 (lenI x8))then(bif(inR x3 (lenI x8))then(((callI tE ZBk [(.int (gn (List.drop 1 (at' x8 (tn x3))))),(.sl (gl (tk 1 (List.drop 1 (at' x8 (tn x3)))))),(.int (gn (tk 2 (List.drop 1 (at' x8 (tn x3)))))),(.sl (gl (tk 3 (List.drop 1 (at' x8 (tn x3)))))),(.sl (gl (tk 4 (List.drop 1 (at' x8 (tn x3)))))),(.sl (gl (tk 5 (List.drop 1 (at' x8 (tn x3)))))),(.sl (gl (tk 6 (List.drop 1 (at' x8 (tn x3)))))),(.int (gn (tk 7 (List.drop 1 (at' x8 (tn x3)))))),(.int (gn (tk 8 (List.drop 1 (at' x8 (tn x3)))))),(.int (gn (tk 9 (List.drop 1 (at' x8 (tn x3)))))),(.int (gn (tk 10 (List.drop 1 (at' x8 (tn x3)))))),(.sl (gl (tk 11 (List.drop 1 (at' x8 (tn x3)))))),(.int (gn (tk 12 (List.drop 1 (at' x8 (tn x3)))))),(.int (gn (tk 13 (List.drop 1 (at' x8 (tn x3)))))),(.sl (gl (tk 14 (List.drop 1 (at' x8 (tn x3)))))),(.int (gn (tk 15 (List.drop 1 (at' x8 (tn x3)))))),(.bool (gb (tk 16 (List.drop 1 (at' x8 (tn x3))))))])).bind (fun r0=>(bif(inR x3 (lenI x8))then(((callI tE ZCH [(.sl (gl (List.drop 18 (at' x8 (tn x3))))),(.sl (gl (tk 1 (List.drop 18 (at' x8 (tn x3)))))),(.sl (gl (tk 2 (List.drop 18 (at' x8 (tn x3))))))])).bind (fun r1=>(bif(inR x3 (lenI x8))then(bif(inR x3 (lenI x8))then(bif(fitM (Nat.succ (len x21)) 336)then(Z9F x0 x1 x2 (w64 (x3+1)) x4 x5 x6 x7 x8 x9 x10 x11 x12 x13 x14 x15 x16 x17 x18 x19 x20 (List.append x21 [[(.int (gn (at' x8 (tn x3)))),(.int (gn r0)),(.sl (gl (tk 1 r0))),(.int (gn (tk 2 r0))),(.sl (gl (tk 3 r0))),(.sl (gl (tk 4 r0))),(.sl (gl (tk 5 r0))),(.sl (gl (tk 6 r0))),(.int (gn (tk 7 r0))),(.int (gn (tk 8 r0))),(.int (gn (tk 9 r0))),(.int (gn (tk 10 r0))),(.sl (gl (tk 11 r0))),(.int (gn (tk 12 r0))),(.int (gn (tk 13 r0))),(.sl (gl (tk 14 r0))),(.int (gn (tk 15 r0))),(.bool (gb (tk 16 r0))),(.sl (gl r1)),(.sl (gl (tk 1 r1))),(.sl (gl (tk 2 r1))),(.bool (gb (List.drop 21 (at' x8 (tn x3)))))]]))else none)else none)else none)))else none)))else none)else(some [(.int x13),(.int x14),(.sl x19),(.sl x20),(.sl x21),(.int x15)])):=(loopK_run (by kernel_rfl)).trans (by kernel_rfl)
theorem ZFy (a0 a1:Int) (a2 a3 a4:Rows) (a5:Int):callI tE ZAH [.int a0,.int a1,.sl a2,.sl a3,.sl a4,.int a5]=(((callI tE ZAG [(.int a0),(.int a1),(.sl a2),(.sl a3)])).bind (fun r0=>(Z9F 0 0 0 0 a0 a1 a2 a3 a4 a5 0 0 0 (gn r0) (gn (tk 1 r0)) a5 [] [] [] (gl (tk 2 r0)) (gl (tk 3 r0)) []))):=(callI_run rfl (by kernel_rfl)).trans (by kernel_rfl)
end Go.Proofs.YtnihikajdbcoaaaGreat.Vai
