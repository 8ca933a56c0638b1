/- What the law of this claim leans on; no condition. -/
import Derived.Test.YtnihikajdbcoaaaGreatEnv
import Derived.Test.YtnihikajdbcoaaaGreatVaiD
namespace Go.Proofs.YtnihikajdbcoaaaGreat.Vai
open Go
set_option linter.unusedSimpArgs false
set_option linter.unusedVariables false
set_option linter.unnecessarySimpa false
abbrev Rows:=List (List Dat)
abbrev Z7F:FuncId:=169
abbrev Z7H:FuncId:=218
abbrev Z5i:FuncId:=84
abbrev Z6G:FuncId:=289
abbrev Z5l:FuncId:=286
abbrev Z6M:FuncId:=290
abbrev Z6p:FuncId:=141
abbrev Z5e:FuncId:=219
abbrev Z6H:FuncId:=232
abbrev Z7g:FuncId:=370
abbrev Z7M:FuncId:=369
abbrev Z6Z:FuncId:=371
abbrev Z6W:FuncId:=88
abbrev Z6b:FuncId:=372
abbrev Z6z:FuncId:=373
abbrev Z63:FuncId:=230
abbrev Z8m:FuncId:=391
abbrev Z9u:FuncId:=257
abbrev Z6f:FuncId:=166
abbrev Z6o:FuncId:=411
abbrev Z8n:FuncId:=301
abbrev Z7R:FuncId:=308
abbrev Z84:FuncId:=309
abbrev Z7N:FuncId:=145
abbrev Z8J:FuncId:=380
abbrev Z6A:FuncId:=234
abbrev Z7h:FuncId:=236
abbrev Z8r:FuncId:=412
abbrev Z5h:FuncId:=307
abbrev ZAX:FuncId:=302
abbrev Z7i:FuncId:=375
abbrev Z7O:FuncId:=374
abbrev Z7Z:FuncId:=376
abbrev ZAY:FuncId:=341
abbrev Z5W:FuncId:=445
abbrev Z5g:FuncId:=464
abbrev Z61:FuncId:=453
abbrev Za:FuncId:=446
abbrev Z62:FuncId:=428
abbrev Z6q:FuncId:=381
abbrev Z6r:FuncId:=237
abbrev Z7S:FuncId:=377
abbrev Z7I:FuncId:=378
abbrev Z70:FuncId:=379
abbrev Z64:FuncId:=233
abbrev Z7m:FuncId:=407
abbrev Z9v:FuncId:=408
abbrev Z9J:FuncId:=287
abbrev Z6F:FuncId:=288
abbrev Z8b:FuncId:=140
abbrev ZDU:FuncId:=36
abbrev Z6g:FuncId:=340
abbrev Z5m:FuncId:=182
abbrev Z9K:FuncId:=179
abbrev Z91:FuncId:=239
abbrev Z88:FuncId:=181
abbrev ZAZ:FuncId:=423
abbrev Z8K:FuncId:=335
abbrev Z8s:FuncId:=164
abbrev Z5N:FuncId:=330
abbrev Z7T:FuncId:=333
abbrev Z5n:FuncId:=175
abbrev Z7n:FuncId:=331
abbrev Z6P:FuncId:=172
abbrev Z7U:FuncId:=426
abbrev Z5f:FuncId:=357
abbrev Z92:FuncId:=343
abbrev Z7o:FuncId:=344
abbrev Z6s:FuncId:=342
abbrev Z7J:FuncId:=185
abbrev Z9L:FuncId:=349
abbrev Z9w:FuncId:=196
abbrev Z7p:FuncId:=358
abbrev Z7P:FuncId:=203
abbrev Z8B:FuncId:=225
abbrev Z6t:FuncId:=352
abbrev Z9U:FuncId:=367
abbrev Z6y:FuncId:=226
abbrev Z89:FuncId:=353
abbrev Z8L:FuncId:=197
abbrev Z71:FuncId:=228
abbrev Z5X:FuncId:=355
abbrev Z9V:FuncId:=368
abbrev Z5x:FuncId:=229
abbrev Z7a:FuncId:=200
abbrev Z8M:FuncId:=87
abbrev Z7j:FuncId:=224
abbrev Z6u:FuncId:=94
abbrev Z7z:FuncId:=235
abbrev Z6C:FuncId:=100
abbrev Z6v:FuncId:=95
abbrev Z5y:FuncId:=96
abbrev Z80:FuncId:=231
abbrev Z6a:FuncId:=99
abbrev Z6h:FuncId:=227
abbrev Z6x:FuncId:=97
abbrev Z7W:FuncId:=98
abbrev Z7b:FuncId:=238
abbrev Z8A:FuncId:=101
abbrev Z7c:FuncId:=12
abbrev Z6J:FuncId:=350
abbrev Z65:FuncId:=351
set_option maxRecDepth 100000
theorem ZFs (a0:Rows):callI tE ZDU [.sl a0]=(some [(.bool (ltI 1048576 (lenI a0)))]):=(callI_run rfl (by kernel_rfl)).trans (by kernel_rfl)
theorem ZDm (a0:Rows) (a1 a2:Int):callI tE Z6g [.sl a0,.int a1,.int a2]=(bif(ltI a1 (lenI a0))then(bif(inR a1 (lenI a0))then(some [(.int (Go.bits Go.BinOp.and .i64 (w64 ((Go.bits Go.BinOp.and .i64 (Go.bits Go.BinOp.xor .i64 ((w64 ((w64 (a2*6364136223846793005))+1442695040888963407))/(Int.pow 2 (ite ((tn 33)≤(Go.IntKind.bits .i64)) (tn 33) 64))) ((w64 ((w64 (a2*6364136223846793005))+1442695040888963407))/(Int.pow 2 (ite ((tn 45)≤(Go.IntKind.bits .i64)) (tn 45) 64)))) 255)+(w64 (gn (at' a0 (tn a1)))))) 255)),(.sl a0),(.int (w64 (a1+1))),(.int (w64 ((w64 (a2*6364136223846793005))+1442695040888963407)))])else none)else(some [(.int (Go.bits Go.BinOp.and .i64 (Go.bits Go.BinOp.xor .i64 ((w64 ((w64 (a2*6364136223846793005))+1442695040888963407))/(Int.pow 2 (ite ((tn 33)≤(Go.IntKind.bits .i64)) (tn 33) 64))) ((w64 ((w64 (a2*6364136223846793005))+1442695040888963407))/(Int.pow 2 (ite ((tn 45)≤(Go.IntKind.bits .i64)) (tn 45) 64)))) 255)),(.sl a0),(.int a1),(.int (w64 ((w64 (a2*6364136223846793005))+1442695040888963407)))])):=(callI_run rfl (by kernel_rfl)).trans (by kernel_rfl)
theorem ZDJ (a0:Rows) (a1 a2 a3:Int):callI tE Z5m [.sl a0,.int a1,.int a2,.int a3]=(bif(leI a3 0)then(some [(.int 0),(.sl a0),(.int a1),(.int a2)])else(bif(leI a3 256)then(((callI tE Z6g [(.sl a0),(.int a1),(.int a2)])).bind (fun r0=>(bif(!(eqI a3 0))then(some [(.int (Int.tmod (gn r0) a3)),(.sl (gl (List.drop 1 r0))),(.int (gn (tk 1 (List.drop 1 r0)))),(.int (gn (tk 2 (List.drop 1 r0))))])else none)))else(((callI tE Z6g [(.sl a0),(.int a1),(.int a2)])).bind (fun r0=>(((callI tE Z6g [(.sl (gl (List.drop 1 r0))),(.int (gn (tk 1 (List.drop 1 r0)))),(.int (gn (tk 2 (List.drop 1 r0))))])).bind (fun r1=>(((callI tE Z6g [(.sl (gl (List.drop 1 r1))),(.int (gn (tk 1 (List.drop 1 r1)))),(.int (gn (tk 2 (List.drop 1 r1))))])).bind (fun r2=>(((callI tE Z6g [(.sl (gl (List.drop 1 r2))),(.int (gn (tk 1 (List.drop 1 r2)))),(.int (gn (tk 2 (List.drop 1 r2))))])).bind (fun r3=>(bif(!(eqI a3 0))then(some [(.int (Int.tmod (w64 ((w64 ((w64 ((w64 ((gn r0)*16777216))+(w64 ((gn r1)*65536))))+(w64 ((gn r2)*256))))+(gn r3))) a3)),(.sl (gl (List.drop 1 r3))),(.int (gn (tk 1 (List.drop 1 r3)))),(.int (gn (tk 2 (List.drop 1 r3))))])else none))))))))))):=(callI_run rfl (by kernel_rfl)).trans (by kernel_rfl)
theorem ZDn (a0:Rows) (a1 a2 a3:Int):callI tE Z9K [.sl a0,.int a1,.int a2,.int a3]=(((callI tE Z5m [(.sl a0),(.int a1),(.int a2),(.int a3)])).bind (fun r0=>(some [(.bool (eqI (gn r0) 0)),(.sl (gl (List.drop 1 r0))),(.int (gn (tk 1 (List.drop 1 r0)))),(.int (gn (tk 2 (List.drop 1 r0))))]))):=(callI_run rfl (by kernel_rfl)).trans (by kernel_rfl)
theorem ZC4 (a0:Rows) (a1 a2:Int) (a3:Rows):callI tE Z88 [.sl a0,.int a1,.int a2,.sl a3]=(((callI tE Z5m [(.sl a0),(.int a1),(.int a2),(.int (lenI a3))])).bind (fun r0=>(bif(inR (gn r0) (lenI a3))then(some [(.int (gn (at' a3 (tn (gn r0))))),(.sl (gl (List.drop 1 r0))),(.int (gn (tk 1 (List.drop 1 r0)))),(.int (gn (tk 2 (List.drop 1 r0))))])else none))):=(callI_run rfl (by kernel_rfl)).trans (by kernel_rfl)
theorem ZEG (a0:Rows) (a1 a2 a3:Int):callI tE ZAZ [.sl a0,.int a1,.int a2,.int a3]=(((callI tE Z5m [(.sl a0),(.int a1),(.int a2),(.int a3)])).bind (fun r0=>(((callI tE Z5m [(.sl (gl (List.drop 1 r0))),(.int (gn (tk 1 (List.drop 1 r0)))),(.int (gn (tk 2 (List.drop 1 r0)))),(.int 100)])).bind (fun r1=>(((callI tE Z88 [(.sl (gl (List.drop 1 r1))),(.int (gn (tk 1 (List.drop 1 r1)))),(.int (gn (tk 2 (List.drop 1 r1)))),(.sl [[(.int 0)],[(.int 0)],[(.int 1)],[(.int 2)],[(.int 3)]])])).bind (fun r2=>(some [(.int (gn r0)),(.int (gn r1)),(.int (gn r2)),(.sl (gl (List.drop 1 r2))),(.int (gn (tk 1 (List.drop 1 r2)))),(.int (gn (tk 2 (List.drop 1 r2))))]))))))):=(callI_run rfl (by kernel_rfl)).trans (by kernel_rfl)
noncomputable def Z8N (x0 x1 x2:Int) (x3:Rows) (x4 x5:Int) (x6:Rows):Option (List Dat):=loopK tE Z8K 0 ⟨[(0,(.ptr (1000000,0) x0 0)),(5,(.own (500001,0))),(6,(.i .i64 x1)),(7,(.i .i64 x2))],[((1000000,0),(.box 305 [(.ro 5 Bool.false x3),(.i .i64 x4),(.i .i64 x5)])),((500001,0),(.row 224 x6 Bool.true 0 []))]⟩
theorem Z9l (x0 x1 x2:Int) (x3:Rows) (x4 x5:Int) (x6:Rows):Z8N x0 x1 x2 x3 x4 x5 x6=(bif(ltI 0 x2)then(((callI tE ZAZ [(.sl x3),(.int x4),(.int x5),(.int x1)])).bind (fun r0=>(bif(fitM (Nat.succ (len x6)) 24)then(Z8N x0 x1 (w64 (x2-1)) (gl (List.drop 3 r0)) (gn (tk 1 (List.drop 3 r0))) (gn (tk 2 (List.drop 3 r0))) (List.append x6 [[(.int (gn r0)),(.int (gn (tk 1 r0))),(.int (gn (tk 2 r0)))]]))else none)))else(some [(.sl x6),(.sl x3),(.int x4),(.int x5)])):=(loopK_run (by kernel_rfl)).trans (by kernel_rfl)
theorem ZDo (a0:Rows) (a1 a2 a3:Int):callI tE Z8K [.sl a0,.int a1,.int a2,.int a3]=(((callI tE Z88 [(.sl a0),(.int a1),(.int a2),(.sl [[(.int 1)],[(.int 2)],[(.int 4)],[(.int 10)]])])).bind (fun r0=>(((callI tE Z5m [(.sl (gl (List.drop 1 r0))),(.int (gn (tk 1 (List.drop 1 r0)))),(.int (gn (tk 2 (List.drop 1 r0)))),(.int (w64 (a3+1)))])).bind (fun r1=>(Z8N 0 (gn r0) (gn r1) (gl (List.drop 1 r1)) (gn (tk 1 (List.drop 1 r1))) (gn (tk 2 (List.drop 1 r1))) []))))):=(callI_run rfl (by kernel_rfl)).trans (by kernel_rfl)
noncomputable def Z8o (x0:Rows) (x1 x2:Int):Option (List Dat):=loopK tE Z8s 0 ⟨[(0,(.ro 5 Bool.false x0)),(3,(.i .i64 x1)),(4,(.i .i64 x2))],[]⟩
theorem ZA0 (x0:Rows) (x1 x2:Int):Z8o x0 x1 x2=(bif(ltI x2 (lenI x0))then(bif(ltI x2 4000)then(bif(inR x2 (lenI x0))then(Z8o x0 (Go.bits Go.BinOp.and .i64 (w64 ((w64 ((w64 (x1*131))+(w64 (gn (at' x0 (tn x2))))))+7)) 1073741823) (w64 (x2+1)))else none)else(some [(.sl x0),(.int 0),(.int x1)]))else(some [(.sl x0),(.int 0),(.int x1)])):=(loopK_run (by kernel_rfl)).trans (by kernel_rfl)
theorem ZEH (a0:Rows):callI tE Z8s [.sl a0]=(Z8o a0 (w64 (10101+(lenI a0))) 0):=(callI_run rfl (by kernel_rfl)).trans (by kernel_rfl)
noncomputable def Z6X (x0 x1 x2:Int) (x3:Rows) (x4 x5:Int) (x6:Rows):Option (List Dat):=loopK tE Z9L 0 ⟨[(0,(.ptr (1000000,0) x0 0)),(5,(.own (500001,0))),(6,(.i .i64 x1)),(7,(.i .i64 x2))],[((1000000,0),(.box 305 [(.ro 5 Bool.false x3),(.i .i64 x4),(.i .i64 x5)])),((500001,0),(.row 5 x6 Bool.true 0 []))]⟩
theorem Z9m (x0 x1 x2:Int) (x3:Rows) (x4 x5:Int) (x6:Rows):Z6X x0 x1 x2 x3 x4 x5 x6=(bif(ltI 0 x2)then(((callI tE Z6g [(.sl x3),(.int x4),(.int x5)])).bind (fun r0=>(bif(eqI x1 1)then(bif(eqI x1 2)then(bif(fitM (Nat.succ (len x6)) 1)then(Z6X x0 x1 (w64 (x2-1)) (gl (List.drop 1 r0)) (gn (tk 1 (List.drop 1 r0))) (gn (tk 2 (List.drop 1 r0))) (List.append x6 [[(.int (Go.IntKind.wrap .u8 (w64 (97+(Int.tmod (Int.tmod (gn r0) 2) 4)))))]]))else none)else(bif(fitM (Nat.succ (len x6)) 1)then(Z6X x0 x1 (w64 (x2-1)) (gl (List.drop 1 r0)) (gn (tk 1 (List.drop 1 r0))) (gn (tk 2 (List.drop 1 r0))) (List.append x6 [[(.int (Go.IntKind.wrap .u8 (Int.tmod (gn r0) 2)))]]))else none))else(bif(eqI x1 2)then(bif(fitM (Nat.succ (len x6)) 1)then(Z6X x0 x1 (w64 (x2-1)) (gl (List.drop 1 r0)) (gn (tk 1 (List.drop 1 r0))) (gn (tk 2 (List.drop 1 r0))) (List.append x6 [[(.int (Go.IntKind.wrap .u8 (w64 (97+(Int.tmod (gn r0) 4)))))]]))else none)else(bif(fitM (Nat.succ (len x6)) 1)then(Z6X x0 x1 (w64 (x2-1)) (gl (List.drop 1 r0)) (gn (tk 1 (List.drop 1 r0))) (gn (tk 2 (List.drop 1 r0))) (List.append x6 [[(.int (Go.IntKind.wrap .u8 (gn r0)))]]))else none)))))else(some [(.str (strOf x6)),(.sl x3),(.int x4),(.int x5)])):=(loopK_run (by kernel_rfl)).trans (by kernel_rfl)
theorem ZDp (a0:Rows) (a1 a2 a3:Int):callI tE Z9L [.sl a0,.int a1,.int a2,.int a3]=(((callI tE Z5m [(.sl a0),(.int a1),(.int a2),(.int 4)])).bind (fun r0=>(((callI tE Z5m [(.sl (gl (List.drop 1 r0))),(.int (gn (tk 1 (List.drop 1 r0)))),(.int (gn (tk 2 (List.drop 1 r0)))),(.int (w64 (a3+1)))])).bind (fun r1=>(Z6X 0 (gn r0) (gn r1) (gl (List.drop 1 r1)) (gn (tk 1 (List.drop 1 r1))) (gn (tk 2 (List.drop 1 r1))) []))))):=(callI_run rfl (by kernel_rfl)).trans (by kernel_rfl)
theorem ZDK (a0:Rows) (a1 a2:Int) (a3:ByteArray):callI tE Z9w [.sl a0,.int a1,.int a2,.str a3]=(bif(eqI (szI a3) 0)then(((callI tE Z9L [(.sl a0),(.int a1),(.int a2),(.int 3)])).bind (fun r0=>(some [(.str (gs r0)),(.sl (gl (List.drop 1 r0))),(.int (gn (tk 1 (List.drop 1 r0)))),(.int (gn (tk 2 (List.drop 1 r0))))])))else(((callI tE Z5m [(.sl a0),(.int a1),(.int a2),(.int (szI a3))])).bind (fun r0=>(((callI tE Z5m [(.sl (gl (List.drop 1 r0))),(.int (gn (tk 1 (List.drop 1 r0)))),(.int (gn (tk 2 (List.drop 1 r0)))),(.int 4)])).bind (fun r1=>(bif(eqI (gn r1) 0)then(bif((leI 0 (gn r0))&&(leI (gn r0) (szI a3)))then(bif((leI 0 (w64 ((gn r0)+1)))&&(leI (w64 ((gn r0)+1)) (szI a3)))then(bif(fitS (ext a3 0 (tn (gn r0))) (ext a3 (tn (w64 ((gn r0)+1))) (ByteArray.size a3)))then(some [(.str ((ext a3 0 (tn (gn r0)))++(ext a3 (tn (w64 ((gn r0)+1))) (ByteArray.size a3)))),(.sl (gl (List.drop 1 r1))),(.int (gn (tk 1 (List.drop 1 r1)))),(.int (gn (tk 2 (List.drop 1 r1))))])else none)else none)else none)else(bif(eqI (gn r1) 1)then(bif((leI 0 (gn r0))&&(leI (gn r0) (szI a3)))then(((callI tE Z6g [(.sl (gl (List.drop 1 r1))),(.int (gn (tk 1 (List.drop 1 r1)))),(.int (gn (tk 2 (List.drop 1 r1))))])).bind (fun r2=>(bif(fitS (ext a3 0 (tn (gn r0))) (strOf [[(.int (Go.IntKind.wrap .u8 (gn r2)))]]))then(bif((leI 0 (gn r0))&&(leI (gn r0) (szI a3)))then(bif(fitS ((ext a3 0 (tn (gn r0)))++(strOf [[(.int (Go.IntKind.wrap .u8 (gn r2)))]])) (ext a3 (tn (gn r0)) (ByteArray.size a3)))then(some [(.str (((ext a3 0 (tn (gn r0)))++(strOf [[(.int (Go.IntKind.wrap .u8 (gn r2)))]]))++(ext a3 (tn (gn r0)) (ByteArray.size a3)))),(.sl (gl (List.drop 1 r2))),(.int (gn (tk 1 (List.drop 1 r2)))),(.int (gn (tk 2 (List.drop 1 r2))))])else none)else none)else none)))else none)else(bif(eqI (gn r1) 2)then(bif((leI 0 (gn r0))&&(leI (gn r0) (szI a3)))then(some [(.str (ext a3 0 (tn (gn r0)))),(.sl (gl (List.drop 1 r1))),(.int (gn (tk 1 (List.drop 1 r1)))),(.int (gn (tk 2 (List.drop 1 r1))))])else none)else(bif((leI 0 (gn r0))&&(leI (gn r0) (szI a3)))then(bif(inR (gn r0) (szI a3))then(((callI tE Z5m [(.sl (gl (List.drop 1 r1))),(.int (gn (tk 1 (List.drop 1 r1)))),(.int (gn (tk 2 (List.drop 1 r1)))),(.int 255)])).bind (fun r2=>(bif(fitS (ext a3 0 (tn (gn r0))) (strOf [[(.int (Go.IntKind.wrap .u8 (Go.bits Go.BinOp.xor .i64 (w64 (byteAt a3 (gn r0))) (w64 (1+(gn r2))))))]]))then(bif((leI 0 (w64 ((gn r0)+1)))&&(leI (w64 ((gn r0)+1)) (szI a3)))then(bif(fitS ((ext a3 0 (tn (gn r0)))++(strOf [[(.int (Go.IntKind.wrap .u8 (Go.bits Go.BinOp.xor .i64 (w64 (byteAt a3 (gn r0))) (w64 (1+(gn r2))))))]])) (ext a3 (tn (w64 ((gn r0)+1))) (ByteArray.size a3)))then(some [(.str (((ext a3 0 (tn (gn r0)))++(strOf [[(.int (Go.IntKind.wrap .u8 (Go.bits Go.BinOp.xor .i64 (w64 (byteAt a3 (gn r0))) (w64 (1+(gn r2))))))]]))++(ext a3 (tn (w64 ((gn r0)+1))) (ByteArray.size a3)))),(.sl (gl (List.drop 1 r2))),(.int (gn (tk 1 (List.drop 1 r2)))),(.int (gn (tk 2 (List.drop 1 r2))))])else none)else none)else none)))else none)else none))))))))):=(callI_run rfl (by kernel_rfl)).trans (by kernel_rfl)
noncomputable def Z7q (x0 x1:Rows) (x2:Int):Option (List Dat):=loopK tE Z8M 0 ⟨[(0,(.ro 224 Bool.false x0)),(1,(.ro 224 Bool.false x1)),(5,(.i .i64 x2))],[]⟩
theorem Z98 (x0 x1:Rows) (x2:Int):Z7q x0 x1 x2=(bif(ltI x2 (lenI x0))then(bif(inR x2 (lenI x0))then(bif(inR x2 (lenI x1))then(bif(!((eqI (gn (at' x0 (tn x2))) (gn (at' x1 (tn x2))))&&((eqI (gn (tk 1 (at' x0 (tn x2)))) (gn (tk 1 (at' x1 (tn x2)))))&&((eqI (gn (tk 2 (at' x0 (tn x2)))) (gn (tk 2 (at' x1 (tn x2)))))&&Bool.true))))then(some [(.bool Bool.false)])else(Z7q x0 x1 (w64 (x2+1))))else none)else none)else(some [(.bool Bool.true)])):=(loopK_run (by kernel_rfl)).trans (by kernel_rfl)
theorem ZCT (a0 a1:Rows):callI tE Z8M [.sl a0,.sl a1]=(bif(!(eqI (lenI a0) (lenI a1)))then(some [(.bool Bool.false)])else(Z7q a0 a1 0)):=(callI_run rfl (by kernel_rfl)).trans (by kernel_rfl)
noncomputable def Z7r (x0 x1 x2 x3:Int) (x4:Rows) (x5 x6 x7 x8 x9 x10 x11 x12 x13 x14 x15 x16:Int) (x17 x18 x19 x20 x21 x22 x23 x24 x25 x26 x27 x28:Rows):Option (List Dat):=loopK tE Z7j 0 ⟨[(0,(.ptr (1000000,0) x0 0)),(2,(.ptr (500001,0) x1 0)),(5,(.ptr (500002,0) x2 0)),(6,(.i .i64 x3))],[((1000000,0),(.box 305 [(.ro 5 Bool.false x4),(.i .i64 x5),(.i .i64 x6)])),((500001,0),(.box 128 [(.own (500003,0)),(.i .i64 x7),(.own (500004,0)),(.own (500005,0)),(.own (500006,0)),(.own (500007,0)),(.i .i64 x8),(.i .i64 x9),(.i .i64 x10),(.i .i64 x11),(.own (500008,0))])),((500002,0),(.box 128 [(.own (500009,0)),(.i .i64 x12),(.own (500010,0)),(.own (500011,0)),(.own (500012,0)),(.own (500013,0)),(.i .i64 x13),(.i .i64 x14),(.i .i64 x15),(.i .i64 x16),(.own (500014,0))])),((500003,0),(.row 224 x17 Bool.true 0 [])),((500004,0),(.row 224 x18 Bool.true 0 [])),((500005,0),(.row 224 x19 Bool.true 0 [])),((500006,0),(.row 224 x20 Bool.true 0 [])),((500007,0),(.row 277 x21 Bool.true 0 [])),((500008,0),(.row 224 x22 Bool.true 0 [])),((500009,0),(.row 224 x23 Bool.true 0 [])),((500010,0),(.row 224 x24 Bool.true 0 [])),((500011,0),(.row 224 x25 Bool.true 0 [])),((500012,0),(.row 224 x26 Bool.true 0 [])),((500013,0),(.row 277 x27 Bool.true 0 [])),((500014,0),(.row 224 x28 Bool.true 0 []))]⟩
theorem Z99 (x0 x1 x2 x3:Int) (x4:Rows) (x5 x6 x7 x8 x9 x10 x11 x12 x13 x14 x15 x16:Int) (x17 x18 x19 x20 x21 x22 x23 x24 x25 x26 x27 x28:Rows):Z7r x0 x1 x2 x3 x4 x5 x6 x7 x8 x9 x10 x11 x12 x13 x14 x15 x16 x17 x18 x19 x20 x21 x22 x23 x24 x25 x26 x27 x28=(bif(ltI 0 x3)then(((callI tE Z8b [(.sl x23),(.int x12),(.sl x24),(.sl x25),(.sl x26),(.sl x27),(.int x13),(.int x14),(.int x15),(.int x16),(.int 8)])).bind (fun r0=>(bif(fitM ((len x28)+(len (gl (tk 10 r0)))) 24)then(Z7r x0 x1 x2 (w64 (x3-1)) x4 x5 x6 x7 x8 x9 x10 x11 (gn (tk 1 r0)) (gn (tk 6 r0)) (gn (tk 7 r0)) (gn (tk 8 r0)) (gn (tk 9 r0)) x17 x18 x19 x20 x21 x22 (gl r0) (gl (tk 2 r0)) (gl (tk 3 r0)) (gl (tk 4 r0)) (gl (tk 5 r0)) (List.append x28 (gl (tk 10 r0))))else none)))else(((callI tE Z9K [(.sl x4),(.int x5),(.int x6),(.int 8)])).bind (fun r0=>(bif(gb r0)then(((callI tE Z8K [(.sl (gl (List.drop 1 r0))),(.int (gn (tk 1 (List.drop 1 r0)))),(.int (gn (tk 2 (List.drop 1 r0)))),(.int 3)])).bind (fun r1=>(some [(.sl x23),(.int x12),(.sl x24),(.sl x25),(.sl x26),(.sl x27),(.int x13),(.int x14),(.int x15),(.int x16),(.sl (gl r1)),(.sl (gl (List.drop 1 r1))),(.int (gn (tk 1 (List.drop 1 r1)))),(.int (gn (tk 2 (List.drop 1 r1))))])))else(some [(.sl x23),(.int x12),(.sl x24),(.sl x25),(.sl x26),(.sl x27),(.int x13),(.int x14),(.int x15),(.int x16),(.sl x28),(.sl (gl (List.drop 1 r0))),(.int (gn (tk 1 (List.drop 1 r0)))),(.int (gn (tk 2 (List.drop 1 r0))))]))))):=(loopK_run (by kernel_rfl)).trans (by kernel_rfl)
theorem ZCU (a0:Rows) (a1 a2:Int):callI tE Z7j [.sl a0,.int a1,.int a2]=(((callI tE Z8K [(.sl a0),(.int a1),(.int a2),(.int 6)])).bind (fun r0=>(((callI tE Z91 [(.sl (gl r0))])).bind (fun r1=>(((callI tE Z5m [(.sl (gl (List.drop 1 r0))),(.int (gn (tk 1 (List.drop 1 r0)))),(.int (gn (tk 2 (List.drop 1 r0)))),(.int 60)])).bind (fun r2=>(Z7r 0 0 0 (gn r2) (gl (List.drop 1 r2)) (gn (tk 1 (List.drop 1 r2))) (gn (tk 2 (List.drop 1 r2))) 0 0 0 0 0 (gn (tk 1 r1)) (gn (tk 6 r1)) (gn (tk 7 r1)) (gn (tk 8 r1)) (gn (tk 9 r1)) [] [] [] [] [] [] (gl r1) (gl (tk 2 r1)) (gl (tk 3 r1)) (gl (tk 4 r1)) (gl (tk 5 r1)) []))))))):=(callI_run rfl (by kernel_rfl)).trans (by kernel_rfl)
theorem Z9W (a0:Rows):callI tE Z6u [.sl a0]=(((callI tE Z8s [(.sl a0)])).bind (fun r0=>(((callI tE Z7j [(.sl (gl r0)),(.int (gn (tk 1 r0))),(.int (gn (tk 2 r0)))])).bind (fun r1=>(some [(.sl (gl r1)),(.int (gn (tk 1 r1))),(.sl (gl (tk 2 r1))),(.sl (gl (tk 3 r1))),(.sl (gl (tk 4 r1))),(.sl (gl (tk 5 r1))),(.int (gn (tk 6 r1))),(.int (gn (tk 7 r1))),(.int (gn (tk 8 r1))),(.int (gn (tk 9 r1))),(.sl (gl (tk 10 r1)))]))))):=(callI_run rfl (by kernel_rfl)).trans (by kernel_rfl)
theorem Z9h (a0:Rows):callI tE Z6x [.sl a0]=(((callI tE Z8s [(.sl a0)])).bind (fun r0=>(((callI tE Z7j [(.sl (gl r0)),(.int (gn (tk 1 r0))),(.int (gn (tk 2 r0)))])).bind (fun r1=>(((callI tE Z6h [(.sl (gl r1)),(.int (gn (tk 1 r1))),(.sl (gl (tk 2 r1))),(.sl (gl (tk 3 r1))),(.sl (gl (tk 4 r1))),(.sl (gl (tk 5 r1))),(.int (gn (tk 6 r1))),(.int (gn (tk 7 r1))),(.int (gn (tk 8 r1))),(.int (gn (tk 9 r1))),(.sl (gl (tk 10 r1)))])).bind (fun r2=>(((callI tE Z9K [(.sl (gl (List.drop 11 r1))),(.int (gn (tk 1 (List.drop 11 r1)))),(.int (gn (tk 2 (List.drop 11 r1)))),(.int 3)])).bind (fun r3=>(bif(gb r3)then(((callI tE Z9w [(.sl (gl (List.drop 1 r3))),(.int (gn (tk 1 (List.drop 1 r3)))),(.int (gn (tk 2 (List.drop 1 r3)))),(.str (gs r2))])).bind (fun r4=>(some [(.str (gs r4))])))else(some [(.str (gs r2))])))))))))):=(callI_run rfl (by kernel_rfl)).trans (by kernel_rfl)
theorem ZEt (a0 a1 a2:Int):callI tE Z7F [.int a0,.int a1,.int a2]=(bif(leI a1 a0)then(some [(.bool (leI a0 a2))])else(some [(.bool Bool.false)])):=(callI_run rfl (by kernel_rfl)).trans (by kernel_rfl)
theorem ZBc (a0 a1 a2:Int):callI tE Z7H [.int a0,.int a1,.int a2]=(((callI tE Z7F [(.int a0),(.int 0),(.int 9)])).bind (fun r0=>(bif(gb r0)then(((callI tE Z7F [(.int a1),(.int 0),(.int 99)])).bind (fun r1=>(bif(gb r1)then(((callI tE Z7F [(.int a2),(.int 0),(.int 3)])).bind (fun r2=>(some [(.bool (gb r2))])))else(some [(.bool Bool.false)]))))else(some [(.bool Bool.false)])))):=(callI_run rfl (by kernel_rfl)).trans (by kernel_rfl)
noncomputable def Z72 (x0:Rows) (x1:Int):Option (List Dat):=loopK tE Z5i 0 ⟨[(0,(.ro 224 Bool.false x0)),(3,(.i .i64 x1))],[]⟩
theorem Z8C (x0:Rows) (x1:Int):Z72 x0 x1=(bif(ltI x1 (lenI x0))then(bif(inR x1 (lenI x0))then(((callI tE Z7H [(.int (gn (at' x0 (tn x1)))),(.int (gn (tk 1 (at' x0 (tn x1))))),(.int (gn (tk 2 (at' x0 (tn x1)))))])).bind (fun r0=>(bif(!(gb r0))then(some [(.bool Bool.false)])else(Z72 x0 (w64 (x1+1))))))else none)else(some [(.bool (leI (lenI x0) 24))])):=(loopK_run (by kernel_rfl)).trans (by kernel_rfl)
theorem ZB0 (a0:Rows):callI tE Z5i [.sl a0]=(Z72 a0 0):=(callI_run rfl (by kernel_rfl)).trans (by kernel_rfl)
theorem ZDL (a0 a1 a2:Int):callI tE Z5l [.int a0,.int a1,.int a2]=(((callI tE Z7H [(.int a0),(.int a1),(.int a2)])).bind (fun r0=>(bif(!(gb r0))then(some [(.int 0)])else(some [(.int (w64 (1+a2)))])))):=(callI_run rfl (by kernel_rfl)).trans (by kernel_rfl)
noncomputable def Z73 (x0:Rows) (x1 x2:Int):Option (List Dat):=loopK tE Z6M 0 ⟨[(0,(.ro 224 Bool.false x0)),(3,(.i .i64 x1)),(4,(.i .i64 x2))],[]⟩
theorem Z8t (x0:Rows) (x1 x2:Int):Z73 x0 x1 x2=(bif(ltI x2 (lenI x0))then(bif(inR x2 (lenI x0))then(((callI tE Z5l [(.int (gn (at' x0 (tn x2)))),(.int (gn (tk 1 (at' x0 (tn x2))))),(.int (gn (tk 2 (at' x0 (tn x2)))))])).bind (fun r0=>(Z73 x0 (w64 (x1+(gn r0))) (w64 (x2+1)))))else none)else(some [(.int x1)])):=(loopK_run (by kernel_rfl)).trans (by kernel_rfl)
theorem ZC5 (a0:Rows):callI tE Z6M [.sl a0]=(Z73 a0 0 0):=(callI_run rfl (by kernel_rfl)).trans (by kernel_rfl)
noncomputable def Z6K (x0:Int) (x1 x2:Rows):Option (List Dat):=loopK tE Z5e 0 ⟨[(5,(.own (500000,0))),(6,(.own (500001,0))),(7,(.i .i64 x0))],[((500000,0),(.row 3 x1 Bool.true 0 [])),((500001,0),(.row 3 x2 Bool.true 0 []))]⟩
theorem Z8O (x0:Int) (x1 x2:Rows):Z6K x0 x1 x2=(bif(ltI x0 3)then(bif(inR x0 (lenI x1))then(bif(inR x0 (lenI x2))then(bif(ltI (gn (at' x1 (tn x0))) (gn (at' x2 (tn x0))))then(some [(.int (-1))])else(bif(inR x0 (lenI x1))then(bif(inR x0 (lenI x2))then(bif(ltI (gn (at' x2 (tn x0))) (gn (at' x1 (tn x0))))then(some [(.int 1)])else(Z6K (w64 (x0+1)) x1 x2))else none)else none))else none)else none)else(some [(.int 0)])):=(loopK_run (by kernel_rfl)).trans (by kernel_rfl)
theorem ZBC (a0 a1 a2 a3 a4 a5:Int):callI tE Z5e [.int a0,.int a1,.int a2,.int a3,.int a4,.int a5]=(Z6K 0 [[(.int a0)],[(.int a1)],[(.int a2)]] [[(.int a3)],[(.int a4)],[(.int a5)]]):=(callI_run rfl (by kernel_rfl)).trans (by kernel_rfl)
noncomputable def Z8P (x0 x1:Rows) (x2:Int):Option (List Dat):=loopK tE Z6H 0 ⟨[(0,(.ro 224 Bool.false x0)),(1,(.ro 224 Bool.false x1)),(5,(.i .i64 x2))],[]⟩
theorem Z9n (x0 x1:Rows) (x2:Int):Z8P x0 x1 x2=(bif(ltI x2 (lenI x0))then(bif(inR x2 (lenI x0))then(bif(inR x2 (lenI x1))then(bif(!((eqI (gn (at' x0 (tn x2))) (gn (at' x1 (tn x2))))&&((eqI (gn (tk 1 (at' x0 (tn x2)))) (gn (tk 1 (at' x1 (tn x2)))))&&((eqI (gn (tk 2 (at' x0 (tn x2)))) (gn (tk 2 (at' x1 (tn x2)))))&&Bool.true))))then(some [(.bool Bool.false)])else(Z8P x0 x1 (w64 (x2+1))))else none)else none)else(some [(.bool Bool.true)])):=(loopK_run (by kernel_rfl)).trans (by kernel_rfl)
theorem ZDq (a0 a1:Rows):callI tE Z6H [.sl a0,.sl a1]=(bif(!(eqI (lenI a0) (lenI a1)))then(some [(.bool Bool.false)])else(Z8P a0 a1 0)):=(callI_run rfl (by kernel_rfl)).trans (by kernel_rfl)
noncomputable def Z7s (x0:Rows) (x1:Int):Option (List Dat):=loopK tE Z7g 0 ⟨[(0,(.ro 224 Bool.false x0)),(3,(.i .i64 x1))],[]⟩
theorem Z81 (x0:Rows) (x1:Int):Z7s x0 x1=(bif(ltI x1 (lenI x0))then(bif(inR (w64 (x1-1)) (lenI x0))then(bif(inR x1 (lenI x0))then(((callI tE Z5e [(.int (gn (at' x0 (tn (w64 (x1-1)))))),(.int (gn (tk 1 (at' x0 (tn (w64 (x1-1))))))),(.int (gn (tk 2 (at' x0 (tn (w64 (x1-1))))))),(.int (gn (at' x0 (tn x1)))),(.int (gn (tk 1 (at' x0 (tn x1))))),(.int (gn (tk 2 (at' x0 (tn x1)))))])).bind (fun r0=>(bif(ltI 0 (gn r0))then(some [(.bool Bool.false)])else(Z7s x0 (w64 (x1+1))))))else none)else none)else(some [(.bool Bool.true)])):=(loopK_run (by kernel_rfl)).trans (by kernel_rfl)
theorem ZCV (a0:Rows):callI tE Z7g [.sl a0]=(Z7s a0 1):=(callI_run rfl (by kernel_rfl)).trans (by kernel_rfl)
noncomputable def Z6D (x0:Rows) (x1:Int) (x2:Rows):Option (List Dat):=loopK tE Z6W 0 ⟨[(0,(.ro 224 Bool.false x0)),(3,(.own (500000,0))),(4,(.i .i64 x1))],[((500000,0),(.row 224 x2 Bool.true 0 []))]⟩
noncomputable def Z7t (x0:Rows) (x1 x2:Int) (x3:Rows):Option (List Dat):=loopK tE Z6W 1 ⟨[(0,(.ro 224 Bool.false x0)),(3,(.own (500000,0))),(4,(.i .i64 x1)),(5,(.i .i64 x2))],[((500000,0),(.row 224 x3 Bool.true 0 []))]⟩
theorem Z9A (x0:Rows) (x1:Int) (x2:Rows):Z6D x0 x1 x2=(bif(ltI x1 (lenI x0))then(Z7t x0 x1 (lenI x2) x2)else(some [(.sl x2)])):=(loopK_run (by kernel_rfl)).trans (by kernel_rfl)
theorem Z9B (x0:Rows) (x1 x2:Int) (x3:Rows):Z7t x0 x1 x2 x3=(bif(ltI 0 x2)then(bif(inR (w64 (x2-1)) (lenI x3))then(bif(inR x1 (lenI x0))then(((callI tE Z5e [(.int (gn (at' x3 (tn (w64 (x2-1)))))),(.int (gn (tk 1 (at' x3 (tn (w64 (x2-1))))))),(.int (gn (tk 2 (at' x3 (tn (w64 (x2-1))))))),(.int (gn (at' x0 (tn x1)))),(.int (gn (tk 1 (at' x0 (tn x1))))),(.int (gn (tk 2 (at' x0 (tn x1)))))])).bind (fun r0=>(bif(ltI 0 (gn r0))then(Z7t x0 x1 (w64 (x2-1)) x3)else(bif(inR x1 (lenI x0))then(bif((leI 0 x2)&&(leI x2 (lenI x3)))then(bif(fitM (1+(len (List.take (tn ((lenI x3)-x2)) (List.drop (tn x2) x3)))) 24)then(bif((leI 0 x2)&&(leI x2 (lenI x3)))then(bif(fitM (0+(len (List.take (tn (x2-0)) (List.drop (tn 0) x3)))) 24)then(bif(fitM (Nat.succ ((len (List.take (tn (x2-0)) (List.drop (tn 0) x3)))+(len (List.take (tn ((lenI x3)-x2)) (List.drop (tn x2) x3))))) 24)then(Z6D x0 (w64 (x1+1)) (List.append (List.take (tn (x2-0)) (List.drop (tn 0) x3)) ([(.int (gn (at' x0 (tn x1)))),(.int (gn (tk 1 (at' x0 (tn x1))))),(.int (gn (tk 2 (at' x0 (tn x1)))))]::(List.take (tn ((lenI x3)-x2)) (List.drop (tn x2) x3)))))else none)else none)else none)else none)else none)else none))))else none)else none)else(bif(inR x1 (lenI x0))then(bif((leI 0 x2)&&(leI x2 (lenI x3)))then(bif(fitM (1+(len (List.take (tn ((lenI x3)-x2)) (List.drop (tn x2) x3)))) 24)then(bif((leI 0 x2)&&(leI x2 (lenI x3)))then(bif(fitM (0+(len (List.take (tn (x2-0)) (List.drop (tn 0) x3)))) 24)then(bif(fitM (Nat.succ ((len (List.take (tn (x2-0)) (List.drop (tn 0) x3)))+(len (List.take (tn ((lenI x3)-x2)) (List.drop (tn x2) x3))))) 24)then(Z6D x0 (w64 (x1+1)) (List.append (List.take (tn (x2-0)) (List.drop (tn 0) x3)) ([(.int (gn (at' x0 (tn x1)))),(.int (gn (tk 1 (at' x0 (tn x1))))),(.int (gn (tk 2 (at' x0 (tn x1)))))]::(List.take (tn ((lenI x3)-x2)) (List.drop (tn x2) x3)))))else none)else none)else none)else none)else none)else none)):=(loopK_run (by kernel_rfl)).trans (by kernel_rfl)
theorem ZCW (a0:Rows):callI tE Z6W [.sl a0]=(Z6D a0 0 []):=(callI_run rfl (by kernel_rfl)).trans (by kernel_rfl)
noncomputable def Z7d (x0:Int) (x1 x2:Rows):Option (List Dat):=loopK tE Z6b 0 ⟨[(5,(.own (500000,0))),(6,(.own (500001,0))),(7,(.i .i64 x0))],[((500000,0),(.row 224 x1 Bool.true 0 [])),((500001,0),(.row 224 x2 Bool.true 0 []))]⟩
theorem Z8u (x0:Int) (x1 x2:Rows):Z7d x0 x1 x2=(bif(ltI x0 (lenI x1))then(bif(inR x0 (lenI x1))then(bif(inR x0 (lenI x2))then(bif(!((eqI (gn (at' x1 (tn x0))) (gn (at' x2 (tn x0))))&&((eqI (gn (tk 1 (at' x1 (tn x0)))) (gn (tk 1 (at' x2 (tn x0)))))&&((eqI (gn (tk 2 (at' x1 (tn x0)))) (gn (tk 2 (at' x2 (tn x0)))))&&Bool.true))))then(some [(.bool Bool.false)])else(Z7d (w64 (x0+1)) x1 x2))else none)else none)else(some [(.bool Bool.true)])):=(loopK_run (by kernel_rfl)).trans (by kernel_rfl)
theorem ZC6 (a0 a1:Rows):callI tE Z6b [.sl a0,.sl a1]=(((callI tE Z6W [(.sl a0)])).bind (fun r0=>(((callI tE Z6W [(.sl a1)])).bind (fun r1=>(bif(!(eqI (lenI (gl r0)) (lenI (gl r1))))then(some [(.bool Bool.false)])else(Z7d 0 (gl r0) (gl r1))))))):=(callI_run rfl (by kernel_rfl)).trans (by kernel_rfl)
theorem ZDr (a0 a1 a2:Int):callI tE Z6f [.int a0,.int a1,.int a2]=(bif(leI a1 a0)then(some [(.bool (leI a0 a2))])else(some [(.bool Bool.false)])):=(callI_run rfl (by kernel_rfl)).trans (by kernel_rfl)
theorem ZBd (a0 a1 a2:Int):callI tE Z6o [.int a0,.int a1,.int a2]=(((callI tE Z6f [(.int a0),(.int 0),(.int 9)])).bind (fun r0=>(bif(gb r0)then(((callI tE Z6f [(.int a1),(.int 0),(.int 99)])).bind (fun r1=>(bif(gb r1)then(((callI tE Z6f [(.int a2),(.int 0),(.int 3)])).bind (fun r2=>(some [(.bool (gb r2))])))else(some [(.bool Bool.false)]))))else(some [(.bool Bool.false)])))):=(callI_run rfl (by kernel_rfl)).trans (by kernel_rfl)
theorem ZDM (a0 a1 a2:Int):callI tE Z8n [.int a0,.int a1,.int a2]=(((callI tE Z6o [(.int a0),(.int a1),(.int a2)])).bind (fun r0=>(bif(!(gb r0))then(some [(.int 0)])else(some [(.int (w64 (1+a2)))])))):=(callI_run rfl (by kernel_rfl)).trans (by kernel_rfl)
noncomputable def Z74 (x0:Int) (x1:Rows) (x2 x3:Int):Option (List Dat):=loopK tE Z7R 0 ⟨[(3,(.i .i64 x0)),(6,(.ro 224 Bool.false x1)),(7,(.i .i64 x2)),(8,(.i .i64 x3))],[]⟩
theorem Z8v (x0:Int) (x1:Rows) (x2 x3:Int):Z74 x0 x1 x2 x3=(bif(ltI x3 x2)then(bif(inR x3 (lenI x1))then(((callI tE Z8n [(.int (gn (at' x1 (tn x3)))),(.int (gn (tk 1 (at' x1 (tn x3))))),(.int (gn (tk 2 (at' x1 (tn x3)))))])).bind (fun r0=>(Z74 (w64 (x0+(gn r0))) x1 x2 (w64 (x3+1)))))else none)else(some [(.int x0)])):=(loopK_run (by kernel_rfl)).trans (by kernel_rfl)
theorem ZC7 (a0:Rows):callI tE Z7R [.sl a0]=(Z74 0 a0 (lenI a0) 0):=(callI_run rfl (by kernel_rfl)).trans (by kernel_rfl)
noncomputable def Z7u (x0:Rows) (x1 x2:Int):Option (List Dat):=loopK tE Z8J 0 ⟨[(5,(.ro 224 Bool.false x0)),(6,(.i .i64 x1)),(7,(.i .i64 x2))],[]⟩
theorem Z9C (x0:Rows) (x1 x2:Int):Z7u x0 x1 x2=(bif(ltI x2 x1)then(bif(inR x2 (lenI x0))then(((callI tE Z6o [(.int (gn (at' x0 (tn x2)))),(.int (gn (tk 1 (at' x0 (tn x2))))),(.int (gn (tk 2 (at' x0 (tn x2)))))])).bind (fun r0=>(bif(!(gb r0))then(some [(.bool Bool.false)])else(Z7u x0 x1 (w64 (x2+1))))))else none)else(some [(.bool Bool.true)])):=(loopK_run (by kernel_rfl)).trans (by kernel_rfl)
theorem ZCX (a0:Rows):callI tE Z8J [.sl a0]=(Z7u a0 (lenI a0) 0):=(callI_run rfl (by kernel_rfl)).trans (by kernel_rfl)
theorem ZB1 (a0:Rows):callI tE Z6A [.sl a0]=(bif(leI (lenI a0) 24)then(((callI tE Z8J [(.sl a0)])).bind (fun r0=>(some [(.bool (gb r0))])))else(some [(.bool Bool.false)])):=(callI_run rfl (by kernel_rfl)).trans (by kernel_rfl)
noncomputable def Z8p (x0 x1:Rows) (x2 x3:Int):Option (List Dat):=loopK tE Z7h 0 ⟨[(0,(.ro 224 Bool.false x0)),(1,(.ro 224 Bool.false x1)),(12,(.i .i64 x2)),(13,(.i .i64 x3))],[]⟩
theorem ZA1 (x0 x1:Rows) (x2 x3:Int):Z8p x0 x1 x2 x3=(bif(ltI x3 x2)then(bif(inR x3 (lenI x0))then(bif(inR x3 (lenI x1))then(bif(!((eqI (gn (at' x0 (tn x3))) (gn (at' x1 (tn x3))))&&((eqI (gn (tk 1 (at' x0 (tn x3)))) (gn (tk 1 (at' x1 (tn x3)))))&&((eqI (gn (tk 2 (at' x0 (tn x3)))) (gn (tk 2 (at' x1 (tn x3)))))&&Bool.true))))then(some [(.bool Bool.false)])else(Z8p x0 x1 x2 (w64 (x3+1))))else none)else none)else(some [(.bool Bool.true)])):=(loopK_run (by kernel_rfl)).trans (by kernel_rfl)
theorem ZEI (a0 a1:Rows):callI tE Z7h [.sl a0,.sl a1]=(bif(!(eqI (lenI a0) (lenI a1)))then(some [(.bool Bool.false)])else(Z8p a0 a1 (lenI a0) 0)):=(callI_run rfl (by kernel_rfl)).trans (by kernel_rfl)
theorem ZEJ (a0 a1:Int):callI tE Z8r [.int a0,.int a1]=(bif(ltI a0 a1)then(some [(.int (-1))])else(bif(ltI a1 a0)then(some [(.int 1)])else(some [(.int 0)]))):=(callI_run rfl (by kernel_rfl)).trans (by kernel_rfl)
theorem ZBD (a0 a1 a2 a3 a4 a5:Int):callI tE Z5h [.int a0,.int a1,.int a2,.int a3,.int a4,.int a5]=(((callI tE Z8r [(.int a0),(.int a3)])).bind (fun r0=>(bif(!(eqI (gn r0) 0))then(some [(.int (gn r0))])else(((callI tE Z8r [(.int a1),(.int a4)])).bind (fun r1=>(bif(!(eqI (gn r1) 0))then(some [(.int (gn r1))])else(((callI tE Z8r [(.int a2),(.int a5)])).bind (fun r2=>(some [(.int (gn r2))]))))))))):=(callI_run rfl (by kernel_rfl)).trans (by kernel_rfl)
noncomputable def Z7v (x0:Rows) (x1:Int):Option (List Dat):=loopK tE Z7i 0 ⟨[(0,(.ro 224 Bool.false x0)),(3,(.i .i64 x1))],[]⟩
theorem Z82 (x0:Rows) (x1:Int):Z7v x0 x1=(bif(ltI x1 (lenI x0))then(bif(inR x1 (lenI x0))then(bif(inR (w64 (x1-1)) (lenI x0))then(((callI tE Z5h [(.int (gn (at' x0 (tn x1)))),(.int (gn (tk 1 (at' x0 (tn x1))))),(.int (gn (tk 2 (at' x0 (tn x1))))),(.int (gn (at' x0 (tn (w64 (x1-1)))))),(.int (gn (tk 1 (at' x0 (tn (w64 (x1-1))))))),(.int (gn (tk 2 (at' x0 (tn (w64 (x1-1)))))))])).bind (fun r0=>(bif(ltI (gn r0) 0)then(some [(.bool Bool.false)])else(Z7v x0 (w64 (x1+1))))))else none)else none)else(some [(.bool Bool.true)])):=(loopK_run (by kernel_rfl)).trans (by kernel_rfl)
theorem ZCY (a0:Rows):callI tE Z7i [.sl a0]=(Z7v a0 1):=(callI_run rfl (by kernel_rfl)).trans (by kernel_rfl)
theorem ZEK (a0:Rows):callI tE ZAY [.sl a0]=(bif(fitM (0+(len a0)) 24)then(some [(.sl a0)])else none):=(callI_run rfl (by kernel_rfl)).trans (by kernel_rfl)
theorem ZCZ (a0:Rows):callI tE Z6r [.sl a0]=(((callI tE ZAY [(.sl a0)])).bind (fun r0=>(((callI tE Z6q [(.sl (gl r0))])).bind (fun r1=>(some [(.sl (gl r1))]))))):=(callI_run rfl (by kernel_rfl)).trans (by kernel_rfl)
theorem ZC8 (a0 a1:Rows):callI tE Z7S [.sl a0,.sl a1]=(bif(eqI (lenI a0) (lenI a1))then(((callI tE Z6r [(.sl a0)])).bind (fun r0=>(((callI tE Z6r [(.sl a1)])).bind (fun r1=>(((callI tE Z7h [(.sl (gl r0)),(.sl (gl r1))])).bind (fun r2=>(some [(.bool (gb r2))])))))))else(some [(.bool Bool.false)])):=(callI_run rfl (by kernel_rfl)).trans (by kernel_rfl)
noncomputable def Z75 (x0:Int) (x1:ByteArray) (x2:Bool):Option (List Dat):=loopK tE Z5N 0 ⟨[(0,(.i .i64 x0)),(3,(.s x1)),(4,(.b x2))],[]⟩
theorem ZAa (x0:Int) (x1:ByteArray) (x2:Bool):Z75 x0 x1 x2=(bif(!(eqI x0 0))then(bif(ltI (Int.tmod x0 10) 0)then(bif(fitS (strOf [[(.int (Go.IntKind.wrap .u8 (w64 (48+(w64 (0-(Int.tmod x0 10)))))))]]) x1)then(Z75 (w64 (Int.tdiv x0 10)) ((strOf [[(.int (Go.IntKind.wrap .u8 (w64 (48+(w64 (0-(Int.tmod x0 10)))))))]])++x1) x2)else none)else(bif(fitS (strOf [[(.int (Go.IntKind.wrap .u8 (w64 (48+(Int.tmod x0 10)))))]]) x1)then(Z75 (w64 (Int.tdiv x0 10)) ((strOf [[(.int (Go.IntKind.wrap .u8 (w64 (48+(Int.tmod x0 10)))))]])++x1) x2)else none))else(bif x2 then(bif(fitS (S [45]) x1)then(some [(.str ((S [45])++x1))])else none)else(some [(.str x1)]))):=(loopK_run (by kernel_rfl)).trans (by kernel_rfl)
theorem ZC9 (a0:Int):callI tE Z5N [.int a0]=(bif(eqI a0 0)then(some [(.str (S [48]))])else(Z75 a0 (S []) (ltI a0 0))):=(callI_run rfl (by kernel_rfl)).trans (by kernel_rfl)
theorem ZCA (a0 a1 a2:Int):callI tE Z7T [.int a0,.int a1,.int a2]=(((callI tE Z7H [(.int a0),(.int a1),(.int a2)])).bind (fun r0=>(bif(!(gb r0))then(some [(.str (S []))])else(((callI tE Z5N [(.int a0)])).bind (fun r1=>(bif(fitS (gs r1) (S [46]))then(((callI tE Z5N [(.int a1)])).bind (fun r2=>(bif(fitS ((gs r1)++(S [46])) (gs r2))then(bif(fitS (((gs r1)++(S [46]))++(gs r2)) (S [46]))then(((callI tE Z5N [(.int a2)])).bind (fun r3=>(bif(fitS ((((gs r1)++(S [46]))++(gs r2))++(S [46])) (gs r3))then(some [(.str (((((gs r1)++(S [46]))++(gs r2))++(S [46]))++(gs r3)))])else none)))else none)else none)))else none)))))):=(callI_run rfl (by kernel_rfl)).trans (by kernel_rfl)
noncomputable def Z5v (x0:Rows) (x1:ByteArray) (x2:Int):Option (List Dat):=loopK tE Z5n 0 ⟨[(0,(.ro 224 Bool.false x0)),(3,(.s x1)),(4,(.i .i64 x2))],[]⟩
theorem Z7X (x0:Rows) (x1:ByteArray) (x2:Int):Z5v x0 x1 x2=(bif(ltI x2 (lenI x0))then(((callI tE Z5i [(.sl x0)])).bind (fun r0=>(bif(gb r0)then(bif(ltI 0 x2)then(bif(fitS x1 (S [32]))then(bif(inR x2 (lenI x0))then(((callI tE Z7T [(.int (gn (at' x0 (tn x2)))),(.int (gn (tk 1 (at' x0 (tn x2))))),(.int (gn (tk 2 (at' x0 (tn x2)))))])).bind (fun r1=>(bif(fitS (x1++(S [32])) (gs r1))then(Z5v x0 ((x1++(S [32]))++(gs r1)) (w64 (x2+1)))else none)))else none)else none)else(bif(inR x2 (lenI x0))then(((callI tE Z7T [(.int (gn (at' x0 (tn x2)))),(.int (gn (tk 1 (at' x0 (tn x2))))),(.int (gn (tk 2 (at' x0 (tn x2)))))])).bind (fun r1=>(bif(fitS x1 (gs r1))then(Z5v x0 (x1++(gs r1)) (w64 (x2+1)))else none)))else none))else(some [(.str x1)]))))else(some [(.str x1)])):=(loopK_run (by kernel_rfl)).trans (by kernel_rfl)
theorem ZBe (a0:Rows):callI tE Z5n [.sl a0]=(Z5v a0 (S []) 0):=(callI_run rfl (by kernel_rfl)).trans (by kernel_rfl)
theorem ZAz (a0:Int):callI tE Z7U [.int a0]=(bif(ltI a0 10)then(some [(.str (strOf [[(.int (Go.IntKind.wrap .u8 (Go.IntKind.wrap .u64 (48+a0))))]]))])else(((callI tE Z7U [(.int (Go.IntKind.wrap .u64 (Int.tdiv a0 10)))])).bind (fun r0=>(bif(fitS (gs r0) (strOf [[(.int (Go.IntKind.wrap .u8 (Go.IntKind.wrap .u64 (48+(Int.tmod a0 10)))))]]))then(some [(.str ((gs r0)++(strOf [[(.int (Go.IntKind.wrap .u8 (Go.IntKind.wrap .u64 (48+(Int.tmod a0 10)))))]])))])else none)))):=(callI_run rfl (by kernel_rfl)).trans (by kernel_rfl)
theorem ZCB (a0:Int):callI tE Z5f [.int a0]=(bif(ltI a0 0)then(((callI tE Z7U [(.int (Go.IntKind.wrap .u64 (0-(Go.IntKind.wrap .u64 a0))))])).bind (fun r0=>(bif(fitS (S [45]) (gs r0))then(some [(.str ((S [45])++(gs r0)))])else none)))else(((callI tE Z7U [(.int (Go.IntKind.wrap .u64 a0))])).bind (fun r0=>(some [(.str (gs r0))])))):=(callI_run rfl (by kernel_rfl)).trans (by kernel_rfl)
theorem ZCC (a0 a1 a2:Int):callI tE Z92 [.int a0,.int a1,.int a2]=(((callI tE Z6o [(.int a0),(.int a1),(.int a2)])).bind (fun r0=>(bif(!(gb r0))then(some [(.str (S []))])else(((callI tE Z5f [(.int a0)])).bind (fun r1=>(bif(fitS (gs r1) (S [46]))then(((callI tE Z5f [(.int a1)])).bind (fun r2=>(bif(fitS ((gs r1)++(S [46])) (gs r2))then(bif(fitS (((gs r1)++(S [46]))++(gs r2)) (S [46]))then(((callI tE Z5f [(.int a2)])).bind (fun r3=>(bif(fitS ((((gs r1)++(S [46]))++(gs r2))++(S [46])) (gs r3))then(some [(.str (((((gs r1)++(S [46]))++(gs r2))++(S [46]))++(gs r3)))])else none)))else none)else none)))else none)))))):=(callI_run rfl (by kernel_rfl)).trans (by kernel_rfl)
noncomputable def Z6Y (x0 x1:ByteArray) (x2:Rows) (x3 x4:Int):Option (List Dat):=loopK tE Z7o 0 ⟨[(1,(.s x0)),(5,(.s x1)),(8,(.ro 9 Bool.false x2)),(9,(.i .i64 x3)),(10,(.i .i64 x4))],[]⟩
theorem Z9o (x0 x1:ByteArray) (x2:Rows) (x3 x4:Int):Z6Y x0 x1 x2 x3 x4=(bif(ltI x4 x3)then(bif(inR x4 (lenI x2))then(bif(ltI 0 x4)then(bif(fitS x1 x0)then(bif(fitS (x1++x0) (gs (at' x2 (tn x4))))then(Z6Y x0 ((x1++x0)++(gs (at' x2 (tn x4)))) x2 x3 (w64 (x4+1)))else none)else none)else(bif(fitS x1 (gs (at' x2 (tn x4))))then(Z6Y x0 (x1++(gs (at' x2 (tn x4)))) x2 x3 (w64 (x4+1)))else none))else none)else(some [(.str x1)])):=(loopK_run (by kernel_rfl)).trans (by kernel_rfl)
theorem ZDs (a0:Rows) (a1:ByteArray):callI tE Z7o [.sl a0,.str a1]=(Z6Y a1 (S []) a0 (lenI a0) 0):=(callI_run rfl (by kernel_rfl)).trans (by kernel_rfl)
noncomputable def Z6Q (x0:Rows) (x1 x2:Int) (x3:Rows):Option (List Dat):=loopK tE Z6s 0 ⟨[(3,(.own (500000,0))),(7,(.ro 224 Bool.false x0)),(8,(.i .i64 x1)),(9,(.i .i64 x2))],[((500000,0),(.row 9 x3 Bool.true 0 []))]⟩
theorem Z9D (x0:Rows) (x1 x2:Int) (x3:Rows):Z6Q x0 x1 x2 x3=(bif(ltI x2 x1)then(bif(inR x2 (lenI x0))then(((callI tE Z92 [(.int (gn (at' x0 (tn x2)))),(.int (gn (tk 1 (at' x0 (tn x2))))),(.int (gn (tk 2 (at' x0 (tn x2)))))])).bind (fun r0=>(bif(fitM (Nat.succ (len x3)) 16)then(Z6Q x0 x1 (w64 (x2+1)) (List.append x3 [[(.str (gs r0))]]))else none)))else none)else(((callI tE Z7o [(.sl x3),(.str (S [32]))])).bind (fun r0=>(some [(.str (gs r0))])))):=(loopK_run (by kernel_rfl)).trans (by kernel_rfl)
theorem ZCa (a0:Rows):callI tE Z6s [.sl a0]=(Z6Q a0 (lenI a0) 0 []):=(callI_run rfl (by kernel_rfl)).trans (by kernel_rfl)
theorem ZBf (a0:Rows):callI tE Z7J [.sl a0]=(((callI tE Z6A [(.sl a0)])).bind (fun r0=>(bif(!(gb r0))then(some [(.str (S []))])else(((callI tE Z6s [(.sl a0)])).bind (fun r1=>(some [(.str (gs r1))])))))):=(callI_run rfl (by kernel_rfl)).trans (by kernel_rfl)
noncomputable def Z7L (x0:ByteArray) (x1 x2 x3 x4:Int) (x5:Rows):Option (List Dat):=loopK tE Z8B 0 ⟨[(0,(.s x0)),(1,(.i .u8 x1)),(5,(.own (500000,0))),(6,(.i .i64 x2)),(10,(.i .i64 x3)),(11,(.i .i64 x4))],[((500000,0),(.row 9 x5 Bool.true 0 []))]⟩
theorem ZAb (x0:ByteArray) (x1 x2 x3 x4:Int) (x5:Rows):Z7L x0 x1 x2 x3 x4 x5=(bif(ltI x4 x3)then(bif(inR x4 (szI x0))then(bif(eqI (byteAt x0 x4) x1)then(bif(in3 x2 x4 (szI x0))then(bif(fitM (Nat.succ (len x5)) 16)then(Z7L x0 x1 (w64 (x4+1)) x3 (w64 (x4+1)) (List.append x5 [[(.str (ext x0 (tn x2) (tn x4)))]]))else none)else none)else(Z7L x0 x1 x2 x3 (w64 (x4+1)) x5))else none)else(bif((leI 0 x2)&&(leI x2 (szI x0)))then(bif(fitM (Nat.succ (len x5)) 16)then(some [(.sl (List.append x5 [[(.str (ext x0 (tn x2) (ByteArray.size x0)))]]))])else none)else none)):=(loopK_run (by kernel_rfl)).trans (by kernel_rfl)
theorem ZFt (a0:ByteArray) (a1:Int):callI tE Z8B [.str a0,.int a1]=(Z7L a0 a1 0 (szI a0) 0 []):=(callI_run rfl (by kernel_rfl)).trans (by kernel_rfl)
noncomputable def Z5b (x0 x1:ByteArray) (x2 x3 x4:Int):Option (List Dat):=loopK tE Z6t 0 ⟨[(0,(.s x0)),(4,(.s x1)),(5,(.i .i64 x2)),(27,(.i .i64 x3)),(28,(.i .i64 x4))],[]⟩
theorem Z9E (x0 x1:ByteArray) (x2 x3 x4:Int):Z5b x0 x1 x2 x3 x4=(bif(ltI x4 x3)then(bif(inR x4 (szI x1))then(bif(ltI (byteAt x1 x4) 48)then(some [(.int 0),(.bool Bool.false)])else(bif(inR x4 (szI x1))then(bif(ltI 57 (byteAt x1 x4))then(some [(.int 0),(.bool Bool.false)])else(bif(inR x4 (szI x1))then(Z5b x0 x1 (w64 ((w64 (10*x2))+(w64 (Go.IntKind.wrap .u8 ((byteAt x1 x4)-48))))) x3 (w64 (x4+1)))else none))else none))else none)else(bif(ltI (szI x1) (szI x0))then(((callI tE Z5f [(.int (w64 (0-x2)))])).bind (fun r0=>(bif(!(eqS (gs r0) x0))then(some [(.int 0),(.bool Bool.false)])else(some [(.int (w64 (0-x2))),(.bool Bool.true)]))))else(((callI tE Z5f [(.int x2)])).bind (fun r0=>(bif(!(eqS (gs r0) x0))then(some [(.int 0),(.bool Bool.false)])else(some [(.int x2),(.bool Bool.true)])))))):=(loopK_run (by kernel_rfl)).trans (by kernel_rfl)
theorem ZCb (a0:ByteArray):callI tE Z6t [.str a0]=(bif(ltI 0 (szI a0))then(bif(inR 0 (szI a0))then(bif(eqI (byteAt a0 0) 45)then(bif((leI 0 1)&&(leI 1 (szI a0)))then(bif(ltI (szI (ext a0 (tn 1) (ByteArray.size a0))) 1)then(some [(.int 0),(.bool Bool.false)])else(bif(ltI 9 (szI (ext a0 (tn 1) (ByteArray.size a0))))then(some [(.int 0),(.bool Bool.false)])else(Z5b a0 (ext a0 (tn 1) (ByteArray.size a0)) 0 (szI (ext a0 (tn 1) (ByteArray.size a0))) 0)))else none)else(bif(ltI (szI a0) 1)then(some [(.int 0),(.bool Bool.false)])else(bif(ltI 9 (szI a0))then(some [(.int 0),(.bool Bool.false)])else(Z5b a0 a0 0 (szI a0) 0))))else none)else(bif(ltI (szI a0) 1)then(some [(.int 0),(.bool Bool.false)])else(bif(ltI 9 (szI a0))then(some [(.int 0),(.bool Bool.false)])else(Z5b a0 a0 0 (szI a0) 0)))):=(callI_run rfl (by kernel_rfl)).trans (by kernel_rfl)
theorem ZCc (a0:ByteArray):callI tE Z9U [.str a0]=(((callI tE Z8B [(.str a0),(.int 46)])).bind (fun r0=>(bif(!(eqI (lenI (gl r0)) 3))then(some [(.int 0),(.int 0),(.int 0),(.bool Bool.false)])else(bif(inR 0 (lenI (gl r0)))then(((callI tE Z6t [(.str (gs (at' (gl r0) (tn 0))))])).bind (fun r1=>(bif(inR 1 (lenI (gl r0)))then(((callI tE Z6t [(.str (gs (at' (gl r0) (tn 1))))])).bind (fun r2=>(bif(inR 2 (lenI (gl r0)))then(((callI tE Z6t [(.str (gs (at' (gl r0) (tn 2))))])).bind (fun r3=>(bif(!(gb (tk 1 r1)))then(some [(.int 0),(.int 0),(.int 0),(.bool Bool.false)])else(bif(!(gb (tk 1 r2)))then(some [(.int 0),(.int 0),(.int 0),(.bool Bool.false)])else(bif(!(gb (tk 1 r3)))then(some [(.int 0),(.int 0),(.int 0),(.bool Bool.false)])else(((callI tE Z6o [(.int (gn r1)),(.int (gn r2)),(.int (gn r3))])).bind (fun r4=>(bif(!(gb r4))then(some [(.int 0),(.int 0),(.int 0),(.bool Bool.false)])else(some [(.int (gn r1)),(.int (gn r2)),(.int (gn r3)),(.bool Bool.true)])))))))))else none)))else none)))else none)))):=(callI_run rfl (by kernel_rfl)).trans (by kernel_rfl)
noncomputable def Z5p (x0 x1:Int) (x2 x3:Rows):Option (List Dat):=loopK tE Z6y 0 ⟨[(4,(.own (500000,0))),(13,(.own (500001,0))),(14,(.i .i64 x0)),(15,(.i .i64 x1))],[((500000,0),(.row 224 x2 Bool.true 0 [])),((500001,0),(.row 9 x3 Bool.true 0 []))]⟩
theorem Z8w (x0 x1:Int) (x2 x3:Rows):Z5p x0 x1 x2 x3=(bif(ltI x1 x0)then(bif(inR x1 (lenI x3))then(((callI tE Z9U [(.str (gs (at' x3 (tn x1))))])).bind (fun r0=>(bif(!(gb (tk 3 r0)))then(some [(.sl []),(.bool Bool.false)])else(bif(fitM (Nat.succ (len x2)) 24)then(Z5p x0 (w64 (x1+1)) (List.append x2 [[(.int (gn r0)),(.int (gn (tk 1 r0))),(.int (gn (tk 2 r0)))]]) x3)else none))))else none)else(((callI tE Z6A [(.sl x2)])).bind (fun r0=>(bif(!(gb r0))then(some [(.sl []),(.bool Bool.false)])else(some [(.sl x2),(.bool Bool.true)]))))):=(loopK_run (by kernel_rfl)).trans (by kernel_rfl)
theorem ZCD (a0:ByteArray):callI tE Z6y [.str a0]=(bif(eqS a0 (S []))then(some [(.sl []),(.bool Bool.true)])else(((callI tE Z8B [(.str a0),(.int 32)])).bind (fun r0=>(Z5p (lenI (gl r0)) 0 [] (gl r0))))):=(callI_run rfl (by kernel_rfl)).trans (by kernel_rfl)
noncomputable def Z6n (x0:ByteArray) (x1 x2 x3:Int) (x4:Rows):Option (List Dat):=loopK tE Z71 0 ⟨[(0,(.s x0)),(1,(.i .u8 x1)),(5,(.own (500000,0))),(6,(.i .i64 x2)),(7,(.i .i64 x3))],[((500000,0),(.row 9 x4 Bool.true 0 []))]⟩
theorem ZA2 (x0:ByteArray) (x1 x2 x3:Int) (x4:Rows):Z6n x0 x1 x2 x3 x4=(bif(ltI x3 (szI x0))then(bif(inR x3 (szI x0))then(bif(eqI (byteAt x0 x3) x1)then(bif(in3 x2 x3 (szI x0))then(bif(fitM (Nat.succ (len x4)) 16)then(Z6n x0 x1 (w64 (x3+1)) (w64 (x3+1)) (List.append x4 [[(.str (ext x0 (tn x2) (tn x3)))]]))else none)else none)else(Z6n x0 x1 x2 (w64 (x3+1)) x4))else none)else(bif((leI 0 x2)&&(leI x2 (szI x0)))then(bif(fitM (Nat.succ (len x4)) 16)then(some [(.sl (List.append x4 [[(.str (ext x0 (tn x2) (ByteArray.size x0)))]]))])else none)else none)):=(loopK_run (by kernel_rfl)).trans (by kernel_rfl)
theorem ZEL (a0:ByteArray) (a1:Int):callI tE Z71 [.str a0,.int a1]=(Z6n a0 a1 0 0 []):=(callI_run rfl (by kernel_rfl)).trans (by kernel_rfl)
noncomputable def Z5c (x0:ByteArray) (x1 x2 x3:Int):Option (List Dat):=loopK tE Z5X 0 ⟨[(0,(.s x0)),(4,(.i .i64 x1)),(5,(.i .i64 x2)),(6,(.i .i64 x3))],[]⟩
theorem Z9F (x0:ByteArray) (x1 x2 x3:Int):Z5c x0 x1 x2 x3=(bif(ltI x3 (szI x0))then(bif(ltI x3 11)then(bif(inR x3 (szI x0))then(bif(leI 48 (byteAt x0 x3))then(bif(inR x3 (szI x0))then(bif(leI (byteAt x0 x3) 57)then(bif(inR x3 (szI x0))then(Z5c x0 (w64 ((w64 (x1*10))+(w64 (Go.IntKind.wrap .u8 ((byteAt x0 x3)-48))))) (w64 (x2+1)) (w64 (x3+1)))else none)else(Z5c x0 x1 x2 (w64 (x3+1))))else none)else(Z5c x0 x1 x2 (w64 (x3+1))))else none)else(bif(ltI 0 (szI x0))then(bif(inR 0 (szI x0))then(bif(eqI (byteAt x0 0) 45)then(bif(ltI 9 x2)then(some [(.int 0),(.bool Bool.false)])else(bif(ltI 10 (szI x0))then(some [(.int 0),(.bool Bool.false)])else(((callI tE Z5N [(.int (w64 (0-x1)))])).bind (fun r0=>(bif(!(eqS (gs r0) x0))then(some [(.int 0),(.bool Bool.false)])else(some [(.int (w64 (0-x1))),(.bool Bool.true)]))))))else(bif(ltI 9 x2)then(some [(.int 0),(.bool Bool.false)])else(bif(ltI 10 (szI x0))then(some [(.int 0),(.bool Bool.false)])else(((callI tE Z5N [(.int x1)])).bind (fun r0=>(bif(!(eqS (gs r0) x0))then(some [(.int 0),(.bool Bool.false)])else(some [(.int x1),(.bool Bool.true)])))))))else none)else(bif(ltI 9 x2)then(some [(.int 0),(.bool Bool.false)])else(bif(ltI 10 (szI x0))then(some [(.int 0),(.bool Bool.false)])else(((callI tE Z5N [(.int x1)])).bind (fun r0=>(bif(!(eqS (gs r0) x0))then(some [(.int 0),(.bool Bool.false)])else(some [(.int x1),(.bool Bool.true)]))))))))else(bif(ltI 0 (szI x0))then(bif(inR 0 (szI x0))then(bif(eqI (byteAt x0 0) 45)then(bif(ltI 9 x2)then(some [(.int 0),(.bool Bool.false)])else(bif(ltI 10 (szI x0))then(some [(.int 0),(.bool Bool.false)])else(((callI tE Z5N [(.int (w64 (0-x1)))])).bind (fun r0=>(bif(!(eqS (gs r0) x0))then(some [(.int 0),(.bool Bool.false)])else(some [(.int (w64 (0-x1))),(.bool Bool.true)]))))))else(bif(ltI 9 x2)then(some [(.int 0),(.bool Bool.false)])else(bif(ltI 10 (szI x0))then(some [(.int 0),(.bool Bool.false)])else(((callI tE Z5N [(.int x1)])).bind (fun r0=>(bif(!(eqS (gs r0) x0))then(some [(.int 0),(.bool Bool.false)])else(some [(.int x1),(.bool Bool.true)])))))))else none)else(bif(ltI 9 x2)then(some [(.int 0),(.bool Bool.false)])else(bif(ltI 10 (szI x0))then(some [(.int 0),(.bool Bool.false)])else(((callI tE Z5N [(.int x1)])).bind (fun r0=>(bif(!(eqS (gs r0) x0))then(some [(.int 0),(.bool Bool.false)])else(some [(.int x1),(.bool Bool.true)])))))))):=(loopK_run (by kernel_rfl)).trans (by kernel_rfl)
theorem ZCd (a0:ByteArray):callI tE Z5X [.str a0]=(Z5c a0 0 0 0):=(callI_run rfl (by kernel_rfl)).trans (by kernel_rfl)
theorem ZCe (a0:ByteArray):callI tE Z9V [.str a0]=(((callI tE Z71 [(.str a0),(.int 46)])).bind (fun r0=>(bif(!(eqI (lenI (gl r0)) 3))then(some [(.int 0),(.int 0),(.int 0),(.bool Bool.false)])else(bif(inR 0 (lenI (gl r0)))then(((callI tE Z5X [(.str (gs (at' (gl r0) (tn 0))))])).bind (fun r1=>(bif(inR 1 (lenI (gl r0)))then(((callI tE Z5X [(.str (gs (at' (gl r0) (tn 1))))])).bind (fun r2=>(bif(inR 2 (lenI (gl r0)))then(((callI tE Z5X [(.str (gs (at' (gl r0) (tn 2))))])).bind (fun r3=>(((callI tE Z7T [(.int (gn r1)),(.int (gn r2)),(.int (gn r3))])).bind (fun r4=>(bif(!(eqS (gs r4) a0))then(some [(.int 0),(.int 0),(.int 0),(.bool Bool.false)])else(some [(.int (gn r1)),(.int (gn r2)),(.int (gn r3)),(.bool Bool.true)]))))))else none)))else none)))else none)))):=(callI_run rfl (by kernel_rfl)).trans (by kernel_rfl)
noncomputable def Z5q (x0:ByteArray) (x1:Int) (x2 x3:Rows):Option (List Dat):=loopK tE Z5x 0 ⟨[(0,(.s x0)),(4,(.own (500000,0))),(5,(.own (500001,0))),(6,(.i .i64 x1))],[((500000,0),(.row 224 x2 Bool.true 0 [])),((500001,0),(.row 9 x3 Bool.true 0 []))]⟩
theorem Z7k (x0:ByteArray) (x1:Int) (x2 x3:Rows):Z5q x0 x1 x2 x3=(bif(ltI x1 (lenI x3))then(bif(!(eqS x0 (S [])))then(bif(inR x1 (lenI x3))then(((callI tE Z9V [(.str (gs (at' x3 (tn x1))))])).bind (fun r0=>(bif(!(gb (tk 3 r0)))then(some [(.sl []),(.bool Bool.false)])else(bif(fitM (Nat.succ (len x2)) 24)then(Z5q x0 (w64 (x1+1)) (List.append x2 [[(.int (gn r0)),(.int (gn (tk 1 r0))),(.int (gn (tk 2 r0)))]]) x3)else none))))else none)else(((callI tE Z5i [(.sl x2)])).bind (fun r0=>(bif(!(gb r0))then(some [(.sl []),(.bool Bool.false)])else(some [(.sl x2),(.bool Bool.true)])))))else(((callI tE Z5i [(.sl x2)])).bind (fun r0=>(bif(!(gb r0))then(some [(.sl []),(.bool Bool.false)])else(some [(.sl x2),(.bool Bool.true)]))))):=(loopK_run (by kernel_rfl)).trans (by kernel_rfl)
theorem ZCE (a0:ByteArray):callI tE Z5x [.str a0]=(((callI tE Z71 [(.str a0),(.int 32)])).bind (fun r0=>(Z5q a0 0 [] (gl r0)))):=(callI_run rfl (by kernel_rfl)).trans (by kernel_rfl)
theorem ZIH (n:Int) (r:List Dat):gn (.int n::r)=n:=rfl
theorem ZJT (b:Bool) (r:List Dat):gb (.bool b::r)=b:=rfl
theorem ZHl (s:ByteArray) (r:List Dat):gs (.str s::r)=s:=rfl
theorem ZJU (l:Rows) (r:List Dat):gl (.sl l::r)=l:=rfl
theorem ZJV (l:List Dat):tk 0 l=l:=rfl
theorem ZJW (k:Nat) (a:Dat) (l:List Dat):tk (k+1) (a::l)=tk k l:=rfl
theorem ZDV {α β:Type} (a:α) (f:α→Option β):(some a).bind f=f a:=rfl
theorem gA:(∀(n:Int) (r:List Dat),gn (.int n::r)=n)∧(∀(b:Bool) (r:List Dat),gb (.bool b::r)=b)∧(∀(s:ByteArray) (r:List Dat),gs (.str s::r)=s)∧(∀(l:Rows) (r:List Dat),gl (.sl l::r)=l)∧(∀l:List Dat,tk 0 l=l)∧(∀(k:Nat) (a:Dat) (l:List Dat),tk (k+1) (a::l)=tk k l)∧(∀{α β:Type} (a:α) (f:α→Option β),(some a).bind f=f a)∧(∀{α:Type} (k:Nat) (a:α) (l:List α),List.drop (k+1) (a::l)=List.drop k l)∧(∀{α:Type} (l:List α),List.drop 0 l=l)∧(∀{α:Type} (a d:α) (l:List α),(a::l).headD d=a)∧(∀{α:Type} (a d:α) (l:List α),(a::l).getD 0 d=a)∧∀{α:Type} (k:Nat) (a d:α) (l:List α),(a::l).getD (k+1) d=l.getD k d:=
 ⟨ZIH,ZJT,ZHl,ZJU,ZJV,ZJW,ZDV,fun _ _ _=>rfl,fun _=>rfl,fun _ _ _=>rfl,fun _ _ _=>rfl,fun _ _ _ _=>rfl⟩
theorem ltT {a b:Int} (h:a<b):ltI a b=true:=by simpa[ltI]using h
theorem ltF {a b:Int} (h:b≤a):ltI a b=false:=by simpa[ltI]using h
theorem leT {a b:Int} (h:a≤b):leI a b=true:=by simpa[leI]using h
theorem leF {a b:Int} (h:b<a):leI a b=false:=by simpa[leI]using h
theorem eqT {a b:Int} (h:a=b):eqI a b=true:=by simpa[eqI]using h
theorem eqF {a b:Int} (h:a≠b):eqI a b=false:=by simpa[eqI]using h
theorem ZGv (a:Int):eqI a a=true:=by simp[eqI]
theorem ZEM (a:Bool):eqBo a a=true:=by simp[eqBo]
theorem ZJH {a b:Nat} (h:a≤b):leN a b=true:=by simpa[leN]using h
theorem Z9X {n b:Nat} (h:n*b≤70368744177664):fitM n b=true:=ZJH h
theorem ZCF {i n:Int} (h:0≤i) (h2:i<n):inR i n=true:=by simp[inR,leT h,ltT h2]
theorem ZJI {i j n:Int} (h:0≤i) (h2:i≤j) (h3:j≤n):in3 i j n=true:=by simp[in3,leT h,leT h2,leT h3]
theorem Z8q (i:Nat):tn (i:Int)=i:=rfl
theorem Z5a {n:Int} (h: -9223372036854775808≤n∧n≤9223372036854775807):w64 n=n:=wrap64 ⟨h.1,by omega⟩
theorem Z8X {i:Nat} (h:i<9223372036854775807):w64 ((i:Int)+1)=((i+1:Nat):Int):=by
 rw[Z5a ⟨by omega,by omega⟩];omega
theorem ZG7 {α:Type} (b:Bool) (x y:α):(bif !b then x else y)=bif b then y else x:=by cases b<;>rfl
theorem ZCf (p q:Rows) (r:List Dat):at' (p++r::q) p.length=r:=by
 simp[List.getD_eq_getElem?_getD]
theorem ZEN (p q:Rows) (r:List Dat):ltI (p.length:Int) (lenI (p++r::q))=true:=ltT (by show(p.length:Int)<((p++r::q).length:Int);simp only[List.length_append,List.length_cons];omega)
theorem ZDW (p q:Rows) (r:List Dat):inR (p.length:Int) (lenI (p++r::q))=true:=ZCF (by omega) (by show(p.length:Int)<((p++r::q).length:Int);simp only[List.length_append,List.length_cons];omega)
theorem ZEO (p:Rows):ltI (p.length:Int) (lenI p)=false:=ltF (Int.le_refl _)
theorem ZHm (p q:Rows) (r:List Dat) (c:Nat) (ds:List Dat):updR (p++r::q) p.length c ds=p++setRange r c ds::q:=by
 unfold updR
 rw[show(p++r::q).getD p.length []=r from ZCf p q r,List.set_append_right _ _ (Nat.le_refl _)]
 simp
theorem ZGw (p:Rows) (r:List Dat):(p++[r]).length=p.length+1:=by simp
theorem ZHT {α:Type} (p q:List α) (r:α):p++r::q=(p++[r])++q:=by simp
section
variable {α β:Type} {e:α→List Dat}
theorem ZDt (u v:List α) (a:α):at' ((u++a::v).map e) u.length=e a:=by
 simp[List.getD_eq_getElem?_getD]
theorem ZEF (u v:List α) (a:α):ltI (u.length:Int) (lenI ((u++a::v).map e))=true:=ltT (by show(u.length:Int)<(((u++a::v).map e).length:Int);simp only[List.length_append,List.length_cons,List.length_map];omega)
theorem ZEP (u v:List α) (a:α):inR (u.length:Int) (lenI ((u++a::v).map e))=true:=ZCF (by omega) (by show(u.length:Int)<(((u++a::v).map e).length:Int);simp only[List.length_append,List.length_cons,List.length_map];omega)
theorem ZDu (l:List α):ltI (l.length:Int) (lenI (l.map e))=false:=ltF (by simp)
theorem ZIz (u v:List α) (a:α) (c:Nat) (ds:List Dat):updR ((u++a::v).map e) u.length c ds=u.map e++setRange (e a) c ds::v.map e:=by
 have:=ZHm (u.map e) (v.map e) (e a) c ds
 simpa using this
theorem Z6i {σ:Type} {L:σ→Int→Option β} {F:σ→List α→Option β} {I:σ→List α→List α→Prop} {l:List α} (hn:l.length<9223372036854775807)
  (hs:∀(u:List α) (a:α) (v:List α) (s:σ),l=u++a::v→I s u (a::v)→(∃s',L s u.length=L s' (w64 (u.length+1))∧I s' (u++[a]) v∧F s (a::v)=F s' v)∨L s u.length=F s (a::v))
  (he:∀s,I s l []→L s l.length=F s []) (s:σ) (h0:I s [] l):L s 0=F s l:=by
 have key:∀(v u:List α) (s:σ),l=u++v→I s u v→L s (u.length:Nat)=F s v:=by
  intro v
  induction v with
  |nil=>
   intro u s h hI
   rw[List.append_nil]at h
   subst h
   exact he s hI
  |cons a v ih=>
   intro u s h hI
   have hl:u.length<l.length:=by rw[h];simp
   rcases hs u a v s h hI with ⟨s',h1,h2,h3⟩|h1
   ·rw[h1,Z8X (by omega),h3]
    have:=ih (u++[a]) s' (by rw[h];simp) h2
    rw[List.length_append]at this
    exact this
   ·exact h1
 exact key l [] s rfl h0
theorem ZAn {L:Int→Option β} {p:α→Bool} {no yes:Option β} {l:List α} (hn:l.length<9223372036854775807)
  (hs:∀(u:List α) (a:α) (v:List α),l=u++a::v→L u.length=bif p a then L (w64 (u.length+1))else no) (he:L l.length=yes):L 0=bif l.all p then yes else no:=
 Z6i (σ:=Unit) (L:=fun _=>L) (F:=fun _ v=>bif v.all p then yes else no) (I:=fun _ _ _=>True) hn (fun u a v _ h _=>by
  have:=hs u a v h
  cases hp:p a
  ·exact .inr (by rw[this,hp];simp[hp])
  ·exact .inl ⟨(),by rw[this,hp];rfl,trivial,by simp[hp]⟩) (fun _ _=>by simpa using he) () trivial
end
def szL {α:Type} (f:α→Nat):List α→Nat
 |[]=>0
 |a::l=>1+f a+szL f l
theorem Z7l {α:Type} (f:α→Nat):∀l:List α,l.length≤szL f l
 |[]=>Nat.le_refl _
 |a::l=>by have:=Z7l f l;simp only[List.length_cons,szL];omega
theorem ZG9 {α:Type} {f:α→Nat}:∀{l:List α} {a:α},a∈l→f a≤szL f l
 |b::l,a,h=>by
  rcases List.mem_cons.mp h with rfl|h
  ·simp only[szL];omega
  ·have:=ZG9 (f:=f) h;simp only[szL];omega
theorem ZCg {α:Type} (f:α→Nat) (u v:List α):szL f (u++v)=szL f u+szL f v:=by
 induction u with
 |nil=>simp[szL]
 |cons a u ih=>simp only[List.cons_append,szL,ih];omega
section
variable {α:Type} {e:α→List Dat} {f:α→Int→α} {c g:α→Nat}
theorem ZBg [DecidableEq α] {L:Rows→Rows→Int→Option (List Dat)} {P:α→Prop} (hs:∀(p q p' q':Rows) (a b:α),P a→p.length=p'.length→p.length<4611686018427387904→L (p++e a::q) (p'++e b::q') p.length=bif decide (a=b)then L (p++e a::q) (p'++e b::q') (w64 (p.length+1))else some [.bool false])
  (he:∀p p',p.length=p'.length→L p p' p.length=some [.bool true]):∀(l l':List α) (p p':Rows),p.length=p'.length→l.length=l'.length→(∀a∈l,P a)→p.length+l.length<4611686018427387904→
   L (p++l.map e) (p'++l'.map e) p.length=some [.bool (decide (l=l'))]
 |[],[],p,p',h,_,_,_=>by simpa using he p p' h
 |[],_::_,_,_,_,h,_,_=>by simp at h
 |_::_,[],_,_,_,h,_,_=>by simp at h
 |a::l,b::l',p,p',h,hl,hP,h3=>by
  simp only[List.length_cons]at h3 hl
  rw[List.map_cons,List.map_cons,hs p (l.map e) p' (l'.map e) a b (hP a (by simp)) h (by omega)]
  by_cases hab:a=b
  ·rw[decide_eq_true hab,cond_true,Z8X (by omega),ZHT,ZHT p']
   have ih:=ZBg hs he l l' (p++[e a]) (p'++[e b]) (by simp[h]) (by omega) (fun b hb=>hP b (by simp[hb])) (by simp;omega)
   rw[ZGw]at ih
   rw[ih]
   simp[hab]
  ·rw[decide_eq_false hab,cond_false]
   simp[hab]
end
def boE (b:Bool):List Dat:=[.bool b]
def c1 {α:Type} (_:α):Nat:=1
structure Rw where
 k:Int
 v:Int
 w:Int
 deriving DecidableEq
def Rw.e (x:Rw):List Dat:=[.int x.k,.int x.v,.int x.w]
def rsE (l:List Rw):List Dat:=[.sl (l.map Rw.e)]
structure Pr where
 l:Rw
 r:Rw
 m:Bool
 deriving DecidableEq
def Pr.e (x:Pr):List Dat:=[.int x.l.k,.int x.l.v,.int x.l.w,.int x.r.k,.int x.r.v,.int x.r.w,.bool x.m]
structure Gr where
 key:Int
 cnt:Int
 sum:Int
 lo:Int
 hi:Int
 deriving DecidableEq
def Gr.e (x:Gr):List Dat:=[.int x.key,.int x.cnt,.int x.sum,.int x.lo,.int x.hi]
structure Cl where
 id:Int
 req:Int
 prio:Int
 deriving DecidableEq
def Cl.e (x:Cl):List Dat:=[.int x.id,.int x.req,.int x.prio]
structure Tk where
 kind:Int
 left:List Rw
 right:List Rw
 mat:List Bool
 level:Int
 deriving DecidableEq
def Tk.e (x:Tk):List Dat:=[.int x.kind,.sl (x.left.map Rw.e),.sl (x.right.map Rw.e),.sl (x.mat.map boE),.int x.level]
def Tk.sz (x:Tk):Nat:=x.left.length+(x.right.length+(x.mat.length))
structure Gt where
 rows:List Rw
 level:Int
 deriving DecidableEq
def Gt.e (x:Gt):List Dat:=[.sl (x.rows.map Rw.e),.int x.level]
def Gt.sz (x:Gt):Nat:=x.rows.length
structure So where
 inp:List Rw
 pos:Int
 heap:List Rw
 dfd:List Rw
 out:List Rw
 runs:List (List Rw)
 lp:Int
 rp:Int
 ph:Int
 wr:Int
 deriving DecidableEq
def So.e (x:So):List Dat:=[.sl (x.inp.map Rw.e),.int x.pos,.sl (x.heap.map Rw.e),.sl (x.dfd.map Rw.e),.sl (x.out.map Rw.e),.sl (x.runs.map rsE),.int x.lp,.int x.rp,.int x.ph,.int x.wr]
def So.sz (x:So):Nat:=x.inp.length+(x.heap.length+(x.dfd.length+(x.out.length+(szL List.length x.runs))))
structure Jn where
 pend:List Tk
 wr:Int
 parts:Int
 deriving DecidableEq
def Jn.e (x:Jn):List Dat:=[.sl (x.pend.map Tk.e),.int x.wr,.int x.parts]
def Jn.sz (x:Jn):Nat:=szL Tk.sz x.pend
structure Ag where
 pend:List Gt
 wr:Int
 early:Bool
 deriving DecidableEq
def Ag.e (x:Ag):List Dat:=[.sl (x.pend.map Gt.e),.int x.wr,.bool x.early]
def Ag.sz (x:Ag):Nat:=szL Gt.sz x.pend
structure Opr where
 kind:Int
 so:So
 jn:Jn
 ag:Ag
 deriving DecidableEq
def Opr.e (x:Opr):List Dat:=[.int x.kind,.sl (x.so.inp.map Rw.e),.int x.so.pos,.sl (x.so.heap.map Rw.e),.sl (x.so.dfd.map Rw.e),.sl (x.so.out.map Rw.e),.sl (x.so.runs.map rsE),.int x.so.lp,.int x.so.rp,.int x.so.ph,.int x.so.wr,.sl (x.jn.pend.map Tk.e),.int x.jn.wr,.int x.jn.parts,.sl (x.ag.pend.map Gt.e),.int x.ag.wr,.bool x.ag.early]
def Opr.sz (x:Opr):Nat:=So.sz x.so+(Jn.sz x.jn+(Ag.sz x.ag))
structure Ou where
 rows:List Rw
 pairs:List Pr
 groups:List Gr
 deriving DecidableEq
def Ou.e (x:Ou):List Dat:=[.sl (x.rows.map Rw.e),.sl (x.pairs.map Pr.e),.sl (x.groups.map Gr.e)]
def Ou.sz (x:Ou):Nat:=x.rows.length+(x.pairs.length+(x.groups.length))
structure Sl where
 id:Int
 op:Opr
 out:Ou
 done:Bool
 deriving DecidableEq
def Sl.e (x:Sl):List Dat:=[.int x.id,.int x.op.kind,.sl (x.op.so.inp.map Rw.e),.int x.op.so.pos,.sl (x.op.so.heap.map Rw.e),.sl (x.op.so.dfd.map Rw.e),.sl (x.op.so.out.map Rw.e),.sl (x.op.so.runs.map rsE),.int x.op.so.lp,.int x.op.so.rp,.int x.op.so.ph,.int x.op.so.wr,.sl (x.op.jn.pend.map Tk.e),.int x.op.jn.wr,.int x.op.jn.parts,.sl (x.op.ag.pend.map Gt.e),.int x.op.ag.wr,.bool x.op.ag.early,.sl (x.out.rows.map Rw.e),.sl (x.out.pairs.map Pr.e),.sl (x.out.groups.map Gr.e),.bool x.done]
def Sl.sz (x:Sl):Nat:=Opr.sz x.op+(Ou.sz x.out)
structure Br where
 pool:Int
 next:Int
 act:List Cl
 wait:List Cl
 deriving DecidableEq
def Br.e (x:Br):List Dat:=[.int x.pool,.int x.next,.sl (x.act.map Cl.e),.sl (x.wait.map Cl.e)]
def Br.sz (x:Br):Nat:=x.act.length+(x.wait.length)
structure Sy where
 br:Br
 slots:List Sl
 round:Int
 deriving DecidableEq
def Sy.e (x:Sy):List Dat:=[.int x.br.pool,.int x.br.next,.sl (x.br.act.map Cl.e),.sl (x.br.wait.map Cl.e),.sl (x.slots.map Sl.e),.int x.round]
def Sy.sz (x:Sy):Nat:=Br.sz x.br+(szL Sl.sz x.slots)
structure Xc where
 pend:List (List Rw)
 que:List (List Rw)
 got:List (List Rw)
 cap:Int
 deriving DecidableEq
def Xc.e (x:Xc):List Dat:=[.sl (x.pend.map rsE),.sl (x.que.map rsE),.sl (x.got.map rsE),.int x.cap]
def Xc.sz (x:Xc):Nat:=szL List.length x.pend+(szL List.length x.que+(szL List.length x.got))
structure Ck where
 so:So
 em:List Rw
 deriving DecidableEq
def Ck.e (x:Ck):List Dat:=[.sl (x.so.inp.map Rw.e),.int x.so.pos,.sl (x.so.heap.map Rw.e),.sl (x.so.dfd.map Rw.e),.sl (x.so.out.map Rw.e),.sl (x.so.runs.map rsE),.int x.so.lp,.int x.so.rp,.int x.so.ph,.int x.so.wr,.sl (x.em.map Rw.e)]
def Ck.sz (x:Ck):Nat:=So.sz x.so+(x.em.length)
theorem ZCh {p p':Rows} (h:p.length=p'.length) (q:Rows) (r:List Dat):inR (p.length:Int) (lenI (p'++r::q))=true:=by rw[h];exact ZDW p' q r
theorem ZCi {p p':Rows} (h:p.length=p'.length) (q:Rows) (r:List Dat):at' (p'++r::q) p.length=r:=by rw[h];exact ZCf p' q r
theorem Z5L {α:Type} (e:α→List Dat) (l:List α):lenI (l.map e)=(l.length:Int):=by show((l.map e).length:Int)=_;rw[List.length_map]
theorem ZDX {α:Type} {e:α→List Dat} {l l':List α} (h:l.length=l'.length):eqI (lenI (l.map e)) (lenI (l'.map e))=true:=eqT (by rw[Z5L,Z5L,h])
theorem ZDY {α:Type} {e:α→List Dat} {l l':List α} (h:¬l.length=l'.length):eqI (lenI (l.map e)) (lenI (l'.map e))=false:=eqF (by rw[Z5L,Z5L];omega)
theorem ZHn (a b:ByteArray):eqS a b=decide (a=b):=by
 unfold eqS
 by_cases h:a=b
 ·subst h;simp
 ·rw[decide_eq_false h]
  have:a.toList≠b.toList:=fun hh=>h (by rw[ByteArray.toList_eq,ByteArray.toList_eq]at hh;exact ByteArray.ext (Array.toList_inj.mp hh))
  simpa using this
theorem ZGx (a:ByteArray):eqS a a=true:=by simp[eqS]
set_option maxRecDepth 10000
theorem ZGA (b:Bool):(bif b then some [Dat.bool true]else some [.bool false])=some [.bool b]:=by cases b<;>rfl
theorem Z5o {α:Type} (e:α→List Dat) (l:List α):len (l.map e)=l.length:=by show(l.map e).length=_;simp
theorem ZB2 {α:Type} (e:α→List Dat) (l:List α) (a:α):List.append (l.map e) [e a]=(l++[a]).map e:=by simp
theorem ZAo {α:Type} (e:α→List Dat) (l m:List α):List.append (l.map e) (m.map e)=(l++m).map e:=by simp
def win (n a b:Int):Bool:=leI a n&&leI n b
theorem ZBE (n a b:Int):callI tE Z6f [.int n,.int a,.int b]=some [.bool (win n a b)]:=by
 rw[ZDr];unfold win;cases leI a n<;>rfl
theorem ZCj (n a b:Int):callI tE Z7F [.int n,.int a,.int b]=some [.bool (win n a b)]:=by
 rw[ZEt];unfold win;cases leI a n<;>rfl
theorem Z8c {n a b:Int}:win n a b=true↔a≤n∧n≤b:=by simp[win,leI]
def Rw.ok (r:Rw):Bool:=win r.k 0 9&&(win r.v 0 99&&win r.w 0 3)
theorem Rw.ok_iff {r:Rw}:r.ok=true↔(0≤r.k∧r.k≤9)∧(0≤r.v∧r.v≤99)∧0≤r.w∧r.w≤3:=by simp[Rw.ok,Z8c]
theorem ZBF (r:Rw):callI tE Z6o [.int r.k,.int r.v,.int r.w]=some [.bool r.ok]:=by
 simp only[ZBd,ZBE,gA]
 unfold Rw.ok
 cases win r.k 0 9<;>cases win r.v 0 99<;>rfl
theorem ZCk (r:Rw):callI tE Z7H [.int r.k,.int r.v,.int r.w]=some [.bool r.ok]:=by
 simp only[ZBc,ZCj,gA]
 unfold Rw.ok
 cases win r.k 0 9<;>cases win r.v 0 99<;>rfl
theorem ZGB (l:List Rw) (h:l.length<4611686018427387904):callI tE Z8J [.sl (l.map Rw.e)]=some [.bool (l.all Rw.ok)]:=by
 rw[ZCX]
 have:=ZAn (l:=l) (L:=Z7u (l.map Rw.e) (lenI (l.map Rw.e))) (p:=Rw.ok) (no:=some [.bool false]) (yes:=some [.bool true]) (by omega) (fun u a v e=>by
  subst e
  rw[Z9C]
  simp only[ZEF,ZEP,Z8q,ZDt,cond_true,gA,Rw.e,ZBF,ZG7]) (by rw[Z9C,ZDu,cond_false])
 exact this.trans (ZGA _)
def aok (l:List Rw):Bool:=leI l.length 24&&l.all Rw.ok
theorem ZAc (l:List Rw):callI tE Z6A [.sl (l.map Rw.e)]=some [.bool (aok l)]:=by
 rw[ZB1,Z5L]
 unfold aok
 by_cases h:(l.length:Int)≤24
 ·rw[leT h,ZGB l (by omega)];rfl
 ·rw[leF (by omega)];rfl
theorem Z8x (l:List Rw) (h:l.length<4611686018427387904):callI tE Z5i [.sl (l.map Rw.e)]=some [.bool (aok l)]:=by
 rw[ZB0]
 have:=ZAn (l:=l) (L:=Z72 (l.map Rw.e)) (p:=Rw.ok) (no:=some [.bool false]) (yes:=some [.bool (leI l.length 24)]) (by omega) (fun u a v e=>by
  subst e
  rw[Z8C]
  simp only[ZEF,ZEP,Z8q,ZDt,cond_true,gA,Rw.e,ZCk,ZG7]) (by rw[Z8C,ZDu,cond_false,Z5L])
 refine this.trans ?_
 unfold aok
 cases l.all Rw.ok<;>simp
theorem Z8Q {l:List Rw} (h:aok l=true):l.length≤24:=by
 simp only[aok,leI,Bool.and_eq_true,decide_eq_true_eq]at h;omega
theorem ZCl {l:List Rw} (h:aok l=true):∀r∈l,r.ok=true:=by
 simp only[aok,Bool.and_eq_true]at h;exact List.all_eq_true.mp h.2
theorem ZEu {l:List Rw}:aok l=true↔l.length≤24∧∀r∈l,r.ok=true:=by
 simp only[aok,leI,Bool.and_eq_true,decide_eq_true_eq,List.all_eq_true]
 constructor
 ·rintro ⟨h1,h2⟩;exact⟨by omega,h2⟩
 ·rintro ⟨h1,h2⟩;exact⟨by omega,h2⟩
theorem ZIM (l:List Rw) (h:l.length≤1099511627776):callI tE ZAY [.sl (l.map Rw.e)]=some [.sl (l.map Rw.e)]:=by
 rw[ZEK,Z5o,Z9X (by omega)];rfl
def Rw.cost (r:Rw):Nat:=if r.ok then 1+r.w.toNat else 0
def Z83 (l:List Rw):Nat:=(l.map Rw.cost).sum
theorem ZAF (r:Rw):r.cost≤4:=by
 unfold Rw.cost
 split
 ·rename_i h;have:=Rw.ok_iff.mp h;omega
 ·omega
theorem ZA3:Z83 []=0:=rfl
theorem ZA4 (a:Rw) (l:List Rw):Z83 (a::l)=a.cost+Z83 l:=by simp[Z83]
theorem ZCm (l m:List Rw):Z83 (l++m)=Z83 l+Z83 m:=by simp[Z83]
theorem ZBG (l:List Rw):Z83 l≤4*l.length:=by
 induction l with
 |nil=>exact Nat.le_refl _
 |cons a l ih=>have:=ZAF a;rw[ZA4,List.length_cons];omega
theorem ZFL (r:Rw):(bif !r.ok then some [Dat.int 0]else some [.int (w64 (1+r.w))])=some [.int (r.cost:Nat)]:=by
 unfold Rw.cost
 cases h:r.ok
 ·rfl
 ·have:=Rw.ok_iff.mp h
  rw[Z5a ⟨by omega,by omega⟩]
  simp only[Bool.not_true,cond_false,if_true]
  congr 3;omega
theorem ZFM (r:Rw):callI tE Z8n [.int r.k,.int r.v,.int r.w]=some [.int (r.cost:Nat)]:=by
 simp only[ZDM,ZBF,gA,ZFL]
theorem ZAp (r:Rw):callI tE Z5l [.int r.k,.int r.v,.int r.w]=some [.int (r.cost:Nat)]:=by
 simp only[ZDL,ZCk,gA,ZFL]
theorem ZGC {u:List Rw} {a:Rw} {n:Int} (hu:u.length<1152921504606846976) (h:n=(Z83 u:Nat)):w64 (n+(a.cost:Nat))=((Z83 (u++[a]):Nat):Int):=by
 have h1:=ZBG u
 have h2:=ZAF a
 subst h
 rw[Z5a ⟨by omega,by omega⟩,ZCm,ZA4,ZA3];omega
theorem ZDZ (l:List Rw) (h:l.length<1152921504606846976):callI tE Z7R [.sl (l.map Rw.e)]=some [.int (Z83 l:Nat)]:=by
 rw[ZC7]
 have:=Z6i (l:=l) (L:=fun s=>Z74 s (l.map Rw.e) (lenI (l.map Rw.e))) (F:=fun _ _=>some [Dat.int (Z83 l:Nat)]) (I:=fun s u _=>s=(Z83 u:Nat)) (by omega) (fun u a v s e hI=>.inl ⟨(Z83 (u++[a]):Nat),by
  subst e
  have hu:u.length<1152921504606846976:=by simp at h;omega
  show Z74 _ _ _ _=_
  rw[Z8v]
  simp only[ZEF,ZEP,Z8q,ZDt,cond_true,gA,Rw.e,ZFM,ZGC hu hI],rfl,rfl⟩) (fun s hs=>by rw[Z8v,ZDu,cond_false,hs]) 0 rfl
 exact this
theorem ZA5 (l:List Rw) (h:l.length<1152921504606846976):callI tE Z6M [.sl (l.map Rw.e)]=some [.int (Z83 l:Nat)]:=by
 rw[ZC5]
 have:=Z6i (l:=l) (L:=fun s=>Z73 (l.map Rw.e) s) (F:=fun _ _=>some [Dat.int (Z83 l:Nat)]) (I:=fun s u _=>s=(Z83 u:Nat)) (by omega) (fun u a v s e hI=>.inl ⟨(Z83 (u++[a]):Nat),by
  subst e
  have hu:u.length<1152921504606846976:=by simp at h;omega
  show Z73 _ _ _=_
  rw[Z8t]
  simp only[ZEF,ZEP,Z8q,ZDt,cond_true,gA,Rw.e,ZAp,ZGC hu hI],rfl,rfl⟩) (fun s hs=>by rw[Z8t,ZDu,cond_false,hs]) 0 rfl
 exact this
def ord (a b:Int):Int:=if a<b then-1 else if b<a then 1 else 0
def ZG8 (a b:Rw):Int:=if ord a.k b.k≠0 then ord a.k b.k else if ord a.v b.v≠0 then ord a.v b.v else ord a.w b.w
theorem ZGy (a b:Int):callI tE Z8r [.int a,.int b]=some [.int (ord a b)]:=by
 rw[ZEJ]
 unfold ord
 by_cases h:a<b
 ·rw[ltT h,if_pos h];rfl
 ·rw[ltF (by omega),if_neg h]
  by_cases h2:b<a
  ·rw[ltT h2,if_pos h2];rfl
  ·rw[ltF (by omega),if_neg h2];rfl
theorem ZCK (a b:Rw):callI tE Z5h [.int a.k,.int a.v,.int a.w,.int b.k,.int b.v,.int b.w]=some [.int (ZG8 a b)]:=by
 simp only[ZBD,ZGy,gA,ZG7]
 unfold ZG8
 by_cases h:ord a.k b.k=0
 ·rw[eqT h,if_neg (by simpa using h)]
  by_cases h2:ord a.v b.v=0
  ·rw[eqT h2,if_neg (by simpa using h2)];rfl
  ·rw[eqF h2,if_pos h2];rfl
 ·rw[eqF h,if_pos h];rfl
theorem ZAG (a b:Rw):callI tE Z5e [.int a.k,.int a.v,.int a.w,.int b.k,.int b.v,.int b.w]=some [.int (ZG8 a b)]:=by
 have step:∀(i:Nat) (x y:Int) (rest:Option (List Dat)),i<3→gn (at' [[Dat.int a.k],[.int a.v],[.int a.w]] i)=x→gn (at' [[Dat.int b.k],[.int b.v],[.int b.w]] i)=y→Z6K (w64 ((i:Int)+1)) [[.int a.k],[.int a.v],[.int a.w]] [[.int b.k],[.int b.v],[.int b.w]]=rest→
   Z6K (i:Int) [[.int a.k],[.int a.v],[.int a.w]] [[.int b.k],[.int b.v],[.int b.w]]=if ord x y≠0 then some [.int (ord x y)]else rest:=fun i x y rest hi hx hy hr=>by
  rw[Z8O,ltT (by omega),ZCF (by omega) (show(i:Int)<lenI [[Dat.int a.k],[.int a.v],[.int a.w]]by show(i:Int)<3;omega),ZCF (by omega) (show(i:Int)<lenI [[Dat.int b.k],[.int b.v],[.int b.w]]by show(i:Int)<3;omega),Z8q,hx,hy,hr]
  unfold ord
  by_cases h:x<y
  ·rw[ltT h];simp[h]
  ·rw[ltF (by omega)]
   by_cases h2:y<x
   ·rw[ltT h2];simp[h,h2]
   ·rw[ltF (by omega)];simp[h,h2]
 rw[ZBC]
 have e3:Z6K (w64 (((2:Nat):Int)+1)) [[.int a.k],[.int a.v],[.int a.w]] [[.int b.k],[.int b.v],[.int b.w]]=some [.int 0]:=by
  rw[Z8O];rfl
 have e2:=step 2 a.w b.w _ (by omega) rfl rfl e3
 have e1:=step 1 a.v b.v _ (by omega) rfl rfl e2
 have e0:=step 0 a.k b.k _ (by omega) rfl rfl e1
 refine e0.trans ?_
 unfold ZG8
 by_cases h:ord a.k b.k=0<;>by_cases h2:ord a.v b.v=0<;>by_cases h3:ord a.w b.w=0<;>simp[h,h2,h3]
theorem ZEQ {a b:Int}:ord a b=0↔a=b:=by
 unfold ord
 split
 ·omega
 ·split<;>omega
theorem ZEv {a b:Int}:ord a b<0↔a<b:=by
 unfold ord
 split
 ·omega
 ·split<;>omega
theorem ZEw {a b:Int}:0<ord a b↔b<a:=by
 unfold ord
 split
 ·omega
 ·split<;>omega
def Rw.lt (a b:Rw):Prop:=a.k<b.k∨a.k=b.k∧(a.v<b.v∨a.v=b.v∧a.w<b.w)
instance (a b:Rw):Decidable (Rw.lt a b):=by unfold Rw.lt;infer_instance
theorem ZHo {a b:Rw}:ZG8 a b<0↔Rw.lt a b:=by
 unfold ZG8 Rw.lt
 by_cases h:ord a.k b.k=0
 ·have:=ZEQ.mp h
  rw[if_neg (by simpa using h)]
  by_cases h2:ord a.v b.v=0
  ·have:=ZEQ.mp h2
   rw[if_neg (by simpa using h2),ZEv];omega
  ·have h3:=mt ZEQ.mpr h2
   rw[if_pos h2,ZEv];omega
 ·have h3:=mt ZEQ.mpr h
  rw[if_pos h,ZEv];omega
theorem ZGD {a b:Rw}:0<ZG8 a b↔Rw.lt b a:=by
 unfold ZG8 Rw.lt
 by_cases h:ord a.k b.k=0
 ·have:=ZEQ.mp h
  rw[if_neg (by simpa using h)]
  by_cases h2:ord a.v b.v=0
  ·have:=ZEQ.mp h2
   rw[if_neg (by simpa using h2),ZEw];omega
  ·have h3:=mt ZEQ.mpr h2
   rw[if_pos h2,ZEw];omega
 ·have h3:=mt ZEQ.mpr h
  rw[if_pos h,ZEw];omega
theorem Rw.eq_of {a b:Rw} (h1:a.k=b.k) (h2:a.v=b.v) (h3:a.w=b.w):a=b:=by cases a;cases b;simp_all
theorem Rw.lt_or {a b:Rw}:Rw.lt a b∨a=b∨Rw.lt b a:=by
 unfold Rw.lt
 by_cases h1:a.k=b.k<;>by_cases h2:a.v=b.v<;>by_cases h3:a.w=b.w
 ·exact .inr (.inl (Rw.eq_of h1 h2 h3))
 all_goals omega
theorem Rw.lt_irr (a:Rw):¬Rw.lt a a:=by unfold Rw.lt;omega
theorem Rw.lt_tr {a b c:Rw} (h:Rw.lt a b) (h2:Rw.lt b c):Rw.lt a c:=by unfold Rw.lt at*;omega
def Rw.le (a b:Rw):Prop:=¬Rw.lt b a
instance (a b:Rw):Decidable (Rw.le a b):=by unfold Rw.le;infer_instance
theorem Rw.le_rfl (a:Rw):Rw.le a a:=Rw.lt_irr a
theorem Rw.le_tr {a b c:Rw} (h:Rw.le a b) (h2:Rw.le b c):Rw.le a c:=by
 intro h3
 rcases Rw.lt_or (a:=a) (b:=b)with q|q|q
 ·exact h2 (Rw.lt_tr h3 q)
 ·subst q;exact h2 h3
 ·exact h q
theorem Rw.le_antisymm {a b:Rw} (h:Rw.le a b) (h2:Rw.le b a):a=b:=by
 rcases Rw.lt_or (a:=a) (b:=b)with q|q|q
 ·exact absurd q h2
 ·exact q
 ·exact absurd q h
theorem Rw.le_total (a b:Rw):Rw.le a b∨Rw.le b a:=by
 rcases Rw.lt_or (a:=a) (b:=b)with q|q|q
 ·exact .inl fun h=>Rw.lt_irr a (Rw.lt_tr q h)
 ·subst q;exact .inl (Rw.le_rfl a)
 ·exact .inr fun h=>Rw.lt_irr a (Rw.lt_tr h q)
theorem Rw.lt_le {a b:Rw} (h:Rw.lt a b):Rw.le a b:=fun h2=>Rw.lt_irr a (Rw.lt_tr h h2)
theorem Z9x (a b:Rw):ltI (ZG8 a b) 0=decide (Rw.lt a b):=by
 simp only[ltI,ZHo]
theorem ZFN (a b:Rw):ltI 0 (ZG8 a b)=decide (Rw.lt b a):=by
 simp only[ltI,ZGD]
theorem ZEx (a b:Rw):leI (ZG8 a b) 0=decide (Rw.le a b):=by
 have:=ZGD (a:=a) (b:=b)
 simp only[leI,Rw.le]
 congr 1
 exact propext ⟨fun h h2=>by have:=this.mpr h2;omega,fun h=>by have:=mt this.mp h;omega⟩
theorem ZFO (a b:Rw):(eqI a.k b.k&&(eqI a.v b.v&&(eqI a.w b.w&&Bool.true)))=decide (a=b):=by
 have e:decide (a=b)=(decide (a.k=b.k)&&(decide (a.v=b.v)&&decide (a.w=b.w))):=by
  cases a;cases b
  simp only[Rw.mk.injEq,Bool.decide_and]
 simp only[e,eqI,Bool.and_true]
theorem ZFP (l l':List Rw) (h:l.length≤1152921504606846976):callI tE Z7h [.sl (l.map Rw.e),.sl (l'.map Rw.e)]=some [.bool (decide (l=l'))]:=by
 rw[ZEI]
 by_cases hll:l.length=l'.length
 ·rw[ZDX hll,Bool.not_true,cond_false]
  have:=ZBg (L:=fun x y i=>Z8p x y (lenI x) i) (e:=Rw.e) (P:=fun _=>True) (fun p q p' q' a b _ hpl hlt=>by
   rw[ZA1]
   simp only[ZEN,ZDW,Z8q,ZCf,cond_true,cond_false,gA,ZCh hpl,ZCi hpl,Rw.e,ZFO,ZG7]) (fun p p' hpl=>by
   rw[ZA1,ZEO,cond_false]) l l' [] [] rfl hll (fun a ha=>trivial) (by simp;omega)
  simpa using this
 ·rw[ZDY hll,Bool.not_false,cond_true,decide_eq_false (fun e=>hll (by rw[e]))]
theorem ZBw (l l':List Rw) (h:l.length≤1152921504606846976):callI tE Z6H [.sl (l.map Rw.e),.sl (l'.map Rw.e)]=some [.bool (decide (l=l'))]:=by
 rw[ZDq]
 by_cases hll:l.length=l'.length
 ·rw[ZDX hll,Bool.not_true,cond_false]
  have:=ZBg (L:=Z8P) (e:=Rw.e) (P:=fun _=>True) (fun p q p' q' a b _ hpl hlt=>by
   rw[Z9n]
   simp only[ZEN,ZDW,Z8q,ZCf,cond_true,cond_false,gA,ZCh hpl,ZCi hpl,Rw.e,ZFO,ZG7]) (fun p p' hpl=>by
   rw[Z9n,ZEO,cond_false]) l l' [] [] rfl hll (fun a ha=>trivial) (by simp;omega)
  simpa using this
 ·rw[ZDY hll,Bool.not_false,cond_true,decide_eq_false (fun e=>hll (by rw[e]))]
def Cu (b:Rows) (i:Int):Prop:=0≤i∧i≤b.length∧b.length≤1048576
theorem ZIN (n:Int):Go.bits Go.BinOp.and .i64 n 255=n%256:=by
 have h255:(BitVec.ofInt 64 255).toNat=2^8-1:=by decide
 have key:(BitVec.ofInt 64 n&&&BitVec.ofInt 64 255).toNat=(n%((2^64:Nat):Int)).toNat%2^8:=by
  rw[BitVec.toNat_and,BitVec.toNat_ofInt,h255,Nat.and_two_pow_sub_one_eq_mod]
 show w64 (((BitVec.ofInt 64 n&&&BitVec.ofInt 64 255).toNat:Nat):Int)=n%256
 rw[key,Z5a ⟨by omega,by omega⟩]
 omega
theorem ZCL (n:Int):0≤Go.bits Go.BinOp.and .i64 n 255∧Go.bits Go.BinOp.and .i64 n 255≤255:=by
 rw[ZIN];omega
theorem ZEy {b:Rows} {i h:Int} (c:Cu b i):∃r i' h',callI tE Z6g [.sl b,.int i,.int h]=some [.int r,.sl b,.int i',.int h']∧Cu b i'∧0≤r∧r≤255:=by
 obtain⟨c1,c2,c3⟩:=c
 rw[ZDm]
 by_cases hi:i<b.length
 ·rw[ltT (show i<lenI b from hi),cond_true,ZCF c1 (show i<lenI b from hi),cond_true]
  exact⟨_,_,_,rfl,⟨by rw[Z5a ⟨by omega,by omega⟩];omega,by rw[Z5a ⟨by omega,by omega⟩];omega,c3⟩,(ZCL _).1,(ZCL _).2⟩
 ·rw[ltF (show lenI b≤i by show(b.length:Int)≤i;omega),cond_false]
  exact⟨_,_,_,rfl,⟨c1,c2,c3⟩,(ZCL _).1,(ZCL _).2⟩
theorem ZAd {b:Rows} {i h:Int} (n:Int) (c:Cu b i):∃r i' h',callI tE Z5m [.sl b,.int i,.int h,.int n]=some [.int r,.sl b,.int i',.int h']∧Cu b i'∧0≤r∧(0<n→r<n)∧(n≤0→r=0):=by
 rw[ZDJ]
 by_cases h0:n≤0
 ·rw[leT h0,cond_true]
  exact⟨0,i,h,rfl,c,by omega,by omega,fun _=>rfl⟩
 ·rw[leF (by omega),cond_false]
  by_cases h1:n≤256
  ·rw[leT h1,cond_true]
   obtain⟨r,i1,h1',e1,c1,p1,q1⟩:=ZEy (h:=h) c
   rw[e1]
   simp only[gA]
   rw[eqF (by omega)]
   exact⟨_,_,_,rfl,c1,Int.tmod_nonneg _ p1,fun _=>Int.tmod_lt_of_pos _ (by omega),fun hh=>by omega⟩
  ·rw[leF (by omega),cond_false]
   obtain⟨x,i1,h1',e1,c1,p1,q1⟩:=ZEy (h:=h) c
   obtain⟨y,i2,h2',e2,c2,p2,q2⟩:=ZEy (h:=h1') c1
   obtain⟨z,i3,h3',e3,c3,p3,q3⟩:=ZEy (h:=h2') c2
   obtain⟨w,i4,h4',e4,c4,p4,q4⟩:=ZEy (h:=h3') c3
   simp only[e1,e2,e3,e4,gA]
   rw[eqF (by omega)]
   have a1:w64 (x*16777216)=x*16777216:=Z5a ⟨by omega,by omega⟩
   have a2:w64 (y*65536)=y*65536:=Z5a ⟨by omega,by omega⟩
   have a3:w64 (x*16777216+y*65536)=x*16777216+y*65536:=Z5a ⟨by omega,by omega⟩
   have a4:w64 (z*256)=z*256:=Z5a ⟨by omega,by omega⟩
   have a5:w64 (x*16777216+y*65536+z*256)=x*16777216+y*65536+z*256:=Z5a ⟨by omega,by omega⟩
   have a6:w64 (x*16777216+y*65536+z*256+w)=x*16777216+y*65536+z*256+w:=Z5a ⟨by omega,by omega⟩
   rw[a1,a2,a3,a4,a5,a6]
   exact⟨_,_,_,rfl,c4,Int.tmod_nonneg _ (by omega),fun _=>Int.tmod_lt_of_pos _ (by omega),fun hh=>by omega⟩
theorem ZIO {b:Rows} {i h:Int} (n:Int) (c:Cu b i):∃t i' h',callI tE Z9K [.sl b,.int i,.int h,.int n]=some [.bool t,.sl b,.int i',.int h']∧Cu b i':=by
 obtain⟨r,i1,h1,e1,c1,_⟩:=ZAd (h:=h) n c
 rw[ZDn,e1]
 simp only[gA]
 exact⟨_,_,_,rfl,c1⟩
theorem ZIP {L:Rows} {k:Nat} (h:k<L.length):at' L k∈L:=by
 show L.getD k []∈L
 rw[List.getD_eq_getElem?_getD,List.getElem?_eq_getElem h]
 exact List.getElem_mem h
theorem ZFQ {b:Rows} {i h:Int} (L:Rows) (p:Int→Bool) (hL:0<L.length) (hp:(L.all fun r=>p (gn r))=true) (c:Cu b i):
  ∃r i' h',callI tE Z88 [.sl b,.int i,.int h,.sl L]=some [.int r,.sl b,.int i',.int h']∧Cu b i'∧p r=true:=by
 obtain⟨r,i1,h1,e1,c1,p1,p2,_⟩:=ZAd (h:=h) (lenI L) c
 have hlt:=p2 (show(0:Int)<(L.length:Int)by omega)
 rw[ZC4,e1]
 simp only[gA]
 rw[ZCF p1 hlt,cond_true]
 have hm:tn r<L.length:=by
  have h2:r<(L.length:Int):=hlt
  show r.toNat<L.length
  omega
 exact⟨_,_,_,rfl,c1,List.all_eq_true.mp hp _ (ZIP hm)⟩
def btw (a b x:Int):Bool:=decide (a≤x)&&decide (x≤b)
theorem ZGE {a b x:Int}:btw a b x=true↔a≤x∧x≤b:=by simp[btw]
theorem ZJX {b:Rows} {i h:Int} (n:Int) (c:Cu b i) (hn:0<n) (hn2:n≤10):∃(r:Rw) (i' h':Int),callI tE ZAZ [.sl b,.int i,.int h,.int n]=some [.int r.k,.int r.v,.int r.w,.sl b,.int i',.int h']∧Cu b i'∧r.ok=true:=by
 obtain⟨x,i1,h1,e1,c1,p1,q1,_⟩:=ZAd (h:=h) n c
 obtain⟨y,i2,h2,e2,c2,p2,q2,_⟩:=ZAd (h:=h1) 100 c1
 obtain⟨z,i3,h3,e3,c3,p3⟩:=ZFQ (h:=h2) [[.int 0],[.int 0],[.int 1],[.int 2],[.int 3]] (btw 0 3) (by decide) rfl c2
 have:=ZGE.mp p3
 have:=q1 hn
 have:=q2 (by omega)
 rw[ZEG]
 simp only[e1,e2,e3,gA]
 exact⟨⟨x,y,z⟩,_,_,rfl,c3,Rw.ok_iff.mpr (show(0≤x∧x≤9)∧(0≤y∧y≤99)∧0≤z∧z≤3 by omega)⟩
theorem ZHU {b:Rows} (keys z:Int) (hk:0<keys) (hk2:keys≤10):∀(n:Nat) (i h:Int) (acc:List Rw),Cu b i→acc.length+n≤100000→(∀r∈acc,r.ok=true)→
  ∃(l:List Rw) (i' h':Int),Z8N z keys n b i h (acc.map Rw.e)=some [.sl (l.map Rw.e),.sl b,.int i',.int h']∧Cu b i'∧(∀r∈l,r.ok=true)∧l.length=acc.length+n
 |0,i,h,acc,c,_,ha=>by
  rw[Z9l,ltF (by omega),cond_false]
  exact⟨acc,i,h,rfl,c,ha,rfl⟩
 |n+1,i,h,acc,c,hl,ha=>by
  obtain⟨r,i1,h1,e1,c1,hr⟩:=ZJX (h:=h) keys c hk hk2
  rw[Z9l,ltT (by omega),cond_true,e1]
  simp only[gA,Z5o]
  rw[show fitM (Nat.succ acc.length) 24=true from Z9X (by omega),cond_true,show([[Dat.int r.k,.int r.v,.int r.w]]:Rows)=[r.e]from rfl,ZB2,show w64 (((n+1:Nat):Int)-1)=(n:Int)by rw[Z5a ⟨by omega,by omega⟩];omega]
  obtain⟨l,i',h',e2,c2,hr2,hl2⟩:=ZHU keys z hk hk2 n i1 h1 (acc++[r]) c1 (by simp;omega) (fun x hx=>by
   simp only[List.mem_append,List.mem_cons,List.not_mem_nil,or_false]at hx
   rcases hx with hx|rfl
   ·exact ha x hx
   ·exact hr)
  exact⟨l,i',h',e2,c2,hr2,by rw[hl2];simp;omega⟩
theorem ZIQ {b:Rows} {i h:Int} (most:Int) (c:Cu b i) (hm:0≤most) (hm2:most≤1000):∃(l:List Rw) (i' h':Int),callI tE Z8K [.sl b,.int i,.int h,.int most]=some [.sl (l.map Rw.e),.sl b,.int i',.int h']∧Cu b i'∧(∀r∈l,r.ok=true)∧(l.length:Int)≤most:=by
 obtain⟨k,i1,h1,e1,c1,p1⟩:=ZFQ (h:=h) [[.int 1],[.int 2],[.int 4],[.int 10]] (btw 1 10) (by decide) rfl c
 have:=ZGE.mp p1
 obtain⟨n,i2,h2,e2,c2,p2,q2,_⟩:=ZAd (h:=h1) (most+1) c1
 rw[ZDo,show w64 (most+1)=most+1 from Z5a ⟨by omega,by omega⟩]
 simp only[e1,e2,gA]
 obtain⟨m,rfl⟩:∃m:Nat,n=m:=⟨n.toNat,by omega⟩
 have:=q2 (by omega)
 obtain⟨l,i',h',e3,c3,hr,hl⟩:=ZHU k 0 (by omega) (by omega) m i2 h2 [] c2 (by simp;omega) (by simp)
 exact⟨l,i',h',e3,c3,hr,by rw[hl];simp;omega⟩
theorem ZDa (x:Rows) (hx:x.length≤1048576):∀(m n:Nat) (h:Int),n+m=x.length→∃h',Z8o x h n=some [.sl x,.int 0,.int h']
 |0,n,h,hn=>by
  rw[ZA0,ltF (show lenI x≤(n:Int)by show(x.length:Int)≤n;omega)]
  exact⟨_,rfl⟩
 |m+1,n,h,hn=>by
  rw[ZA0,ltT (show(n:Int)<lenI x by show(n:Int)<(x.length:Int);omega),cond_true]
  by_cases h4:(n:Int)<4000
  ·rw[ltT h4,cond_true,ZCF (by omega) (show(n:Int)<lenI x by show(n:Int)<(x.length:Int);omega),cond_true,Z8X (by omega)]
   exact ZDa x hx m (n+1) _ (by omega)
  ·rw[ltF (by omega)]
   exact⟨_,rfl⟩
theorem ZJJ (x:Rows) (hx:x.length≤1048576):∃h,callI tE Z8s [.sl x]=some [.sl x,.int 0,.int h]∧Cu x 0:=by
 obtain⟨h,e⟩:=ZDa x hx x.length 0 (w64 (10101+lenI x)) (by omega)
 exact⟨h,by rw[ZEH];exact e,by unfold Cu;omega⟩
theorem ZEz (l l':List Rw) (h:l.length≤1152921504606846976):callI tE Z8M [.sl (l.map Rw.e),.sl (l'.map Rw.e)]=some [.bool (decide (l=l'))]:=by
 rw[ZCT]
 by_cases hll:l.length=l'.length
 ·rw[ZDX hll,Bool.not_true,cond_false]
  have:=ZBg (L:=fun x y i=>Z7q x y i) (e:=Rw.e) (P:=fun _=>True) (fun p q p' q' a b _ hpl hlt=>by
   rw[Z98]
   simp only[ZEN,ZDW,Z8q,ZCf,cond_true,cond_false,gA,ZCh hpl,ZCi hpl,Rw.e,ZFO,ZG7]) (fun p p' hpl=>by
   rw[Z98,ZEO,cond_false]) l l' [] [] rfl hll (fun a ha=>trivial) (by simp;omega)
  simpa using this
 ·rw[ZDY hll,Bool.not_false,cond_true,decide_eq_false (fun e=>hll (by rw[e]))]
theorem ZHp {t:TypeId} {d:Dat} (h:OkD tE (.sl t) d):∃l:Rows,d=.sl l:=by
 cases h
 exact⟨_,rfl⟩
theorem ZCn (l:List UInt8):(S l).size=l.length:=by simp[S,ByteArray.size]
theorem Z6e (l m:List UInt8):S l++S m=S (l++m):=by
 apply ByteArray.ext
 simp[S,ByteArray.data_append]
theorem ZJ0 {l m:List UInt8} (h:S l=S m):l=m:=by
 have:=congrArg (fun b:ByteArray=>b.data.toList) h
 simpa[S]using this
theorem ZJ1 {l m:List UInt8}:S l=S m↔l=m:=⟨ZJ0,fun h=>by rw[h]⟩
theorem ZHq (l:List UInt8) (i j:Nat):ext (S l) i j=S ((l.take j).drop i):=by
 apply ByteArray.ext
 simp[ext,S,ByteArray.data_extract,List.extract_eq_take_drop,List.drop_take]
theorem Z7w (l:List UInt8):szI (S l)=(l.length:Int):=by show((S l).size:Int)=_;rw[ZCn]
theorem ZBh (l m:List UInt8):eqS (S l) (S m)=decide (l=m):=by rw[ZHn];simp only[ZJ1]
theorem Z5u {l m:List UInt8} (h:l.length+m.length≤9223372036854775807):fitS (S l) (S m)=true:=by unfold fitS;rw[ZCn,ZCn];exact ZJH h
theorem ZGz {l:List UInt8} {i:Nat} (h:i<l.length):byteAt (S l) (i:Int)=((l[i]'h).toNat:Int):=by
 unfold byteAt
 rw[dif_pos (by rw[ZCn,Int.toNat_natCast];exact h)]
 simp only[Int.toNat_natCast,S]
 rfl
theorem ZFR (n:Int):strOf [[.int n]]=S [UInt8.ofNat n.toNat]:=rfl
def dig (d:Nat):UInt8:=UInt8.ofNat (48+d)
theorem ZCo (d:Nat) (h:d<10):(dig d).toNat=48+d:=by simp[dig,UInt8.toNat_ofNat];omega
def ZEs (n:Nat):List UInt8:=if n=0 then[]else ZEs (n/10)++[dig (n%10)]
termination_by n
theorem ZFS:ZEs 0=[]:=by rw[ZEs,if_pos rfl]
theorem ZFT {n:Nat} (h:n≠0):ZEs n=ZEs (n/10)++[dig (n%10)]:=by rw[ZEs,if_neg h]
def dec (n:Nat):List UInt8:=if n=0 then[48]else ZEs n
theorem ZBi {n:Nat} (h:n≠0):dec n=ZEs n:=if_neg h
theorem ZGF {d:Int} (h:0≤d) (h2:d<10):S [UInt8.ofNat (IntKind.wrap .u8 (48+d)).toNat]=S [dig d.toNat]:=by
 have:IntKind.wrap .u8 (48+d)=48+d:=by
  simp only[IntKind.wrap,IntKind.signed,IntKind.bits,Bool.false_and,Bool.false_eq_true,if_false]
  omega
 rw[this]
 unfold dig
 congr 3
 omega
theorem ZH0:∀(d n:Nat),n<10^d→(ZEs n).length≤d:=by
 intro d
 induction d with
 |zero=>
  intro n h;have:n=0:=by simpa using h
  subst this;rw[ZFS];simp
 |succ d ih=>
  intro n h
  by_cases h0:n=0
  ·subst h0;rw[ZFS];simp
  ·rw[ZFT h0,List.length_append]
   have:=ih (n/10) (by rw[Nat.pow_succ]at h;omega)
   simp;omega
theorem ZHr {n:Nat} (h:n<10) (h0:n≠0):ZEs n=[dig n]:=by
 rw[ZFT h0,show n/10=0 by omega,ZFS,show n%10=n by omega];rfl
theorem ZFU {n:Nat} (h:n<10):dec n=[dig n]:=by
 by_cases h0:n=0
 ·subst h0;rfl
 ·rw[ZBi h0,ZHr h h0]
theorem ZFV {n:Nat} (h:10≤n):dec n=dec (n/10)++[dig (n%10)]:=by
 rw[ZBi (by omega),ZFT (by omega),ZBi (by omega)]
theorem ZDv {P:Nat→Prop} (h1:∀n,n<10→P n) (h2:∀n,10≤n→P (n/10)→P n) (n:Nat):P n:=by
 induction n using Nat.strongRecOn with
 |ind n ih=>
  by_cases h:n<10
  ·exact h1 n h
  ·exact h2 n (by omega) (ih (n/10) (by omega))
def Z93 (c:UInt8):Bool:=decide (48≤c.toNat)&&decide (c.toNat≤57)
theorem ZER {d:Nat} (h:d<10):Z93 (dig d)=true:=by
 unfold Z93;rw[ZCo d h];simp;omega
theorem Z9S (n:Nat):(dec n).all Z93=true:=by
 refine ZDv (P:=fun n=>(dec n).all Z93=true) (fun n h=>?_) (fun n h ih=>?_) n
 ·rw[ZFU h];simp[ZER h]
 ·rw[ZFV h,List.all_append,ih];simp[ZER (show n%10<10 by omega)]
theorem ZHV (n:Nat):dec n≠[]:=by
 refine ZDv (P:=fun n=>dec n≠[]) (fun n h=>?_) (fun n h ih=>?_) n
 ·rw[ZFU h];simp
 ·rw[ZFV h];simp
def ZF0 (l:List UInt8):Nat:=l.foldl (fun n c=>10*n+(c.toNat-48)) 0
theorem ZCp (l:List UInt8) (c:UInt8):ZF0 (l++[c])=10*ZF0 l+(c.toNat-48):=by simp[ZF0,List.foldl_append]
theorem ZAH (n:Nat):ZF0 (dec n)=n:=by
 refine ZDv (P:=fun n=>ZF0 (dec n)=n) (fun n h=>?_) (fun n h ih=>?_) n
 ·rw[ZFU h];simp only[ZF0,List.foldl_cons,List.foldl_nil,ZCo n h];omega
 ·rw[ZFV h,ZCp,ih,ZCo _ (by omega)];omega
theorem ZGG {a b:Nat} (h:dec a=dec b):a=b:=by rw[←ZAH a,←ZAH b,h]
theorem ZFW:∀(l:List UInt8) (a:Nat),l.all Z93=true→l.foldl (fun n c=>10*n+(c.toNat-48)) a+1≤(a+1)*10^l.length
 |[],a,_=>by simp
 |c::l,a,h=>by
  simp only[List.all_cons,Bool.and_eq_true,Z93,decide_eq_true_eq]at h
  have:=ZFW l (10*a+(c.toNat-48)) (by simpa[Z93]using h.2)
  simp only[List.foldl_cons,List.length_cons,Nat.pow_succ]
  have h2:(10*a+(c.toNat-48)+1)*10^l.length≤((a+1)*10)*10^l.length:=Nat.mul_le_mul_right _ (by omega)
  rw[show(a+1)*(10^l.length*10)=((a+1)*10)*10^l.length by rw[Nat.mul_comm (10^l.length) 10,Nat.mul_assoc]]
  omega
theorem ZDw (l:List UInt8) (h:l.all Z93=true):ZF0 l<10^l.length:=by
 have:=ZFW l 0 h
 unfold ZF0
 omega
theorem Z8d (d n:Nat) (hd:1≤d):(dec n).length≤d↔n<10^d:=by
 constructor
 ·intro h
  have:=ZDw (dec n) (Z9S n)
  rw[ZAH]at this
  exact Nat.lt_of_lt_of_le this (Nat.pow_le_pow_right (by omega) h)
 ·intro h
  by_cases h0:n=0
  ·subst h0;simpa[dec]using hd
  ·rw[ZBi h0];exact ZH0 d n h
theorem ZBH (n:Nat):(dec n).head?≠some 45:=by
 intro h
 have:=List.all_eq_true.mp (Z9S n) 45 (List.mem_of_mem_head? (by rw[h];rfl))
 exact absurd this (by decide)
def fmt (n:Int):List UInt8:=if n<0 then 45::dec n.natAbs else dec n.natAbs
theorem Z8e {n:Int} (h:n<0):fmt n=45::dec n.natAbs:=if_pos h
theorem Z8f {n:Int} (h:0≤n):fmt n=dec n.natAbs:=if_neg (by omega)
theorem ZDx {a b:Int} (h:fmt a=fmt b):a=b:=by
 by_cases ha:a<0<;>by_cases hb:b<0
 ·rw[Z8e ha,Z8e hb]at h
  have:=ZGG (List.cons.inj h).2;omega
 ·rw[Z8e ha,Z8f (by omega)]at h
  exact absurd (by rw[←h];rfl) (ZBH b.natAbs)
 ·rw[Z8f (by omega),Z8e hb]at h
  exact absurd (by rw[h];rfl) (ZBH a.natAbs)
 ·rw[Z8f (by omega),Z8f (by omega)]at h
  have:=ZGG h;omega
theorem Z6I {n:Int} (h: -9223372036854775808≤n∧n≤9223372036854775807):(fmt n).length≤20:=by
 have h1:(dec n.natAbs).length≤19:=(Z8d 19 _ (by omega)).mpr (by omega)
 by_cases hn:n<0
 ·rw[Z8e hn,List.length_cons];omega
 ·rw[Z8f (by omega)];omega
open Classical in
noncomputable def ZAe (s:List UInt8):Option Int:=if h:∃n:Int,fmt n=s∧n.natAbs<1000000000 then some h.choose else none
theorem Z8g {s:List UInt8} {n:Int}:ZAe s=some n↔fmt n=s∧n.natAbs<1000000000:=by
 unfold ZAe
 constructor
 ·intro h
  split at h
  ·rename_i hx;cases h;exact hx.choose_spec
  ·cases h
 ·intro h
  have hx:∃n:Int,fmt n=s∧n.natAbs<1000000000:=⟨n,h⟩
  rw[dif_pos hx]
  exact congrArg some (ZDx (hx.choose_spec.1.trans h.1.symm))
theorem ZCq {s:List UInt8}:ZAe s=none↔∀n:Int,fmt n=s→¬n.natAbs<1000000000:=by
 constructor
 ·intro h n h1 h2
  rw[Z8g.mpr ⟨h1,h2⟩]at h;cases h
 ·intro h
  cases hp:ZAe s with
  |none=>rfl
  |some n=>have:=Z8g.mp hp;exact absurd this.2 (h n this.1)
theorem ZFu {n:Int} (h:n.natAbs<1000000000):ZAe (fmt n)=some n:=Z8g.mpr ⟨rfl,h⟩
noncomputable def pI (s:List UInt8):List Dat:=match ZAe s with
 |some n=>[.int n,.bool true]
 |none=>[.int 0,.bool false]
theorem ZFX {n:Int} (h:0≤n∧n<18446744073709551616):IntKind.wrap .u64 n=n:=by
 simp only[IntKind.wrap,IntKind.signed,IntKind.bits,Bool.false_and,Bool.false_eq_true,if_false]
 omega
theorem ZGH (n:Nat):Int.tdiv (n:Int) 10=((n/10:Nat):Int):=by rw[Int.tdiv_eq_ediv_of_nonneg (by omega)];omega
theorem ZGI (n:Nat):Int.tmod (n:Int) 10=((n%10:Nat):Int):=by rw[Int.tmod_eq_emod_of_nonneg (by omega)];omega
theorem ZDb:∀n:Nat,n<18446744073709551616→callI tE Z7U [.int (n:Int)]=some [.str (S (dec n))]:=by
 intro n
 refine ZDv (P:=fun n=>n<18446744073709551616→callI tE Z7U [.int (n:Int)]=some [.str (S (dec n))]) (fun n h _=>?_) (fun n h ih hn=>?_) n
 ·rw[ZAz,ltT (by omega),cond_true,ZFX (by omega),ZFR,ZGF (by omega) (by omega),ZFU h]
  rfl
 ·rw[ZAz,ltF (by omega),cond_false,ZGH,ZGI,ZFX (by omega),ih (by omega)]
  simp only[ZDV,ZHl]
  rw[ZFX (by omega),ZFR,ZGF (by omega) (by omega)]
  have hl:(dec (n/10)).length≤20:=(Z8d 20 _ (by omega)).mpr (by omega)
  rw[show fitS _ _=true from Z5u (by simp;omega),cond_true,Z6e,ZFV h]
  rfl
theorem Z6V {n:Int} (h:I64 n):callI tE Z5f [.int n]=some [.str (S (fmt n))]:=by
 obtain⟨h1,h2⟩:=h
 rw[ZCB]
 by_cases hn:n<0
 ·rw[ltT hn,cond_true]
  have e1:IntKind.wrap .u64 n=n+18446744073709551616:=by
   simp only[IntKind.wrap,IntKind.signed,IntKind.bits,Bool.false_and,Bool.false_eq_true,if_false]
   omega
  have e2:IntKind.wrap .u64 (0-(n+18446744073709551616))=(n.natAbs:Int):=by
   simp only[IntKind.wrap,IntKind.signed,IntKind.bits,Bool.false_and,Bool.false_eq_true,if_false]
   omega
  have hl:(dec n.natAbs).length≤20:=(Z8d 20 _ (by omega)).mpr (by omega)
  rw[e1,e2,ZDb _ (by omega)]
  simp only[ZDV,ZHl]
  rw[show fitS _ _=true from Z5u (by simp;omega),cond_true,Z6e,Z8e hn]
  rfl
 ·rw[ltF (by omega),cond_false,ZFX (by omega),show n=(n.natAbs:Int)by omega,ZDb _ (by omega)]
  simp only[ZDV,ZHl]
  rw[Z8f (by omega)]
  rfl
theorem ZIu (u v:List UInt8) (c:UInt8):ltI (u.length:Int) (szI (S (u++c::v)))=true:=ltT (by rw[Z7w];simp only[List.length_append,List.length_cons];omega)
theorem ZIv (u v:List UInt8) (c:UInt8):inR (u.length:Int) (szI (S (u++c::v)))=true:=ZCF (by omega) (by rw[Z7w];simp only[List.length_append,List.length_cons];omega)
theorem ZII (u v:List UInt8) (c:UInt8):byteAt (S (u++c::v)) (u.length:Int)=(c.toNat:Int):=by
 rw[ZGz (by simp)];simp
theorem ZH1 (l:List UInt8):ltI (l.length:Int) (szI (S l))=false:=ltF (by rw[Z7w];omega)
theorem ZH2 (c:UInt8):c.toNat<256:=UInt8.toNat_lt c
theorem ZFY (c d:UInt8):eqI (c.toNat:Int) (d.toNat:Int)=decide (c=d):=by
 unfold eqI
 by_cases h:c=d
 ·subst h;simp
 ·have:¬c.toNat=d.toNat:=fun e=>h (UInt8.toNat_inj.mp e)
  simp[h];omega
theorem ZA6 {c:UInt8}:Z93 c=true↔48≤c.toNat∧c.toNat≤57:=by simp[Z93]
def ZES (n:Nat) (c:UInt8):Nat:=10*n+(c.toNat-48)
theorem ZIR {c:UInt8} (h:48≤c.toNat):IntKind.wrap .u8 ((c.toNat:Int)-48)=((c.toNat-48:Nat):Int):=by
 have:=ZH2 c
 simp only[IntKind.wrap,IntKind.signed,IntKind.bits,Bool.false_and,Bool.false_eq_true,if_false]
 omega
theorem ZHW {n:Nat} (hn:n<100000000000) {c:UInt8} (h:48≤c.toNat):w64 ((w64 (10*(n:Int)))+(w64 (IntKind.wrap .u8 ((c.toNat:Int)-48))))=((ZES n c:Nat):Int):=by
 have:=ZH2 c
 rw[ZIR h,Z5a (n:=10*(n:Int)) ⟨by omega,by omega⟩,Z5a (n:=((c.toNat-48:Nat):Int)) ⟨by omega,by omega⟩,Z5a ⟨by omega,by omega⟩]
 unfold ZES
 omega
theorem ZHs {n:Nat} (hn:n<100000000000) {c:UInt8} (h:48≤c.toNat):w64 ((w64 ((n:Int)*10))+(w64 (IntKind.wrap .u8 ((c.toNat:Int)-48))))=((ZES n c:Nat):Int):=by
 rw[Int.mul_comm];exact ZHW hn h
theorem ZET {n:Int}:∀c∈fmt n,Z93 c=true∨c=45:=by
 intro c hc
 unfold fmt at hc
 split at hc
 ·rcases List.mem_cons.mp hc with rfl|hc
  ·exact .inr rfl
  ·exact .inl (List.all_eq_true.mp (Z9S _) c hc)
 ·exact .inl (List.all_eq_true.mp (Z9S _) c hc)
def Z9M (b:UInt8):List UInt8→List UInt8→List (List UInt8)
 |cur,[]=>[cur]
 |cur,c::v=>if c=b then cur::Z9M b [] v else Z9M b (cur++[c]) v
def Z6L (b:UInt8) (s:List UInt8):List (List UInt8):=Z9M b [] s
def Z7Q (b:List UInt8):List (List UInt8)→List UInt8
 |[]=>[]
 |[x]=>x
 |x::y::r=>x++b++Z7Q b (y::r)
theorem ZFZ (b:UInt8):∀(v cur:List UInt8),Z9M b cur v≠[]
 |[],_=>by simp[Z9M]
 |c::v,cur=>by
  unfold Z9M
  split
  ·simp
  ·exact ZFZ b v _
theorem Z8D {b x:List UInt8} {r:List (List UInt8)} (h:r≠[]):Z7Q b (x::r)=x++b++Z7Q b r:=by
 cases r with
 |nil=>exact absurd rfl h
 |cons y r=>rfl
theorem ZBj (b:UInt8):∀(v cur:List UInt8),Z7Q [b] (Z9M b cur v)=cur++v
 |[],cur=>by simp[Z9M,Z7Q]
 |c::v,cur=>by
  unfold Z9M
  split
  ·rename_i h
   rw[Z8D (ZFZ b v []),ZBj b v [],h];simp
  ·rw[ZBj b v];simp
theorem ZCM (b:UInt8) (s:List UInt8):Z7Q [b] (Z6L b s)=s:=ZBj b s []
theorem ZCr (b:UInt8):∀(x v cur:List UInt8),b∉x→Z9M b cur (x++v)=Z9M b (cur++x) v
 |[],v,cur,_=>by simp
 |c::x,v,cur,h=>by
  simp only[List.mem_cons,not_or]at h
  have hc:c≠b:=fun e=>h.1 e.symm
  rw[List.cons_append,Z9M,if_neg hc,ZCr b x v _ h.2];simp
theorem ZAq (b:UInt8):∀(l:List (List UInt8)),l≠[]→(∀x∈l,b∉x)→Z6L b (Z7Q [b] l)=l
 |[],h,_=>absurd rfl h
 |[x],_,h=>by
  have:=ZCr b x [] [] (h x (by simp))
  simp only[List.append_nil,List.nil_append]at this
  simp only[Z6L,Z7Q,this,Z9M]
 |x::y::r,_,h=>by
  have ih:=ZAq b (y::r) (by simp) (fun z hz=>h z (by simp[hz]))
  unfold Z6L at*
  rw[Z8D (by simp),List.append_assoc,ZCr b x _ _ (h x (by simp))]
  simp only[List.nil_append,List.singleton_append,Z9M,if_true,ih]
theorem ZCs (b:UInt8):∀(v cur:List UInt8),(Z9M b cur v).length≤v.length+1
 |[],_=>by simp[Z9M]
 |c::v,cur=>by
  unfold Z9M
  split
  ·have:=ZCs b v [];simp;omega
  ·have:=ZCs b v (cur++[c]);simp;omega
theorem Z9N (b:UInt8) (s:List UInt8):(Z6L b s).length≤s.length+1:=ZCs b s []
theorem ZCt (b:UInt8):∀(v cur x:List UInt8),x∈Z9M b cur v→x.length≤cur.length+v.length
 |[],cur,x,h=>by simp[Z9M]at h;subst h;simp
 |c::v,cur,x,h=>by
  unfold Z9M at h
  split at h
  ·rcases List.mem_cons.mp h with rfl|h
   ·simp
   ·have:=ZCt b v [] x h;simp at this⊢;omega
  ·have:=ZCt b v _ x h;simp at this⊢;omega
theorem Z76 {b:UInt8} {s x:List UInt8} (h:x∈Z6L b s):x.length≤s.length:=by
 have:=ZCt b s [] x h;simpa using this
theorem ZBI (b:List UInt8):∀(l:List (List UInt8)),(Z7Q b l).length≤(l.map fun x=>x.length+b.length).sum
 |[]=>by simp[Z7Q]
 |[x]=>by simp[Z7Q]
 |x::y::r=>by
  have:=ZBI b (y::r)
  rw[Z8D (by simp)]
  simp only[List.length_append,List.map_cons,List.sum_cons]at this⊢
  omega
theorem ZDc (b:List UInt8):∀(l:List (List UInt8)) (x:List UInt8),l≠[]→Z7Q b (l++[x])=Z7Q b l++b++x
 |[],_,h=>absurd rfl h
 |[y],x,_=>rfl
 |y::z::r,x,_=>by
  have e1:=Z8D (b:=b) (x:=y) (r:=z::r) (by simp)
  have e2:=Z8D (b:=b) (x:=y) (r:=z::r++[x]) (by simp)
  rw[List.cons_append,e2,ZDc b (z::r) x (by simp),e1];simp
def StE (s:List UInt8):List Dat:=[.str (S s)]
theorem ZCu (neg sgn:Bool):∀(d n:Nat) (s:List UInt8),n<10^d→n≤9223372036854775808→(sgn=false→n<9223372036854775808)→s.length+d≤1000→
  Z75 (if sgn then-(n:Int)else(n:Int)) (S s) neg=some [.str (S (if neg then 45::(ZEs n++s)else ZEs n++s))]
 |d,n,s,h,hd,hp,hs=>by
  rw[ZAa]
  by_cases h0:n=0
  ·subst h0
   rw[eqT (by split<;>rfl),ZFS]
   cases neg
   ·rfl
   ·rw[show fitS (S [45]) (S s)=true from Z5u (by simp;omega)]
    simp only[Bool.not_true,cond_false,cond_true,Z6e]
    rfl
  ·have hne:eqI (if sgn then-(n:Int)else(n:Int)) 0=false:=eqF (by split<;>omega)
   cases d with
   |zero=>exfalso;simp at h;omega
   |succ d=>
    have ih:=ZCu neg sgn d (n/10) ([dig (n%10)]++s) (by rw[Nat.pow_succ]at h;omega) (by omega) (by omega) (by simp;omega)
    have hm:n%10<10:=Nat.mod_lt _ (by decide)
    have e48:w64 (48+((n%10:Nat):Int))=48+((n%10:Nat):Int):=Z5a ⟨by omega,by omega⟩
    have hu:strOf [[.int (IntKind.wrap .u8 (48+((n%10:Nat):Int)))]]=S [dig (n%10)]:=by
     rw[ZFR,ZGF (by omega) (by omega),Int.toNat_natCast]
    have hf:fitS (S [dig (n%10)]) (S s)=true:=Z5u (by simp;omega)
    have hfin:(if neg then 45::(ZEs (n/10)++([dig (n%10)]++s))else ZEs (n/10)++([dig (n%10)]++s))=(if neg then 45::(ZEs n++s)else ZEs n++s):=by
     rw[ZFT h0];simp
    rw[hfin]at ih
    rw[hne,Bool.not_false,cond_true]
    cases sgn with
    |false=>
     simp only[Bool.false_eq_true,if_false]at ih⊢
     have hp':=hp rfl
     rw[ZGI,ZGH,ltF (by omega),cond_false,e48,hu,hf,cond_true,Z6e,Z5a ⟨by omega,by omega⟩]
     exact ih
    |true=>
     simp only[if_true]at ih⊢
     have t1:Int.tmod (-(n:Int)) 10= -((n%10:Nat):Int):=by rw[Int.neg_tmod,ZGI]
     have t2:Int.tdiv (-(n:Int)) 10= -((n/10:Nat):Int):=by rw[Int.neg_tdiv,ZGH]
     rw[t1,t2,Z5a (n:= -((n/10:Nat):Int)) ⟨by omega,by omega⟩]
     by_cases hz:n%10=0
     ·rw[ltF (by omega),cond_false]
      have: -((n%10:Nat):Int)=((n%10:Nat):Int):=by omega
      rw[this,e48,hu,hf,cond_true,Z6e]
      exact ih
     ·rw[ltT (by omega),cond_true,show(0:Int)- -((n%10:Nat):Int)=((n%10:Nat):Int)by omega,Z5a (n:=((n%10:Nat):Int)) ⟨by omega,by omega⟩,e48,hu,hf,cond_true,Z6e]
      exact ih
theorem Z6j {n:Int} (h:I64 n):callI tE Z5N [.int n]=some [.str (S (fmt n))]:=by
 obtain⟨h1,h2⟩:=h
 rw[ZC9]
 by_cases h0:n=0
 ·subst h0;rfl
 ·rw[eqF h0,cond_false]
  by_cases hn:n<0
  ·have:=ZCu true true 20 n.natAbs [] (by omega) (by omega) (by simp) (by simp)
   simp only[if_true,List.append_nil]at this
   rw[show-((n.natAbs:Nat):Int)=n by omega]at this
   rw[ltT hn,this,Z8e hn,ZBi (by omega)]
  ·have:=ZCu false false 20 n.natAbs [] (by omega) (by omega) (by omega) (by simp)
   simp only[Bool.false_eq_true,if_false,List.append_nil]at this
   rw[show((n.natAbs:Nat):Int)=n by omega]at this
   rw[ltF (by omega),this,Z8f (by omega),ZBi (by omega)]
theorem ZEU {n:Nat} {k:Nat} (h:n<10^k) (hk:k≤9):n<1000000000:=Nat.lt_of_lt_of_le h (Nat.le_trans (Nat.pow_le_pow_right (by decide) hk) (by decide))
theorem ZHt {s:List UInt8} {n:Int} (hn:n.natAbs<1000000000) (hs:∀m:Int,fmt m=s→m.natAbs<1000000000→m=n):(bif !decide (fmt n=s)then some [Dat.int 0,.bool false]else some [.int n,.bool true])=some (pI s):=by
 unfold pI
 by_cases h:fmt n=s
 ·rw[Z8g.mpr ⟨h,hn⟩,decide_eq_true h];rfl
 ·rw[decide_eq_false h,ZCq.mpr (fun m h1 h2=>h (by rw[←hs m h1 h2];exact h1))];rfl
theorem ZCv {s:List UInt8} (hs:∀m:Int,fmt m=s→¬m.natAbs<1000000000):some [Dat.int 0,.bool false]=some (pI s):=by
 unfold pI
 rw[ZCq.mpr hs]
theorem ZBx {u:List UInt8} (h:u.all Z93=true) (hl:u.length≤9):ZF0 u<1000000000:=ZEU (ZDw u h) hl
theorem ZCw (s d:List UInt8) (neg:Bool) (hd:s=if neg then 45::d else d) (hl:1≤d.length∧d.length≤9) (h45:neg=false→d.head?≠some 45):Z5b (S s) (S d) 0 (szI (S d)) 0=some (pI s):=by
 have huniq:∀m:Int,fmt m=s→d=dec m.natAbs∧(neg=true↔m<0):=fun m hm=>by
  cases neg with
  |true=>
   simp only[if_true]at hd
   by_cases h0:m<0
   ·rw[Z8e h0,hd]at hm
    exact⟨(List.cons.inj hm).2.symm,by simp[h0]⟩
   ·rw[Z8f (by omega),hd]at hm
    exact absurd (by rw[hm];rfl) (ZBH m.natAbs)
  |false=>
   simp only[Bool.false_eq_true,if_false]at hd
   by_cases h0:m<0
   ·rw[Z8e h0,hd]at hm
    exact absurd (by rw[←hm];rfl) (h45 rfl)
   ·rw[Z8f (by omega),hd]at hm
    exact⟨hm.symm,by simp;omega⟩
 have hfin:∀n:Nat,d.all Z93=true→n=ZF0 d→(bif(ltI (szI (S d)) (szI (S s)))then(((callI tE Z5f [(.int (w64 (0-(n:Int))))])).bind (fun r0=>(bif(!(eqS (gs r0) (S s)))then(some [(.int 0),(.bool Bool.false)])else(some [(.int (w64 (0-(n:Int)))),(.bool Bool.true)]))))else(((callI tE Z5f [(.int (n:Int))])).bind (fun r0=>(bif(!(eqS (gs r0) (S s)))then(some [(.int 0),(.bool Bool.false)])else(some [(.int (n:Int)),(.bool Bool.true)])))))=some (pI s):=fun n ha hn=>by
  have hv:=ZBx ha hl.2
  have hw:w64 (0-(n:Int))= -(n:Int):=by rw[Z5a ⟨by omega,by omega⟩];omega
  rw[Z7w,Z7w,hw,Z6V ⟨by omega,by omega⟩,Z6V ⟨by omega,by omega⟩]
  simp only[ZDV,ZHl,ZBh]
  cases neg with
  |true=>
   simp only[if_true]at hd
   rw[ltT (by rw[hd];simp only[List.length_cons];omega),cond_true]
   refine ZHt (by omega) fun m hm _=>?_
   obtain⟨q1,q2⟩:=huniq m hm
   have:m<0:=q2.mp rfl
   rw[hn,q1,ZAH];omega
  |false=>
   simp only[Bool.false_eq_true,if_false]at hd
   rw[ltF (by rw[hd];omega),cond_false]
   refine ZHt (by omega) fun m hm _=>?_
   obtain⟨q1,q2⟩:=huniq m hm
   have:¬m<0:=fun h=>by have:=q2.mpr h;cases this
   rw[hn,q1,ZAH];omega
 have:=Z6i (l:=d) (L:=fun(n:Nat)=>Z5b (S s) (S d) (n:Int) (szI (S d))) (F:=fun _ _=>some (pI s)) (I:=fun n u _=>u.all Z93=true∧n=ZF0 u) (by omega) (fun u c v n e hI=>by
  obtain⟨ha,hn⟩:=hI
  have hul:u.length≤9:=by have:=hl.2;rw[e]at this;simp at this;omega
  have hv:=ZBx ha hul
  have hc0:=ZH2 c
  have step:Z5b (S s) (S d) (n:Int) (szI (S d)) u.length=if Z93 c then Z5b (S s) (S d) ((ZES n c:Nat):Int) (szI (S d)) (w64 (u.length+1))else some [.int 0,.bool false]:=by
   rw[Z9E]
   subst e
   rw[ZIu,ZIv,ZII]
   by_cases h1:c.toNat<48
   ·rw[ltT (by omega),if_neg (by rw[ZA6];omega)];rfl
   ·rw[ltF (by omega)]
    by_cases h2:57<c.toNat
    ·rw[ltT (a:=57) (by omega),if_neg (by rw[ZA6];omega)];rfl
    ·rw[ltF (b:=(c.toNat:Int)) (by omega),ZHW (by omega) (by omega),if_pos (ZA6.mpr (by omega))];rfl
  by_cases hc:Z93 c=true
  ·refine .inl ⟨ZES n c,?_,⟨by simp[ha,hc],by rw[ZCp,hn];rfl⟩,rfl⟩
   show Z5b _ _ _ _ _=_
   rw[step,if_pos hc]
  ·refine .inr ?_
   show Z5b _ _ _ _ _=_
   rw[step,if_neg hc]
   refine ZCv fun m hm hb=>hc ?_
   obtain⟨q1,_⟩:=huniq m hm
   have:=Z9S m.natAbs
   rw[←q1,e]at this
   exact List.all_eq_true.mp this c (by simp)) (fun n hI=>by
  show Z5b _ _ _ _ _=_
  rw[Z9E,ZH1,cond_false]
  exact hfin n hI.1 hI.2) 0 ⟨rfl,rfl⟩
 exact this
theorem ZH3 (c:UInt8) (s:List UInt8):ext (S (c::s)) (tn 1) (ByteArray.size (S (c::s)))=S s:=by
 rw[ZCn,ZHq]
 congr 1
 show List.drop 1 _=_
 simp
theorem ZBJ (s:List UInt8) (hs:s.length<4611686018427387904):callI tE Z6t [.str (S s)]=some (pI s):=by
 rw[ZCb]
 have plain:∀t:List UInt8,t=s→s.head?≠some 45→(bif(ltI (szI (S s)) 1)then(some [(Dat.int 0),(.bool Bool.false)])else(bif(ltI 9 (szI (S s)))then(some [(.int 0),(.bool Bool.false)])else(Z5b (S s) (S s) 0 (szI (S s)) 0)))=some (pI s):=fun t ht h45=>by
  rw[Z7w]
  have key:∀m:Int,fmt m=s→m.natAbs<1000000000→1≤s.length∧s.length≤9:=fun m hm hb=>by
   by_cases h0:m<0
   ·rw[Z8e h0]at hm
    exact absurd (by rw[←hm];rfl) h45
   ·rw[Z8f (by omega)]at hm
    have h9:(dec m.natAbs).length≤9:=(Z8d 9 _ (by omega)).mpr (by omega)
    have h1:dec m.natAbs≠[]:=ZHV _
    rw[hm]at h9 h1
    exact⟨by cases s<;>simp_all,h9⟩
  by_cases h1:s.length<1
  ·rw[ltT (by omega),cond_true]
   exact ZCv fun m hm hb=>by have:=key m hm hb;omega
  ·rw[ltF (by omega),cond_false]
   by_cases h2:9<s.length
   ·rw[ltT (by omega),cond_true]
    exact ZCv fun m hm hb=>by have:=key m hm hb;omega
   ·rw[ltF (by omega),cond_false]
    have:=ZCw s s false rfl ⟨by omega,by omega⟩ (fun _=>h45)
    rw[Z7w]at this
    exact this
 cases s with
 |nil=>exact plain _ rfl (by simp)
 |cons c d=>
  rw[ltT (b:=szI (S (c::d))) (by rw[Z7w];simp only[List.length_cons];omega),ZCF (by omega) (by rw[Z7w];simp only[List.length_cons];omega),show byteAt (S (c::d)) 0=(c.toNat:Int)from ZII [] d c]
  simp only[cond_true]
  by_cases hc:c=45
  ·subst hc
   rw[eqT (by rfl),cond_true,leT (by omega),leT (by rw[Z7w];simp only[List.length_cons];omega),ZH3]
   simp only[Bool.and_self,cond_true]
   have key:∀m:Int,fmt m=45::d→m.natAbs<1000000000→1≤d.length∧d.length≤9:=fun m hm hb=>by
    by_cases h0:m<0
    ·rw[Z8e h0]at hm
     have hm:=(List.cons.inj hm).2
     have h9:(dec m.natAbs).length≤9:=(Z8d 9 _ (by omega)).mpr (by omega)
     have h1:dec m.natAbs≠[]:=ZHV _
     rw[hm]at h9 h1
     exact⟨by cases d<;>simp_all,h9⟩
    ·rw[Z8f (by omega)]at hm
     exact absurd (by rw[hm];rfl) (ZBH m.natAbs)
   rw[Z7w]
   by_cases h1:d.length<1
   ·rw[ltT (by omega),cond_true]
    exact ZCv fun m hm hb=>by have:=key m hm hb;omega
   ·rw[ltF (by omega),cond_false]
    by_cases h2:9<d.length
    ·rw[ltT (by omega),cond_true]
     exact ZCv fun m hm hb=>by have:=key m hm hb;omega
    ·rw[ltF (by omega),cond_false]
     have:=ZCw (45::d) d true rfl ⟨by omega,by omega⟩ (fun h=>by cases h)
     rw[Z7w]at this
     exact this
  ·rw[show eqI (c.toNat:Int) 45=false from(ZFY c 45).trans (decide_eq_false hc),cond_false]
   exact plain _ rfl (by simpa using hc)
def flt (s:List UInt8):List UInt8:=s.filter Z93
theorem ZGJ (s:List UInt8):(flt s).all Z93=true:=by simp[flt]
theorem ZBK (s:List UInt8) (hs:s.length<4611686018427387904):callI tE Z5X [.str (S s)]=some (pI s):=by
 rw[ZCd]
 have hfl:∀u:List UInt8,(flt u).length≤u.length:=fun u=>List.length_filter_le _ _
 have hfin:∀(i:Int) (n k:Nat),n=ZF0 (flt (s.take 11))→k=(flt (s.take 11)).length→(ltI i (szI (S s))=false∨ltI i (szI (S s))=true∧ltI i 11=false)→Z5c (S s) (n:Int) (k:Int) i=some (pI s):=fun i n k hn hk hi=>by
  have hkl:k≤11:=by have:=hfl (s.take 11);simp at this;omega
  have hv:=ZDw _ (ZGJ (s.take 11))
  rw[←hn,←hk]at hv
  have hv11:n<100000000000:=Nat.lt_of_lt_of_le hv (Nat.le_trans (Nat.pow_le_pow_right (by decide) hkl) (by decide))
  have hw:w64 (0-(n:Int))= -(n:Int):=by rw[Z5a ⟨by omega,by omega⟩];omega
  have huniq:∀m:Int,fmt m=s→m.natAbs<1000000000→k≤9∧s.length≤10∧n=m.natAbs:=fun m hm hb=>by
   have h9:(dec m.natAbs).length≤9:=(Z8d 9 _ (by omega)).mpr (by omega)
   have hd:flt (dec m.natAbs)=dec m.natAbs:=List.filter_eq_self.mpr (fun c hc=>List.all_eq_true.mp (Z9S _) c hc)
   by_cases h0:m<0
   ·rw[Z8e h0]at hm
    have ht:s.take 11=s:=List.take_of_length_le (by rw[←hm];simp;omega)
    have hf:flt s=dec m.natAbs:=by rw[←hm];show flt (45::_)=_;rw[flt,List.filter_cons_of_neg (by decide)];exact hd
    rw[ht,hf]at hn hk
    refine⟨by omega,by rw[←hm];simp;omega,by rw[hn,ZAH]⟩
   ·rw[Z8f (by omega)]at hm
    have ht:s.take 11=s:=List.take_of_length_le (by rw[←hm];omega)
    rw[ht,←hm,hd]at hn hk
    refine⟨by omega,by rw[←hm];omega,by rw[hn,ZAH]⟩
  have tail:∀x:Int,I64 x→x.natAbs=n→(∀m:Int,fmt m=s→m.natAbs<1000000000→m=x)→(bif(ltI 9 (k:Int))then(some [(Dat.int 0),(.bool Bool.false)])else(bif(ltI 10 (szI (S s)))then(some [(.int 0),(.bool Bool.false)])else(((callI tE Z5N [(.int x)])).bind (fun r0=>(bif(!(eqS (gs r0) (S s)))then(some [(.int 0),(.bool Bool.false)])else(some [(.int x),(.bool Bool.true)]))))))=some (pI s):=fun x hx hxn hu=>by
   by_cases h1:9<k
   ·rw[ltT (by omega),cond_true]
    exact ZCv fun m hm hb=>by have:=huniq m hm hb;omega
   ·rw[ltF (by omega),cond_false,Z7w]
    by_cases h2:10<s.length
    ·rw[ltT (by omega),cond_true]
     exact ZCv fun m hm hb=>by have:=huniq m hm hb;omega
    ·rw[ltF (by omega),cond_false,Z6j hx]
     simp only[ZDV,ZHl,ZBh]
     exact ZHt (by rw[hxn];exact ZEU hv (by omega)) hu
  have pos:(s.head?≠some 45)→∀m:Int,fmt m=s→m.natAbs<1000000000→m=(n:Int):=fun h45 m hm hb=>by
   have:=huniq m hm hb
   by_cases h0:m<0
   ·rw[Z8e h0]at hm
    exact absurd (by rw[←hm];rfl) h45
   ·omega
  have e:Z5c (S s) (n:Int) (k:Int) i=(bif(ltI 0 (szI (S s)))then(bif(inR 0 (szI (S s)))then(bif(eqI (byteAt (S s) 0) 45)then(bif(ltI 9 (k:Int))then(some [(.int 0),(.bool Bool.false)])else(bif(ltI 10 (szI (S s)))then(some [(.int 0),(.bool Bool.false)])else(((callI tE Z5N [(.int (w64 (0-(n:Int))))])).bind (fun r0=>(bif(!(eqS (gs r0) (S s)))then(some [(.int 0),(.bool Bool.false)])else(some [(.int (w64 (0-(n:Int)))),(.bool Bool.true)]))))))else(bif(ltI 9 (k:Int))then(some [(Dat.int 0),(.bool Bool.false)])else(bif(ltI 10 (szI (S s)))then(some [(.int 0),(.bool Bool.false)])else(((callI tE Z5N [(.int (n:Int))])).bind (fun r0=>(bif(!(eqS (gs r0) (S s)))then(some [(.int 0),(.bool Bool.false)])else(some [(.int (n:Int)),(.bool Bool.true)])))))))else none)else(bif(ltI 9 (k:Int))then(some [(Dat.int 0),(.bool Bool.false)])else(bif(ltI 10 (szI (S s)))then(some [(.int 0),(.bool Bool.false)])else(((callI tE Z5N [(.int (n:Int))])).bind (fun r0=>(bif(!(eqS (gs r0) (S s)))then(some [(.int 0),(.bool Bool.false)])else(some [(.int (n:Int)),(.bool Bool.true)]))))))):=by
   rw[Z9F]
   rcases hi with hi|⟨hi,hi2⟩
   ·rw[hi];rfl
   ·rw[hi,hi2];rfl
  rw[e]
  cases s with
  |nil=>exact tail n ⟨by omega,by omega⟩ (by omega) (pos (by simp))
  |cons c d=>
   rw[ltT (b:=szI (S (c::d))) (by rw[Z7w];simp only[List.length_cons];omega),ZCF (by omega) (by rw[Z7w];simp only[List.length_cons];omega),show byteAt (S (c::d)) 0=(c.toNat:Int)from ZII [] d c]
   simp only[cond_true]
   by_cases hc:c=45
   ·subst hc
    rw[eqT (by rfl),cond_true,hw]
    refine tail _ ⟨by omega,by omega⟩ (by omega) fun m hm hb=>?_
    have:=huniq m hm hb
    by_cases h0:m<0
    ·omega
    ·rw[Z8f (by omega)]at hm
     exact absurd (by rw[hm];rfl) (ZBH m.natAbs)
   ·rw[show eqI (c.toNat:Int) 45=false from(ZFY c 45).trans (decide_eq_false hc),cond_false]
    exact tail n ⟨by omega,by omega⟩ (by omega) (pos (by simpa using hc))
 have hsplit:s=s.take 11++s.drop 11:=(List.take_append_drop 11 s).symm
 have htl:(s.take 11).length≤11:=by simp;omega
 have:=Z6i (l:=s.take 11) (L:=fun(p:Nat×Nat)=>Z5c (S s) (p.1:Int) (p.2:Int)) (F:=fun _ _=>some (pI s)) (I:=fun p u _=>p.1=ZF0 (flt u)∧p.2=(flt u).length) (by omega) (fun u c v p e hI=>by
  obtain⟨n,k⟩:=p
  obtain⟨hn,hk⟩:=hI
  simp only at hn hk
  have hs':s=u++c::(v++s.drop 11):=by
   have h0:=hsplit
   rw[e,List.append_assoc,List.cons_append]at h0
   exact h0
  have hul:u.length<11:=by have:=htl;rw[e]at this;simp at this;omega
  have hkl:k≤u.length:=by rw[hk];exact hfl u
  have hv:=ZDw _ (ZGJ u)
  rw[←hn,←hk]at hv
  have hv11:n<100000000000:=Nat.lt_of_lt_of_le hv (Nat.le_trans (Nat.pow_le_pow_right (by decide) (show k≤11 by omega)) (by decide))
  have hc0:=ZH2 c
  have step:Z5c (S s) (n:Int) (k:Int) u.length=if Z93 c then Z5c (S s) ((ZES n c:Nat):Int) ((k+1:Nat):Int) (w64 (u.length+1))else Z5c (S s) (n:Int) (k:Int) (w64 (u.length+1)):=by
   rw[Z9F,hs',ZIu,ZIv,ZII,ltT (by omega)]
   by_cases h1:c.toNat<48
   ·rw[leF (by omega),if_neg (by rw[ZA6];omega)];rfl
   ·rw[leT (a:=48) (by omega)]
    by_cases h2:57<c.toNat
    ·rw[leF (a:=(c.toNat:Int)) (by omega),if_neg (by rw[ZA6];omega)];rfl
    ·rw[leT (a:=(c.toNat:Int)) (by omega),ZHs hv11 (by omega),if_pos (ZA6.mpr (by omega)),Z8X (i:=k) (by omega)];rfl
  by_cases hc:Z93 c=true
  ·refine .inl ⟨(ZES n c,k+1),?_,⟨?_,?_⟩,rfl⟩
   ·show Z5c _ _ _ _=_
    rw[step,if_pos hc]
   ·show ZES n c=ZF0 (flt (u++[c]))
    rw[flt,List.filter_append,List.filter_cons_of_pos hc,List.filter_nil,ZCp,hn];rfl
   ·show k+1=(flt (u++[c])).length
    rw[flt,List.filter_append,List.filter_cons_of_pos hc,List.filter_nil,List.length_append,hk];rfl
  ·refine .inl ⟨(n,k),?_,⟨?_,?_⟩,rfl⟩
   ·show Z5c _ _ _ _=_
    rw[step,if_neg hc]
   ·show n=ZF0 (flt (u++[c]))
    rw[flt,List.filter_append,List.filter_cons_of_neg hc,List.filter_nil,List.append_nil,hn];rfl
   ·show k=(flt (u++[c])).length
    rw[flt,List.filter_append,List.filter_cons_of_neg hc,List.filter_nil,List.append_nil,hk];rfl) (fun p hI=>by
  obtain⟨n,k⟩:=p
  refine hfin _ n k hI.1 hI.2 ?_
  by_cases h:s.length≤11
  ·left;rw[List.take_of_length_le h];exact ZH1 s
  ·right;exact⟨ltT (by rw[Z7w,List.length_take];omega),ltF (by rw[List.length_take];omega)⟩) (0,0) ⟨rfl,rfl⟩
 exact this
theorem ZBL (l:List (List UInt8)) (x:List UInt8):List.append (l.map StE) [[Dat.str (S x)]]=(l++[x]).map StE:=by simp[StE]
structure ZIw where
 out:List (List UInt8)
 frm:Nat
def ZIx (b:UInt8) (s:List UInt8) (x:ZIw) (u v:List UInt8):Prop:=x.frm≤u.length∧x.out.length≤u.length∧x.out++Z9M b (u.drop x.frm) v=Z6L b s
theorem ZFa {b:UInt8} {s u v:List UInt8} {c:UInt8} {x:ZIw} (h:ZIx b s x u (c::v)):ZIx b s (if c=b then⟨x.out++[u.drop x.frm],u.length+1⟩else x) (u++[c]) v:=by
 obtain⟨h1,h2,h3⟩:=h
 unfold Z9M at h3
 split
 ·rename_i hc
  rw[if_pos hc]at h3
  refine⟨by simp,by simp;omega,?_⟩
  rw[←h3]
  simp only[List.append_assoc,List.singleton_append]
  rw[show List.drop (u.length+1) (u++[c])=[]from List.drop_eq_nil_of_le (by simp)]
 ·rename_i hc
  rw[if_neg hc]at h3
  refine⟨by simp;omega,by simp;omega,?_⟩
  rw[←h3,List.drop_append_of_le_length h1]
theorem ZCN {s u v:List UInt8} {k:Nat} (hs:s=u++v) (h:k≤u.length):ext (S s) k u.length=S (u.drop k):=by
 rw[ZHq,hs,List.take_left' rfl]
theorem ZIS (b:UInt8) (s:List UInt8) (h:s.length<1099511627776):callI tE Z8B [.str (S s),.int (b.toNat:Int)]=some [.sl ((Z6L b s).map StE)]:=by
 rw[ZFt]
 have:=Z6i (l:=s) (L:=fun(x:ZIw) i=>Z7L (S s) (b.toNat:Int) (x.frm:Int) (szI (S s)) i (x.out.map StE)) (F:=fun _ _=>some [.sl ((Z6L b s).map StE)]) (I:=ZIx b s) (by omega) (fun u c v x e hI=>by
  have hul:u.length<1099511627776:=by rw[e]at h;simp at h;omega
  obtain⟨h1,h2,h3⟩:=hI
  refine .inl ⟨_,?_,ZFa ⟨h1,h2,h3⟩,rfl⟩
  show Z7L _ _ _ _ _ _=Z7L _ _ _ _ _ _
  rw[ZAb]
  have hle:(u.length:Int)≤szI (S s):=by rw[Z7w,e];simp only[List.length_append,List.length_cons];omega
  have q1:ltI (u.length:Int) (szI (S s))=true:=by rw[e];exact ZIu u v c
  have q2:inR (u.length:Int) (szI (S s))=true:=by rw[e];exact ZIv u v c
  have q3:byteAt (S s) (u.length:Int)=(c.toNat:Int):=by rw[e];exact ZII u v c
  rw[q1,q2,q3,ZFY]
  by_cases hc:c=b
  ·rw[decide_eq_true hc,if_pos hc,ZJI (by omega) (by omega) hle,Z5o,show fitM (Nat.succ x.out.length) 16=true from Z9X (by omega),Z8X (by omega),Z8q,Z8q,ZCN e h1,ZBL]
   rfl
  ·rw[decide_eq_false hc,if_neg hc];rfl) (fun x hI=>by
  obtain⟨h1,h2,h3⟩:=hI
  show Z7L _ _ _ _ _ _=_
  rw[ZAb,ZH1,cond_false,leT (a:=0) (by omega),leT (b:=szI (S s)) (by rw[Z7w];omega),Z5o,show fitM (Nat.succ x.out.length) 16=true from Z9X (by omega),Z8q,ZCn,ZCN (v:=[]) (by simp) h1,ZBL,←h3]
  rfl) ⟨[],0⟩ ⟨by simp,by simp,rfl⟩
 exact this
theorem ZIT (b:UInt8) (s:List UInt8) (h:s.length<1099511627776):callI tE Z71 [.str (S s),.int (b.toNat:Int)]=some [.sl ((Z6L b s).map StE)]:=by
 rw[ZEL]
 have:=Z6i (l:=s) (L:=fun(x:ZIw) i=>Z6n (S s) (b.toNat:Int) (x.frm:Int) i (x.out.map StE)) (F:=fun _ _=>some [.sl ((Z6L b s).map StE)]) (I:=ZIx b s) (by omega) (fun u c v x e hI=>by
  have hul:u.length<1099511627776:=by rw[e]at h;simp at h;omega
  obtain⟨h1,h2,h3⟩:=hI
  refine .inl ⟨_,?_,ZFa ⟨h1,h2,h3⟩,rfl⟩
  show Z6n _ _ _ _ _=Z6n _ _ _ _ _
  rw[ZA2]
  have hle:(u.length:Int)≤szI (S s):=by rw[Z7w,e];simp only[List.length_append,List.length_cons];omega
  have q1:ltI (u.length:Int) (szI (S s))=true:=by rw[e];exact ZIu u v c
  have q2:inR (u.length:Int) (szI (S s))=true:=by rw[e];exact ZIv u v c
  have q3:byteAt (S s) (u.length:Int)=(c.toNat:Int):=by rw[e];exact ZII u v c
  rw[q1,q2,q3,ZFY]
  by_cases hc:c=b
  ·rw[decide_eq_true hc,if_pos hc,ZJI (by omega) (by omega) hle,Z5o,show fitM (Nat.succ x.out.length) 16=true from Z9X (by omega),Z8X (by omega),Z8q,Z8q,ZCN e h1,ZBL]
   rfl
  ·rw[decide_eq_false hc,if_neg hc];rfl) (fun x hI=>by
  obtain⟨h1,h2,h3⟩:=hI
  show Z6n _ _ _ _ _=_
  rw[ZA2,ZH1,cond_false,leT (a:=0) (by omega),leT (b:=szI (S s)) (by rw[Z7w];omega),Z5o,show fitM (Nat.succ x.out.length) 16=true from Z9X (by omega),Z8q,ZCn,ZCN (v:=[]) (by simp) h1,ZBL,←h3]
  rfl) ⟨[],0⟩ ⟨by simp,by simp,rfl⟩
 exact this
theorem ZF1 (b:List UInt8) (u:List (List UInt8)) (x:List UInt8):Z7Q b (u++[x])=if u=[]then x else Z7Q b u++b++x:=by
 split
 ·rename_i h;subst h;rfl
 ·rename_i h;exact ZDc b u x h
theorem ZF2 (b:List UInt8) (l:List (List UInt8)) (hl:l.length<4611686018427387904) (h:(l.map fun x=>x.length+b.length).sum<4611686018427387904):callI tE Z7o [.sl (l.map StE),.str (S b)]=some [.str (S (Z7Q b l))]:=by
 rw[ZDs]
 have:=Z6i (l:=l) (L:=fun s i=>Z6Y (S b) (S s) (l.map StE) (lenI (l.map StE)) i) (F:=fun _ _=>some [.str (S (Z7Q b l))]) (I:=fun s u _=>s=Z7Q b u) (by omega) (fun u x v s e hI=>by
  refine .inl ⟨Z7Q b (u++[x]),?_,rfl,rfl⟩
  show Z6Y _ _ _ _ _=Z6Y _ _ _ _ _
  have hb:(Z7Q b u).length+(x.length+b.length)<4611686018427387904:=by
   have:=ZBI b u
   rw[e]at h
   simp only[List.map_append,List.map_cons,List.sum_append,List.sum_cons]at h
   omega
  subst e
  rw[Z9o,ZF1,hI]
  simp only[ZEF,ZEP,Z8q,ZDt,cond_true,StE,ZHl]
  by_cases hu:u=[]
  ·subst hu
   rw[if_pos rfl,ltF (by simp),cond_false,Z5u (by simp[Z7Q];omega),Z6e]
   rfl
  ·have hul:0<u.length:=List.length_pos_iff.mpr hu
   rw[if_neg hu,ltT (by omega),Z5u (by omega),Z6e,Z5u (by rw[List.length_append];omega),Z6e]
   rfl) (fun s hs=>by
  show Z6Y _ _ _ _ _=_
  rw[Z9o,ZDu,cond_false,hs]) [] rfl
 exact this
section
variable {α:Type}
open Classical in
noncomputable def unf (P:α→Prop) (f:α→List UInt8) (s:List UInt8):Option α:=if h:∃a,P a∧f a=s then some h.choose else none
theorem ZCO {P:α→Prop} {f:α→List UInt8} (inj:∀a b,P a→P b→f a=f b→a=b) {s:List UInt8} {a:α}:unf P f s=some a↔P a∧f a=s:=by
 unfold unf
 constructor
 ·intro h
  split at h
  ·rename_i hx;cases h;exact hx.choose_spec
  ·cases h
 ·intro h
  have hx:∃a,P a∧f a=s:=⟨a,h⟩
  rw[dif_pos hx]
  exact congrArg some (inj _ _ hx.choose_spec.1 h.1 (hx.choose_spec.2.trans h.2.symm))
theorem ZCP {P:α→Prop} {f:α→List UInt8} {s:List UInt8}:unf P f s=none↔∀a,P a→f a≠s:=by
 unfold unf
 constructor
 ·intro h a h1 h2
  rw[dif_pos ⟨a,h1,h2⟩]at h;cases h
 ·intro h
  rw[dif_neg]
  rintro ⟨a,h1,h2⟩
  exact h a h1 h2
end
theorem ZA7 {b:UInt8} (hb:Z93 b=false) (h45:b≠45) (n:Int):b∉fmt n:=fun h=>by
 rcases ZET b h with h|h
 ·rw[hb]at h;cases h
 ·exact h45 h
noncomputable def num (s:List UInt8):Int:=(ZAe s).getD 0
noncomputable def isN (s:List UInt8):Bool:=(ZAe s).isSome
theorem ZH4 (s:List UInt8):pI s=[.int (num s),.bool (isN s)]:=by
 unfold pI num isN
 cases ZAe s<;>rfl
theorem ZF3 {s:List UInt8} (h:isN s=true):fmt (num s)=s∧(num s).natAbs<1000000000:=by
 unfold isN at h
 cases hp:ZAe s with
 |none=>rw[hp]at h;cases h
 |some n=>
  have:=Z8g.mp hp
  unfold num
  rw[hp]
  exact this
theorem Z9Y {n:Int} (h:n.natAbs<1000000000):num (fmt n)=n∧isN (fmt n)=true:=by
 unfold num isN;rw[ZFu h];exact⟨rfl,rfl⟩
theorem ZHX (s:List UInt8):(num s).natAbs<1000000000:=by
 unfold num
 cases hp:ZAe s with
 |none=>decide
 |some n=>exact(Z8g.mp hp).2
theorem ZCx (s:List UInt8):I64 (num s):=by have:=ZHX s;exact⟨by omega,by omega⟩
theorem ZJK:tn 0=0:=rfl
theorem ZJL:tn 1=1:=rfl
theorem ZJM:tn 2=2:=rfl
theorem ZCy {α:Type} (e:α→List Dat) (l:List α) (n:Nat):eqI (lenI (l.map e)) (n:Int)=decide (l.length=n):=by
 unfold eqI;rw[Z5L];congr 1;apply propext;omega
theorem ZIU {α:Type} {l:List α} (h:l.length=3):∃a b c,l=[a,b,c]:=by
 match l,h with
 |[a,b,c],_=>exact⟨a,b,c,rfl⟩
theorem ZIV {α:Type} {l:List α} (h:l.length=2):∃a b,l=[a,b]:=by
 match l,h with
 |[a,b],_=>exact⟨a,b,rfl⟩
def ZAR (r:Rw):List UInt8:=if r.ok then Z7Q [46] [fmt r.k,fmt r.v,fmt r.w]else[]
theorem ZCz {r:Rw} (h:r.ok=true):ZAR r=Z7Q [46] [fmt r.k,fmt r.v,fmt r.w]:=if_pos h
theorem ZDy {r:Rw} (h:r.ok=false):ZAR r=[]:=if_neg (by simp[h])
theorem ZEV {r:Rw} (h:r.ok=true):I64 r.k∧I64 r.v∧I64 r.w∧r.k.natAbs<1000000000∧r.v.natAbs<1000000000∧r.w.natAbs<1000000000:=by
 have:=Rw.ok_iff.mp h
 exact⟨⟨by omega,by omega⟩,⟨by omega,by omega⟩,⟨by omega,by omega⟩,by omega,by omega,by omega⟩
theorem ZBk (b x y z:List UInt8):Z7Q b [x,y,z]=x++b++y++b++z:=by simp[Z7Q]
theorem ZFb (r:Rw):(ZAR r).length≤62:=by
 unfold ZAR
 split
 ·rename_i h
  obtain⟨h1,h2,h3,_⟩:=ZEV h
  have a1:=Z6I h1
  have a2:=Z6I h2
  have a3:=Z6I h3
  rw[ZBk];simp;omega
 ·simp
theorem ZBM {r:Rw} (h:r.ok=true):Z6L 46 (ZAR r)=[fmt r.k,fmt r.v,fmt r.w]:=by
 rw[ZCz h]
 refine ZAq 46 _ (by simp) fun x hx=>?_
 simp only[List.mem_cons,List.not_mem_nil,or_false]at hx
 rcases hx with rfl|rfl|rfl<;>exact ZA7 (by decide) (by decide) _
theorem ZFc (a b:Rw) (ha:a.ok=true) (hb:b.ok=true) (h:ZAR a=ZAR b):a=b:=by
 have e1:=ZBM ha
 rw[h,ZBM hb]at e1
 simp only[List.cons.injEq,and_true]at e1
 exact Rw.eq_of (ZDx e1.1).symm (ZDx e1.2.1).symm (ZDx e1.2.2).symm
theorem ZHu {r:Rw} (h:r.ok=true):ZAR r≠[]:=by
 rw[ZCz h,ZBk];simp
theorem ZDd {b:UInt8} (hb:Z93 b=false) (h45:b≠45) (h46:b≠46) (r:Rw):b∉ZAR r:=by
 unfold ZAR
 split
 ·rw[ZBk]
  simp only[List.mem_append,List.mem_singleton,not_or]
  exact⟨⟨⟨⟨ZA7 hb h45 _,h46⟩,ZA7 hb h45 _⟩,h46⟩,ZA7 hb h45 _⟩
 ·simp
theorem ZFv (r:Rw):callI tE Z92 [.int r.k,.int r.v,.int r.w]=some [.str (S (ZAR r))]:=by
 simp only[ZCC,ZBF,gA]
 cases h:r.ok
 ·rw[ZDy h];rfl
 ·obtain⟨h1,h2,h3,_⟩:=ZEV h
  have a1:=Z6I h1
  have a2:=Z6I h2
  have a3:=Z6I h3
  simp only[Bool.not_true,cond_false,Z6V h1,Z6V h2,Z6V h3,gA]
  rw[Z5u (by simp;omega),Z6e,Z5u (by simp;omega),Z6e,Z5u (by simp;omega),Z6e,Z5u (by simp;omega),Z6e,ZCz h,ZBk]
  rfl
theorem ZDe (r:Rw):callI tE Z7T [.int r.k,.int r.v,.int r.w]=some [.str (S (ZAR r))]:=by
 simp only[ZCA,ZCk,gA]
 cases h:r.ok
 ·rw[ZDy h];rfl
 ·obtain⟨h1,h2,h3,_⟩:=ZEV h
  have a1:=Z6I h1
  have a2:=Z6I h2
  have a3:=Z6I h3
  simp only[Bool.not_true,cond_false,Z6j h1,Z6j h2,Z6j h3,gA]
  rw[Z5u (by simp;omega),Z6e,Z5u (by simp;omega),Z6e,Z5u (by simp;omega),Z6e,Z5u (by simp;omega),Z6e,ZCz h,ZBk]
  rfl
noncomputable def ZAQ (s:List UInt8):Option Rw:=unf (fun r:Rw=>r.ok=true) ZAR s
theorem ZAI {s:List UInt8} {r:Rw}:ZAQ s=some r↔r.ok=true∧ZAR r=s:=ZCO ZFc
theorem ZAJ {s:List UInt8}:ZAQ s=none↔∀r:Rw,r.ok=true→ZAR r≠s:=ZCP
noncomputable def pR (s:List UInt8):List Dat:=match ZAQ s with
 |some r=>[.int r.k,.int r.v,.int r.w,.bool true]
 |none=>[.int 0,.int 0,.int 0,.bool false]
theorem ZIW {s:List UInt8} (h:(Z6L 46 s).length≠3):pR s=[.int 0,.int 0,.int 0,.bool false]:=by
 unfold pR
 rw[ZAJ.mpr fun r hr e=>h (by rw[←e,ZBM hr];rfl)]
theorem ZJY {s a b c:List UInt8} (h:Z6L 46 s=[a,b,c]):pR s=bif isN a&&(isN b&&(isN c&&(⟨num a,num b,num c⟩:Rw).ok))then[.int (num a),.int (num b),.int (num c),.bool true]else[.int 0,.int 0,.int 0,.bool false]:=by
 have hs:Z7Q [46] [a,b,c]=s:=by rw[←h];exact ZCM 46 s
 unfold pR
 cases hb:isN a&&(isN b&&(isN c&&(⟨num a,num b,num c⟩:Rw).ok))
 ·rw[ZAJ.mpr fun r hr e=>?_]
  ·rfl
  ·have e2:=ZBM hr
   rw[e,h]at e2
   simp only[List.cons.injEq,and_true]at e2
   obtain⟨rfl,rfl,rfl⟩:=e2
   obtain⟨_,_,_,q1,q2,q3⟩:=ZEV hr
   obtain⟨u1,u2⟩:=Z9Y q1
   obtain⟨u3,u4⟩:=Z9Y q2
   obtain⟨u5,u6⟩:=Z9Y q3
   rw[u1,u2,u3,u4,u5,u6]at hb
   have:(⟨r.k,r.v,r.w⟩:Rw)=r:=rfl
   rw[this,hr]at hb
   cases hb
 ·simp only[Bool.and_eq_true]at hb
  obtain⟨h1,h2,h3,h4⟩:=hb
  rw[ZAI.mpr ⟨h4,by rw[ZCz h4];simp only[(ZF3 h1).1,(ZF3 h2).1,(ZF3 h3).1];exact hs⟩]
  rfl
theorem ZGK (s:List UInt8) (hs:s.length<1099511627776):callI tE Z9U [.str (S s)]=some (pR s):=by
 rw[ZCc]
 have hc:=ZIS 46 s hs
 rw[show((46:UInt8).toNat:Int)=46 from rfl]at hc
 simp only[hc,gA]
 rw[show eqI (lenI ((Z6L 46 s).map StE)) 3=decide ((Z6L 46 s).length=3)from ZCy StE _ 3]
 by_cases h3:(Z6L 46 s).length=3
 ·rw[decide_eq_true h3]
  obtain⟨a,b,c,hl⟩:=ZIU h3
  have la:a.length<4611686018427387904:=by have:=Z76 (b:=46) (s:=s) (x:=a) (by rw[hl];simp);omega
  have lb:b.length<4611686018427387904:=by have:=Z76 (b:=46) (s:=s) (x:=b) (by rw[hl];simp);omega
  have lc:c.length<4611686018427387904:=by have:=Z76 (b:=46) (s:=s) (x:=c) (by rw[hl];simp);omega
  rw[ZJY hl,hl]
  simp only[List.map_cons,List.map_nil,StE,ZJK,ZJL,ZJM,gA,ZBJ a la,ZBJ b lb,ZBJ c lc,ZH4,ZBF ⟨num a,num b,num c⟩,Bool.not_true,cond_false,ZG7]
  cases isN a<;>cases isN b<;>cases isN c<;>cases(⟨num a,num b,num c⟩:Rw).ok<;>rfl
 ·rw[decide_eq_false h3,ZIW h3];rfl
theorem ZGL (s:List UInt8) (hs:s.length<1099511627776):callI tE Z9V [.str (S s)]=some (pR s):=by
 rw[ZCe]
 have hc:=ZIT 46 s hs
 rw[show((46:UInt8).toNat:Int)=46 from rfl]at hc
 simp only[hc,gA]
 rw[show eqI (lenI ((Z6L 46 s).map StE)) 3=decide ((Z6L 46 s).length=3)from ZCy StE _ 3]
 by_cases h3:(Z6L 46 s).length=3
 ·rw[decide_eq_true h3]
  obtain⟨a,b,c,hl⟩:=ZIU h3
  have la:a.length<4611686018427387904:=by have:=Z76 (b:=46) (s:=s) (x:=a) (by rw[hl];simp);omega
  have lb:b.length<4611686018427387904:=by have:=Z76 (b:=46) (s:=s) (x:=b) (by rw[hl];simp);omega
  have lc:c.length<4611686018427387904:=by have:=Z76 (b:=46) (s:=s) (x:=c) (by rw[hl];simp);omega
  have hsj:Z7Q [46] [a,b,c]=s:=by rw[←hl];exact ZCM 46 s
  have hne:s≠[]:=by rw[←hsj,ZBk];simp
  rw[hl]
  simp only[List.map_cons,List.map_nil,StE,ZJK,ZJL,ZJM,gA,ZBK a la,ZBK b lb,ZBK c lc,ZH4,ZDe ⟨num a,num b,num c⟩,Bool.not_true,cond_false,ZG7,ZBh]
  show(bif decide (ZAR ⟨num a,num b,num c⟩=s)then some [Dat.int (num a),.int (num b),.int (num c),.bool true]else some [.int 0,.int 0,.int 0,.bool false])=some (pR s)
  unfold pR
  by_cases he:ZAR ⟨num a,num b,num c⟩=s
  ·rw[decide_eq_true he]
   have hok:(⟨num a,num b,num c⟩:Rw).ok=true:=by
    cases h:(⟨num a,num b,num c⟩:Rw).ok with
    |true=>rfl
    |false=>rw[ZDy h]at he;exact absurd he.symm hne
   rw[ZAI.mpr ⟨hok,he⟩];rfl
  ·rw[decide_eq_false he,ZAJ.mpr fun r hr e=>he ?_]
   ·rfl
   ·have e2:=ZBM hr
    rw[e,hl]at e2
    simp only[List.cons.injEq,and_true]at e2
    obtain⟨rfl,rfl,rfl⟩:=e2
    obtain⟨_,_,_,q1,q2,q3⟩:=ZEV hr
    rw[(Z9Y q1).1,(Z9Y q2).1,(Z9Y q3).1]
    exact e
 ·rw[decide_eq_false h3,ZIW h3];rfl
def ZAS (l:List Rw):List UInt8:=Z7Q [32] (l.map ZAR)
def Z6c (l:List Rw):List UInt8:=if aok l then ZAS l else[]
theorem Z8R {l:List Rw} (h:aok l=true):Z6c l=ZAS l:=if_pos h
theorem ZEW {l:List Rw} (h:aok l=false):Z6c l=[]:=if_neg (by simp[h])
theorem ZGM (l:List Rw):((l.map ZAR).map fun x=>x.length+[(32:UInt8)].length).sum≤63*l.length:=by
 induction l with
 |nil=>simp
 |cons a l ih=>
  have:=ZFb a
  simp only[List.map_cons,List.sum_cons,List.length_cons,List.length_nil]at ih⊢
  omega
theorem ZEX (l:List Rw):(ZAS l).length≤63*l.length:=Nat.le_trans (ZBI _ _) (ZGM l)
theorem Z69 (l:List Rw):(Z6c l).length≤1512:=by
 unfold Z6c
 split
 ·rename_i h;have:=Z8Q h;have:=ZEX l;omega
 ·simp
theorem ZD0 {l:List Rw} (h:l≠[]):Z6L 32 (ZAS l)=l.map ZAR:=by
 refine ZAq 32 _ (by simpa using h) fun x hx=>?_
 obtain⟨r,_,rfl⟩:=List.mem_map.mp hx
 exact ZDd (by decide) (by decide) (by decide) r
theorem ZBy:∀{l m:List Rw},(∀r∈l,r.ok=true)→(∀r∈m,r.ok=true)→l.map ZAR=m.map ZAR→l=m
 |[],[],_,_,_=>rfl
 |[],_::_,_,_,h=>by simp at h
 |_::_,[],_,_,h=>by simp at h
 |a::l,b::m,h1,h2,h=>by
  simp only[List.map_cons,List.cons.injEq]at h
  rw[ZFc a b (h1 a (by simp)) (h2 b (by simp)) h.1,ZBy (fun r hr=>h1 r (by simp[hr])) (fun r hr=>h2 r (by simp[hr])) h.2]
theorem ZD1 {l:List Rw} (ha:∀r∈l,r.ok=true) (h:ZAS l=[]):l=[]:=by
 cases l with
 |nil=>rfl
 |cons a l=>
  have h1:=ZHu (ha a (by simp))
  cases l with
  |nil=>exact absurd h h1
  |cons b l=>
   have:ZAS (a::b::l)=ZAR a++[32]++ZAS (b::l):=Z8D (by simp)
   rw[this]at h
   simp at h
theorem ZEY {l m:List Rw} (h1:∀r∈l,r.ok=true) (h2:∀r∈m,r.ok=true) (h:ZAS l=ZAS m):l=m:=by
 by_cases hl:l=[]
 ·subst hl
  exact(ZD1 h2 h.symm).symm
 ·by_cases hm:m=[]
  ·subst hm;exact ZD1 h1 h
  ·have e:=ZD0 hl
   rw[h,ZD0 hm]at e
   exact(ZBy h2 h1 e).symm
theorem ZGN (l m:List Rw) (h1:aok l=true) (h2:aok m=true) (h:Z6c l=Z6c m):l=m:=by
 rw[Z8R h1,Z8R h2]at h
 exact ZEY (ZCl h1) (ZCl h2) h
noncomputable def ZAK (s:List UInt8):Option (List Rw):=unf (fun l=>aok l=true) Z6c s
theorem Z8y {s:List UInt8} {l:List Rw}:ZAK s=some l↔aok l=true∧Z6c l=s:=ZCO ZGN
theorem ZBz {s:List UInt8}:ZAK s=none↔∀l:List Rw,aok l=true→Z6c l≠s:=ZCP
noncomputable def pRs (s:List UInt8):List Dat:=match ZAK s with
 |some l=>[.sl (l.map Rw.e),.bool true]
 |none=>[.sl [],.bool false]
theorem ZGO:pRs []=[.sl [],.bool true]:=by
 unfold pRs
 rw[show ZAK []=some []from Z8y.mpr ⟨rfl,rfl⟩];rfl
theorem ZHv (u:List (List UInt8)) (r:Rw):List.append (u.map StE) [[Dat.str (S (ZAR r))]]=(u++[ZAR r]).map StE:=by simp[StE]
theorem ZHw {l:List Rw} (h:l.length<1099511627776):((l.map ZAR).map fun x=>x.length+[(32:UInt8)].length).sum<4611686018427387904:=by
 have:=ZGM l;omega
theorem ZBN (l:List Rw) (h:l.length<1099511627776):callI tE Z6s [.sl (l.map Rw.e)]=some [.str (S (ZAS l))]:=by
 rw[ZCa]
 have:=Z6i (l:=l) (L:=fun(s:List (List UInt8)) i=>Z6Q (l.map Rw.e) (lenI (l.map Rw.e)) i (s.map StE)) (F:=fun _ _=>some [.str (S (ZAS l))]) (I:=fun s u _=>s=u.map ZAR) (by omega) (fun u r v s e hI=>by
  have hul:u.length<1099511627776:=by rw[e]at h;simp at h;omega
  refine .inl ⟨(u++[r]).map ZAR,?_,rfl,rfl⟩
  show Z6Q _ _ _ _=Z6Q _ _ _ _
  subst e
  rw[Z9D,hI]
  simp only[ZEF,ZEP,Z8q,ZDt,cond_true,Rw.e,gA,ZFv,Z5o]
  rw[show fitM (Nat.succ (u.map ZAR).length) 16=true from Z9X (by simp;omega),ZHv]
  simp) (fun s hs=>by
  show Z6Q _ _ _ _=_
  rw[Z9D,ZDu,cond_false,hs,ZF2 [32] (l.map ZAR) (by simp;omega) (ZHw h)];rfl) [] rfl
 exact this
theorem ZB3 (l:List Rw):callI tE Z7J [.sl (l.map Rw.e)]=some [.str (S (Z6c l))]:=by
 simp only[ZBf,ZAc,gA]
 cases h:aok l
 ·rw[ZEW h];rfl
 ·have:=Z8Q h
  rw[Bool.not_true,cond_false,ZBN l (by omega),Z8R h];rfl
theorem Z8h (l:List Rw) (h:l.length<1099511627776):callI tE Z5n [.sl (l.map Rw.e)]=some [.str (S (Z6c l))]:=by
 rw[ZBe]
 cases hok:aok l
 ·rw[ZEW hok,Z7X,Z8x l (by omega),hok]
  cases ltI 0 (lenI (l.map Rw.e))<;>rfl
 ·rw[Z8R hok]
  have:=Z6i (l:=l) (L:=fun s i=>Z5v (l.map Rw.e) (S s) i) (F:=fun _ _=>some [.str (S (ZAS l))]) (I:=fun s u _=>s=ZAS u) (by omega) (fun u r v s e hI=>by
   refine .inl ⟨ZAS (u++[r]),?_,rfl,rfl⟩
   show Z5v _ _ _=Z5v _ _ _
   have hul:u.length<1099511627776:=by rw[e]at h;simp at h;omega
   have l1:=ZEX u
   have l2:=ZFb r
   rw[Z7X,Z8x l (by omega),hok]
   subst e
   simp only[ZEF,ZEP,Z8q,ZDt,cond_true,Rw.e,gA,ZDe,hI]
   unfold ZAS at*
   have e1:(u++[r]).map ZAR=u.map ZAR++[ZAR r]:=by simp
   rw[e1,ZF1]
   by_cases hu:u=[]
   ·subst hu
    rw[if_pos (by rfl),ltF (by simp),cond_false,Z5u (by simp[Z7Q];omega),Z6e];rfl
   ·have hul:0<u.length:=List.length_pos_iff.mpr hu
    rw[if_neg (by simpa using hu),ltT (by omega),Z5u (by simp;omega),Z6e,Z5u (by simp;omega),Z6e];rfl) (fun s hs=>by
   show Z5v _ _ _=_
   rw[Z7X,ZDu,cond_false,hs]) [] rfl
  exact this
theorem ZFd {s x:List UInt8} {u v:List (List UInt8)} (hne:s≠[]) (e:Z6L 32 s=u++x::v) (h:ZAQ x=none):pRs s=[.sl [],.bool false]:=by
 unfold pRs
 rw[ZBz.mpr fun l hl he=>?_]
 rw[Z8R hl]at he
 have hl0:l≠[]:=by rintro rfl;exact hne he.symm
 have e2:=ZD0 hl0
 rw[he,e]at e2
 have hx:x∈l.map ZAR:=by rw[←e2];simp
 obtain⟨r,hr,rfl⟩:=List.mem_map.mp hx
 exact ZAJ.mp h r (ZCl hl r hr) rfl
theorem ZGP {s:List UInt8} {out:List Rw} (hne:s≠[]) (e:Z6L 32 s=out.map ZAR) (ha:∀r∈out,r.ok=true):(bif aok out then some [Dat.sl (out.map Rw.e),.bool true]else some [.sl [],.bool false])=some (pRs s):=by
 have hs:ZAS out=s:=by unfold ZAS;rw[←e];exact ZCM 32 s
 unfold pRs
 cases h:aok out
 ·rw[ZBz.mpr fun l hl he=>?_]
  ·rfl
  ·rw[Z8R hl,←hs]at he
   rw[ZEY (ZCl hl) ha he,h]at hl
   cases hl
 ·rw[Z8y.mpr ⟨h,by rw[Z8R h];exact hs⟩];rfl
theorem ZGQ {x:List UInt8} {r:Rw} (h:ZAQ x=some r):pR x=[.int r.k,.int r.v,.int r.w,.bool true]:=by unfold pR;rw[h]
theorem ZGR {x:List UInt8} (h:ZAQ x=none):pR x=[.int 0,.int 0,.int 0,.bool false]:=by unfold pR;rw[h]
theorem ZHY (u:List Rw) (r:Rw):List.append (u.map Rw.e) [[Dat.int r.k,.int r.v,.int r.w]]=(u++[r]).map Rw.e:=by simp[Rw.e]
theorem ZBl (s:List UInt8) (hs:s.length<1073741824):callI tE Z6y [.str (S s)]=some (pRs s):=by
 rw[ZCD]
 by_cases hne:s=[]
 ·subst hne;rw[ZGO,show eqS (S []) (S [])=true from(ZBh _ _).trans (decide_eq_true rfl)];rfl
 ·rw[show eqS (S s) (S [])=false from(ZBh _ _).trans (decide_eq_false hne),cond_false]
  have hc:=ZIS 32 s (by omega)
  rw[show((32:UInt8).toNat:Int)=32 from rfl]at hc
  have hcl:=Z9N 32 s
  simp only[hc,gA]
  have:=Z6i (l:=Z6L 32 s) (L:=fun(o:List Rw) i=>Z5p (lenI ((Z6L 32 s).map StE)) i (o.map Rw.e) ((Z6L 32 s).map StE)) (F:=fun _ _=>some (pRs s)) (I:=fun o u _=>u=o.map ZAR∧∀r∈o,r.ok=true) (by omega) (fun u x v o e hI=>by
   have hx:x.length≤s.length:=Z76 (b:=32) (by rw[e];simp)
   have hul:u.length<1099511627776:=by rw[e]at hcl;simp at hcl;omega
   have hol:o.length=u.length:=by rw[hI.1];simp
   have step:Z5p (lenI ((Z6L 32 s).map StE)) u.length (o.map Rw.e) ((Z6L 32 s).map StE)=match ZAQ x with
     |some r=>Z5p (lenI ((Z6L 32 s).map StE)) (w64 (u.length+1)) ((o++[r]).map Rw.e) ((Z6L 32 s).map StE)
     |none=>some [.sl [],.bool false]:=by
    rw[Z8w,e]
    simp only[ZEF,ZEP,Z8q,ZDt,cond_true,StE,gA,ZGK x (by omega)]
    cases hp:ZAQ x with
    |none=>rw[ZGR hp];rfl
    |some r=>
     rw[ZGQ hp,Z5o,show fitM (Nat.succ o.length) 24=true from Z9X (by omega)]
     simp only[gA,ZHY]
     rfl
   cases hp:ZAQ x with
   |none=>
    refine .inr ?_
    show Z5p _ _ _ _=_
    rw[step,hp,ZFd hne e hp]
   |some r=>
    obtain⟨q1,q2⟩:=ZAI.mp hp
    refine .inl ⟨o++[r],?_,⟨by rw[hI.1];simp[q2],fun z hz=>?_⟩,rfl⟩
    ·show Z5p _ _ _ _=_
     rw[step,hp]
    ·rcases List.mem_append.mp hz with hz|hz
     ·exact hI.2 z hz
     ·simp at hz;subst hz;exact q1) (fun o hI=>by
   show Z5p _ _ _ _=_
   rw[Z8w,ZDu,cond_false,ZAc]
   simp only[gA,ZG7]
   exact ZGP hne hI.1 hI.2) [] ⟨rfl,by simp⟩
  exact this
theorem ZBm (s:List UInt8) (hs:s.length<1073741824):callI tE Z5x [.str (S s)]=some (pRs s):=by
 rw[ZCE]
 have hc:=ZIT 32 s (by omega)
 rw[show((32:UInt8).toNat:Int)=32 from rfl]at hc
 have hcl:=Z9N 32 s
 simp only[hc,gA]
 by_cases hne:s=[]
 ·subst hne
  rw[Z7k,ZGO,show eqS (S []) (S [])=true from(ZBh _ _).trans (decide_eq_true rfl)]
  have:=Z8x [] (by simp)
  simp only[List.map_nil]at this
  rw[this]
  cases ltI 0 (lenI ((Z6L 32 []).map StE))<;>rfl
 ·have:=Z6i (l:=Z6L 32 s) (L:=fun(o:List Rw) i=>Z5q (S s) i (o.map Rw.e) ((Z6L 32 s).map StE)) (F:=fun _ _=>some (pRs s)) (I:=fun o u _=>u=o.map ZAR∧∀r∈o,r.ok=true) (by omega) (fun u x v o e hI=>by
   have hx:x.length≤s.length:=Z76 (b:=32) (by rw[e];simp)
   have hul:u.length<1099511627776:=by rw[e]at hcl;simp at hcl;omega
   have hol:o.length=u.length:=by rw[hI.1];simp
   have step:Z5q (S s) u.length (o.map Rw.e) ((Z6L 32 s).map StE)=match ZAQ x with
     |some r=>Z5q (S s) (w64 (u.length+1)) ((o++[r]).map Rw.e) ((Z6L 32 s).map StE)
     |none=>some [.sl [],.bool false]:=by
    rw[Z7k,e,show eqS (S s) (S [])=false from(ZBh _ _).trans (decide_eq_false hne)]
    simp only[ZEF,ZEP,Z8q,ZDt,cond_true,Bool.not_false,StE,gA,ZGL x (by omega)]
    cases hp:ZAQ x with
    |none=>rw[ZGR hp];rfl
    |some r=>
     rw[ZGQ hp,Z5o,show fitM (Nat.succ o.length) 24=true from Z9X (by omega)]
     simp only[gA,ZHY]
     rfl
   cases hp:ZAQ x with
   |none=>
    refine .inr ?_
    show Z5q _ _ _ _=_
    rw[step,hp,ZFd hne e hp]
   |some r=>
    obtain⟨q1,q2⟩:=ZAI.mp hp
    refine .inl ⟨o++[r],?_,⟨by rw[hI.1];simp[q2],fun z hz=>?_⟩,rfl⟩
    ·show Z5q _ _ _ _=_
     rw[step,hp]
    ·rcases List.mem_append.mp hz with hz|hz
     ·exact hI.2 z hz
     ·simp at hz;subst hz;exact q1) (fun o hI=>by
   show Z5q _ _ _ _=_
   have hol:o.length=(Z6L 32 s).length:=by rw[hI.1];simp
   rw[Z7k,ZDu,cond_false,Z8x o (by omega)]
   simp only[gA,ZG7]
   exact ZGP hne hI.1 hI.2) [] ⟨rfl,by simp⟩
  exact this
theorem ZHZ {b:Rows} (z st:Int):∀(n:Nat) (i h:Int) (acc:Rows),Cu b i→acc.length+n≤100000→
  ∃(l:Rows) (i' h':Int),Z6X z st n b i h acc=some [.str (strOf l),.sl b,.int i',.int h']∧Cu b i'∧l.length=acc.length+n
 |0,i,h,acc,c,_=>by
  rw[Z9m,ltF (by omega),cond_false]
  exact⟨acc,i,h,rfl,c,rfl⟩
 |n+1,i,h,acc,c,hl=>by
  obtain⟨r,i1,h1,e1,c1,_⟩:=ZEy (h:=h) c
  have hf:fitM (Nat.succ (len acc)) 1=true:=Z9X (show Nat.succ acc.length*1≤70368744177664 by omega)
  have hw:w64 (((n+1:Nat):Int)-1)=(n:Int):=by rw[Z5a ⟨by omega,by omega⟩];omega
  rw[Z9m,ltT (by omega),cond_true,e1]
  simp only[gA,hf,hw,cond_true]
  have go:∀x:List Dat,∃(l:Rows) (i' h':Int),Z6X z st n b i1 h1 (List.append acc [x])=some [.str (strOf l),.sl b,.int i',.int h']∧Cu b i'∧l.length=acc.length+(n+1):=fun x=>by
   have ha:(List.append acc [x]).length=acc.length+1:=by simp
   obtain⟨l,i',h',e2,c2,hl2⟩:=ZHZ z st n i1 h1 (List.append acc [x]) c1 (by rw[ha];omega)
   exact⟨l,i',h',e2,c2,by rw[hl2,ha];omega⟩
  cases eqI st 1
  ·cases eqI st 2
   ·exact go _
   ·exact go _
  ·cases eqI st 2
   ·exact go _
   ·exact go _
theorem ZGS (l:Rows):∃s:List UInt8,strOf l=S s∧s.length=l.length:=⟨_,rfl,by simp⟩
theorem ZJ2 {b:Rows} {i h:Int} (most:Int) (c:Cu b i) (hm:0≤most) (hm2:most≤1000):∃(s:List UInt8) (i' h':Int),callI tE Z9L [.sl b,.int i,.int h,.int most]=some [.str (S s),.sl b,.int i',.int h']∧Cu b i'∧(s.length:Int)≤most:=by
 obtain⟨k,i1,h1,e1,c1,_⟩:=ZAd (h:=h) 4 c
 obtain⟨n,i2,h2,e2,c2,p2,q2,_⟩:=ZAd (h:=h1) (most+1) c1
 rw[ZDp,show w64 (most+1)=most+1 from Z5a ⟨by omega,by omega⟩]
 simp only[e1,e2,gA]
 obtain⟨m,rfl⟩:∃m:Nat,n=m:=⟨n.toNat,by omega⟩
 have:=q2 (by omega)
 obtain⟨l,i',h',e3,c3,hl⟩:=ZHZ 0 k m i2 h2 [] c2 (by simp;omega)
 obtain⟨s,hs1,hs2⟩:=ZGS l
 rw[hs1]at e3
 exact⟨s,i',h',e3,c3,by rw[hs2,hl];simp;omega⟩
theorem ZF4 (s:List UInt8) (i j:Nat):∃t:List UInt8,ext (S s) i j=S t∧t.length≤s.length:=⟨_,ZHq s i j,by simp;omega⟩
theorem ZIX {b:Rows} {i h:Int} (s:List UInt8) (c:Cu b i) (hs:s.length≤1000000):∃(t:List UInt8) (i' h':Int),callI tE Z9w [.sl b,.int i,.int h,.str (S s)]=some [.str (S t),.sl b,.int i',.int h']∧Cu b i'∧t.length≤2*s.length+3:=by
 rw[ZDK,Z7w]
 by_cases h0:s.length=0
 ·rw[eqT (by omega),cond_true]
  obtain⟨t,i1,h1,e1,c1,q1⟩:=ZJ2 (h:=h) 3 c (by omega) (by omega)
  simp only[e1,gA]
  exact⟨t,_,_,rfl,c1,by omega⟩
 ·rw[eqF (by omega),cond_false]
  obtain⟨k,i1,h1,e1,c1,k1,k2,_⟩:=ZAd (h:=h) (s.length:Int) c
  obtain⟨w,i2,h2,e2,c2,_⟩:=ZAd (h:=h1) 4 c1
  obtain⟨y,i3,h3,e3,c3,_⟩:=ZEy (h:=h2) c2
  obtain⟨v,i4,h4,e4,c4,v1,v2,_⟩:=ZAd (h:=h2) 255 c2
  have:=k2 (by omega)
  have w1:w64 (k+1)=k+1:=Z5a ⟨by omega,by omega⟩
  have l1:leI 0 k=true:=leT k1
  have l2:leI k (s.length:Int)=true:=leT (by omega)
  have l3:leI 0 (k+1)=true:=leT (by omega)
  have l4:leI (k+1) (s.length:Int)=true:=leT (by omega)
  have l5:inR k (s.length:Int)=true:=ZCF k1 (by omega)
  obtain⟨a,a1,a2⟩:=ZF4 s 0 (tn k)
  obtain⟨d,d1,d2⟩:=ZF4 s (tn (k+1)) (ByteArray.size (S s))
  obtain⟨e,e5,e6⟩:=ZF4 s (tn k) (ByteArray.size (S s))
  have one:∀n:Int,∃t:List UInt8,strOf [[.int n]]=S t∧t.length=1:=fun n=>⟨_,ZFR n,rfl⟩
  simp only[e1,e2,e3,e4,gA,w1,l1,l2,l3,l4,l5,a1,d1,e5,Bool.and_self,cond_true]
  cases eqI w 0
  ·cases eqI w 1
   ·cases eqI w 2
    ·obtain⟨f,f1,f2⟩:=one (Go.IntKind.wrap .u8 (Go.bits Go.BinOp.xor .i64 (w64 (byteAt (S s) k)) (w64 (1+v))))
     simp only[f1,cond_false]
     rw[Z5u (by omega),Z6e,Z5u (by simp;omega),Z6e]
     exact⟨_,_,_,rfl,c4,by simp;omega⟩
    ·exact⟨a,_,_,rfl,c2,by omega⟩
   ·obtain⟨f,f1,f2⟩:=one (Go.IntKind.wrap .u8 y)
    simp only[f1,cond_true,cond_false]
    rw[Z5u (by omega),Z6e,Z5u (by simp;omega),Z6e]
    exact⟨_,_,_,rfl,c3,by simp;omega⟩
  ·simp only[cond_true]
   rw[Z5u (by omega),Z6e]
   exact⟨_,_,_,rfl,c2,by simp;omega⟩
set_option maxRecDepth 100000
noncomputable def Z5T (x0 x1 x2:Int) (x3:Rows):Option (List Dat):=loopK tE Z5W 0 ⟨[(0,(.own (1000000,0))),(1,(.i .i64 x0)),(2,(.i .i64 x1)),(3,(.fn 307 [])),(8,(.i .i64 x2))],[((1000000,0),(.row 224 x3 Bool.true 0 []))]⟩
noncomputable def Z5U (x0 x1 x2 x3:Int) (x4:Rows):Option (List Dat):=loopK tE Z5W 1 ⟨[(0,(.own (1000000,0))),(1,(.i .i64 x0)),(2,(.i .i64 x1)),(3,(.fn 307 [])),(8,(.i .i64 x2)),(9,(.i .i64 x3))],[((1000000,0),(.row 224 x4 Bool.true 0 []))]⟩
theorem Z5z (x0 x1 x2:Int) (x3:Rows):Z5T x0 x1 x2 x3=(bif(ltI x2 x1)then(Z5U x0 x1 x2 x2 x3)else(some [(.sl x3)])):=(loopK_run (by kernel_rfl)).trans (by kernel_rfl)
theorem Z60 (x0 x1 x2 x3:Int) (x4:Rows):Z5U x0 x1 x2 x3 x4=(bif(ltI x0 x3)then(bif(inR x3 (lenI x4))then(bif(inR (w64 (x3-1)) (lenI x4))then(((callI tE Z5h [(.int (gn (at' x4 (tn x3)))),(.int (gn (tk 1 (at' x4 (tn x3))))),(.int (gn (tk 2 (at' x4 (tn x3))))),(.int (gn (at' x4 (tn (w64 (x3-1)))))),(.int (gn (tk 1 (at' x4 (tn (w64 (x3-1))))))),(.int (gn (tk 2 (at' x4 (tn (w64 (x3-1)))))))])).bind (fun r0=>(bif(ltI (gn r0) 0)then(bif(inR (w64 (x3-1)) (lenI x4))then(bif(inR x3 (lenI x4))then(bif(inR x3 (lenI x4))then(bif(inR (w64 (x3-1)) (lenI (updR x4 (tn x3) 0 [(.int (gn (at' x4 (tn (w64 (x3-1)))))),(.int (gn (tk 1 (at' x4 (tn (w64 (x3-1))))))),(.int (gn (tk 2 (at' x4 (tn (w64 (x3-1)))))))])))then(Z5U x0 x1 x2 (w64 (x3-1)) (updR (updR x4 (tn x3) 0 [(.int (gn (at' x4 (tn (w64 (x3-1)))))),(.int (gn (tk 1 (at' x4 (tn (w64 (x3-1))))))),(.int (gn (tk 2 (at' x4 (tn (w64 (x3-1)))))))]) (tn (w64 (x3-1))) 0 [(.int (gn (at' x4 (tn x3)))),(.int (gn (tk 1 (at' x4 (tn x3))))),(.int (gn (tk 2 (at' x4 (tn x3)))))]))else none)else none)else none)else none)else(Z5T x0 x1 (w64 (x2+1)) x4))))else none)else none)else(Z5T x0 x1 (w64 (x2+1)) x4)):=(loopK_run (by kernel_rfl)).trans (by kernel_rfl)
theorem Z77 (a0:Rows) (a1 a2:Int):callI tE Z5W [.sl a0,.int a1,.int a2]=(Z5T a1 a2 (w64 (a1+1)) a0):=(callI_run rfl (by kernel_rfl)).trans (by kernel_rfl)
noncomputable def Z5d (x0 x1 x2 x3:Int) (x4:Rows):Option (List Dat):=loopK tE Z5g 0 ⟨[(0,(.own (1000000,0))),(1,(.i .i64 x0)),(2,(.i .i64 x1)),(3,(.i .i64 x2)),(10,(.i .i64 x3))],[((1000000,0),(.row 224 x4 Bool.true 0 []))]⟩
theorem Z6w (x0 x1 x2 x3:Int) (x4:Rows):Z5d x0 x1 x2 x3 x4=(bif(ltI x3 x2)then(bif(inR (w64 (x1+x3)) (lenI x4))then(bif(inR (w64 (x0+x3)) (lenI x4))then(bif(inR (w64 (x0+x3)) (lenI x4))then(bif(inR (w64 (x1+x3)) (lenI (updR x4 (tn (w64 (x0+x3))) 0 [(.int (gn (at' x4 (tn (w64 (x1+x3)))))),(.int (gn (tk 1 (at' x4 (tn (w64 (x1+x3))))))),(.int (gn (tk 2 (at' x4 (tn (w64 (x1+x3)))))))])))then(Z5d x0 x1 x2 (w64 (x3+1)) (updR (updR x4 (tn (w64 (x0+x3))) 0 [(.int (gn (at' x4 (tn (w64 (x1+x3)))))),(.int (gn (tk 1 (at' x4 (tn (w64 (x1+x3))))))),(.int (gn (tk 2 (at' x4 (tn (w64 (x1+x3)))))))]) (tn (w64 (x1+x3))) 0 [(.int (gn (at' x4 (tn (w64 (x0+x3)))))),(.int (gn (tk 1 (at' x4 (tn (w64 (x0+x3))))))),(.int (gn (tk 2 (at' x4 (tn (w64 (x0+x3)))))))]))else none)else none)else none)else none)else(some [(.sl x4)])):=(loopK_run (by kernel_rfl)).trans (by kernel_rfl)
theorem Z94 (a0:Rows) (a1 a2 a3:Int):callI tE Z5g [.sl a0,.int a1,.int a2,.int a3]=(Z5d a1 a2 a3 0 a0):=(callI_run rfl (by kernel_rfl)).trans (by kernel_rfl)
noncomputable def Z5r (x0 x1 x2 x3 x4:Int) (x5:Rows):Option (List Dat):=loopK tE Z61 0 ⟨[(0,(.own (1000000,0))),(1,(.i .i64 x0)),(2,(.i .i64 x1)),(3,(.i .i64 x2)),(4,(.fn 307 [])),(10,(.i .i64 x3)),(11,(.i .i64 x4))],[((1000000,0),(.row 224 x5 Bool.true 0 []))]⟩
theorem Z8i (x0 x1 x2 x3 x4:Int) (x5:Rows):Z5r x0 x1 x2 x3 x4 x5=(bif(!(eqI x3 x4))then(bif(ltI x4 x3)then(((callI tE Z5g [(.sl x5),(.int (w64 (x1-x3))),(.int x1),(.int x4)])).bind (fun r0=>(Z5r x0 x1 x2 (w64 (x3-x4)) x4 (gl r0))))else(((callI tE Z5g [(.sl x5),(.int (w64 (x1-x3))),(.int (w64 ((w64 (x1+x4))-x3))),(.int x3)])).bind (fun r0=>(Z5r x0 x1 x2 x3 (w64 (x4-x3)) (gl r0)))))else(((callI tE Z5g [(.sl x5),(.int (w64 (x1-x3))),(.int x1),(.int x3)])).bind (fun r0=>(some [(.sl (gl r0))])))):=(loopK_run (by kernel_rfl)).trans (by kernel_rfl)
theorem Z9i (a0:Rows) (a1 a2 a3:Int):callI tE Z61 [.sl a0,.int a1,.int a2,.int a3]=(Z5r a1 a2 a3 (w64 (a2-a1)) (w64 (a3-a2)) a0):=(callI_run rfl (by kernel_rfl)).trans (by kernel_rfl)
noncomputable def Z5P (x0 x1 x2 x3 x4:Int) (x5:Rows):Option (List Dat):=loopK tE Za 0 ⟨[(0,(.own (1000000,0))),(1,(.i .i64 x0)),(2,(.i .i64 x1)),(3,(.i .i64 x2)),(4,(.fn 307 [])),(10,(.i .i64 x3)),(11,(.i .i64 x4))],[((1000000,0),(.row 224 x5 Bool.true 0 []))]⟩
noncomputable def Z5Q (x0 x1 x2 x3 x4:Int) (x5:Rows):Option (List Dat):=loopK tE Za 2 ⟨[(0,(.own (1000000,0))),(1,(.i .i64 x0)),(2,(.i .i64 x1)),(3,(.i .i64 x2)),(4,(.fn 307 [])),(14,(.i .i64 x3)),(15,(.i .i64 x4))],[((1000000,0),(.row 224 x5 Bool.true 0 []))]⟩
noncomputable def Z5M (x0 x1 x2 x3 x4 x5 x6 x7:Int) (x8:Rows):Option (List Dat):=loopK tE Za 4 ⟨[(0,(.own (1000000,0))),(1,(.i .i64 x0)),(2,(.i .i64 x1)),(3,(.i .i64 x2)),(4,(.fn 307 [])),(18,(.i .i64 x3)),(19,(.i .i64 x4)),(20,(.i .i64 x5)),(21,(.i .i64 x6)),(22,(.i .i64 x7))],[((1000000,0),(.row 224 x8 Bool.true 0 []))]⟩
noncomputable def Z5R (x0 x1 x2 x3 x4:Int) (x5:Rows):Option (List Dat):=loopK tE Za 1 ⟨[(0,(.own (1000000,0))),(1,(.i .i64 x0)),(2,(.i .i64 x1)),(3,(.i .i64 x2)),(10,(.i .i64 x3)),(13,(.i .i64 x4))],[((1000000,0),(.row 224 x5 Bool.true 0 []))]⟩
noncomputable def Z5S (x0 x1 x2 x3 x4:Int) (x5:Rows):Option (List Dat):=loopK tE Za 3 ⟨[(0,(.own (1000000,0))),(1,(.i .i64 x0)),(2,(.i .i64 x1)),(3,(.i .i64 x2)),(14,(.i .i64 x3)),(17,(.i .i64 x4))],[((1000000,0),(.row 224 x5 Bool.true 0 []))]⟩
theorem Z78 (x0 x1 x2 x3 x4:Int) (x5:Rows):Z5P x0 x1 x2 x3 x4 x5=(bif(ltI x3 x4)then(bif(inR (w64 ((Go.IntKind.wrap .u64 (w64 (x3+x4)))/(Int.pow 2 (ite ((tn 1)≤(Go.IntKind.bits .u64)) (tn 1) 64)))) (lenI x5))then(bif(inR x0 (lenI x5))then(((callI tE Z5h [(.int (gn (at' x5 (tn (w64 ((Go.IntKind.wrap .u64 (w64 (x3+x4)))/(Int.pow 2 (ite ((tn 1)≤(Go.IntKind.bits .u64)) (tn 1) 64)))))))),(.int (gn (tk 1 (at' x5 (tn (w64 ((Go.IntKind.wrap .u64 (w64 (x3+x4)))/(Int.pow 2 (ite ((tn 1)≤(Go.IntKind.bits .u64)) (tn 1) 64))))))))),(.int (gn (tk 2 (at' x5 (tn (w64 ((Go.IntKind.wrap .u64 (w64 (x3+x4)))/(Int.pow 2 (ite ((tn 1)≤(Go.IntKind.bits .u64)) (tn 1) 64))))))))),(.int (gn (at' x5 (tn x0)))),(.int (gn (tk 1 (at' x5 (tn x0))))),(.int (gn (tk 2 (at' x5 (tn x0)))))])).bind (fun r0=>(bif(ltI (gn r0) 0)then(Z5P x0 x1 x2 (w64 ((w64 ((Go.IntKind.wrap .u64 (w64 (x3+x4)))/(Int.pow 2 (ite ((tn 1)≤(Go.IntKind.bits .u64)) (tn 1) 64))))+1)) x4 x5)else(Z5P x0 x1 x2 x3 (w64 ((Go.IntKind.wrap .u64 (w64 (x3+x4)))/(Int.pow 2 (ite ((tn 1)≤(Go.IntKind.bits .u64)) (tn 1) 64)))) x5))))else none)else none)else(Z5R x0 x1 x2 x3 x0 x5)):=(loopK_run (by kernel_rfl)).trans (by kernel_rfl)
theorem Z79 (x0 x1 x2 x3 x4:Int) (x5:Rows):Z5Q x0 x1 x2 x3 x4 x5=(bif(ltI x3 x4)then(bif(inR x1 (lenI x5))then(bif(inR (w64 ((Go.IntKind.wrap .u64 (w64 (x3+x4)))/(Int.pow 2 (ite ((tn 1)≤(Go.IntKind.bits .u64)) (tn 1) 64)))) (lenI x5))then(((callI tE Z5h [(.int (gn (at' x5 (tn x1)))),(.int (gn (tk 1 (at' x5 (tn x1))))),(.int (gn (tk 2 (at' x5 (tn x1))))),(.int (gn (at' x5 (tn (w64 ((Go.IntKind.wrap .u64 (w64 (x3+x4)))/(Int.pow 2 (ite ((tn 1)≤(Go.IntKind.bits .u64)) (tn 1) 64)))))))),(.int (gn (tk 1 (at' x5 (tn (w64 ((Go.IntKind.wrap .u64 (w64 (x3+x4)))/(Int.pow 2 (ite ((tn 1)≤(Go.IntKind.bits .u64)) (tn 1) 64))))))))),(.int (gn (tk 2 (at' x5 (tn (w64 ((Go.IntKind.wrap .u64 (w64 (x3+x4)))/(Int.pow 2 (ite ((tn 1)≤(Go.IntKind.bits .u64)) (tn 1) 64)))))))))])).bind (fun r0=>(bif(!(ltI (gn r0) 0))then(Z5Q x0 x1 x2 (w64 ((w64 ((Go.IntKind.wrap .u64 (w64 (x3+x4)))/(Int.pow 2 (ite ((tn 1)≤(Go.IntKind.bits .u64)) (tn 1) 64))))+1)) x4 x5)else(Z5Q x0 x1 x2 x3 (w64 ((Go.IntKind.wrap .u64 (w64 (x3+x4)))/(Int.pow 2 (ite ((tn 1)≤(Go.IntKind.bits .u64)) (tn 1) 64)))) x5))))else none)else none)else(Z5S x0 x1 x2 x3 x1 x5)):=(loopK_run (by kernel_rfl)).trans (by kernel_rfl)
theorem Z7A (x0 x1 x2 x3 x4 x5 x6 x7:Int) (x8:Rows):Z5M x0 x1 x2 x3 x4 x5 x6 x7 x8=(bif(ltI x5 x6)then(bif(inR (w64 (x7-(w64 ((Go.IntKind.wrap .u64 (w64 (x5+x6)))/(Int.pow 2 (ite ((tn 1)≤(Go.IntKind.bits .u64)) (tn 1) 64)))))) (lenI x8))then(bif(inR (w64 ((Go.IntKind.wrap .u64 (w64 (x5+x6)))/(Int.pow 2 (ite ((tn 1)≤(Go.IntKind.bits .u64)) (tn 1) 64)))) (lenI x8))then(((callI tE Z5h [(.int (gn (at' x8 (tn (w64 (x7-(w64 ((Go.IntKind.wrap .u64 (w64 (x5+x6)))/(Int.pow 2 (ite ((tn 1)≤(Go.IntKind.bits .u64)) (tn 1) 64)))))))))),(.int (gn (tk 1 (at' x8 (tn (w64 (x7-(w64 ((Go.IntKind.wrap .u64 (w64 (x5+x6)))/(Int.pow 2 (ite ((tn 1)≤(Go.IntKind.bits .u64)) (tn 1) 64))))))))))),(.int (gn (tk 2 (at' x8 (tn (w64 (x7-(w64 ((Go.IntKind.wrap .u64 (w64 (x5+x6)))/(Int.pow 2 (ite ((tn 1)≤(Go.IntKind.bits .u64)) (tn 1) 64))))))))))),(.int (gn (at' x8 (tn (w64 ((Go.IntKind.wrap .u64 (w64 (x5+x6)))/(Int.pow 2 (ite ((tn 1)≤(Go.IntKind.bits .u64)) (tn 1) 64)))))))),(.int (gn (tk 1 (at' x8 (tn (w64 ((Go.IntKind.wrap .u64 (w64 (x5+x6)))/(Int.pow 2 (ite ((tn 1)≤(Go.IntKind.bits .u64)) (tn 1) 64))))))))),(.int (gn (tk 2 (at' x8 (tn (w64 ((Go.IntKind.wrap .u64 (w64 (x5+x6)))/(Int.pow 2 (ite ((tn 1)≤(Go.IntKind.bits .u64)) (tn 1) 64)))))))))])).bind (fun r0=>(bif(!(ltI (gn r0) 0))then(Z5M x0 x1 x2 x3 x4 (w64 ((w64 ((Go.IntKind.wrap .u64 (w64 (x5+x6)))/(Int.pow 2 (ite ((tn 1)≤(Go.IntKind.bits .u64)) (tn 1) 64))))+1)) x6 x7 x8)else(Z5M x0 x1 x2 x3 x4 x5 (w64 ((Go.IntKind.wrap .u64 (w64 (x5+x6)))/(Int.pow 2 (ite ((tn 1)≤(Go.IntKind.bits .u64)) (tn 1) 64)))) x7 x8))))else none)else none)else(bif(ltI x5 x1)then(bif(ltI x1 (w64 (x4-x5)))then(((callI tE Z61 [(.sl x8),(.int x5),(.int x1),(.int (w64 (x4-x5)))])).bind (fun r0=>(bif(ltI x0 x5)then(bif(ltI x5 x3)then(((callI tE Za [(.sl (gl r0)),(.int x0),(.int x5),(.int x3)])).bind (fun r1=>(bif(ltI x3 (w64 (x4-x5)))then(bif(ltI (w64 (x4-x5)) x2)then(((callI tE Za [(.sl (gl r1)),(.int x3),(.int (w64 (x4-x5))),(.int x2)])).bind (fun r2=>(some [(.sl (gl r2))])))else(some [(.sl (gl r1))]))else(some [(.sl (gl r1))]))))else(bif(ltI x3 (w64 (x4-x5)))then(bif(ltI (w64 (x4-x5)) x2)then(((callI tE Za [(.sl (gl r0)),(.int x3),(.int (w64 (x4-x5))),(.int x2)])).bind (fun r1=>(some [(.sl (gl r1))])))else(some [(.sl (gl r0))]))else(some [(.sl (gl r0))])))else(bif(ltI x3 (w64 (x4-x5)))then(bif(ltI (w64 (x4-x5)) x2)then(((callI tE Za [(.sl (gl r0)),(.int x3),(.int (w64 (x4-x5))),(.int x2)])).bind (fun r1=>(some [(.sl (gl r1))])))else(some [(.sl (gl r0))]))else(some [(.sl (gl r0))])))))else(bif(ltI x0 x5)then(bif(ltI x5 x3)then(((callI tE Za [(.sl x8),(.int x0),(.int x5),(.int x3)])).bind (fun r0=>(bif(ltI x3 (w64 (x4-x5)))then(bif(ltI (w64 (x4-x5)) x2)then(((callI tE Za [(.sl (gl r0)),(.int x3),(.int (w64 (x4-x5))),(.int x2)])).bind (fun r1=>(some [(.sl (gl r1))])))else(some [(.sl (gl r0))]))else(some [(.sl (gl r0))]))))else(bif(ltI x3 (w64 (x4-x5)))then(bif(ltI (w64 (x4-x5)) x2)then(((callI tE Za [(.sl x8),(.int x3),(.int (w64 (x4-x5))),(.int x2)])).bind (fun r0=>(some [(.sl (gl r0))])))else(some [(.sl x8)]))else(some [(.sl x8)])))else(bif(ltI x3 (w64 (x4-x5)))then(bif(ltI (w64 (x4-x5)) x2)then(((callI tE Za [(.sl x8),(.int x3),(.int (w64 (x4-x5))),(.int x2)])).bind (fun r0=>(some [(.sl (gl r0))])))else(some [(.sl x8)]))else(some [(.sl x8)]))))else(bif(ltI x0 x5)then(bif(ltI x5 x3)then(((callI tE Za [(.sl x8),(.int x0),(.int x5),(.int x3)])).bind (fun r0=>(bif(ltI x3 (w64 (x4-x5)))then(bif(ltI (w64 (x4-x5)) x2)then(((callI tE Za [(.sl (gl r0)),(.int x3),(.int (w64 (x4-x5))),(.int x2)])).bind (fun r1=>(some [(.sl (gl r1))])))else(some [(.sl (gl r0))]))else(some [(.sl (gl r0))]))))else(bif(ltI x3 (w64 (x4-x5)))then(bif(ltI (w64 (x4-x5)) x2)then(((callI tE Za [(.sl x8),(.int x3),(.int (w64 (x4-x5))),(.int x2)])).bind (fun r0=>(some [(.sl (gl r0))])))else(some [(.sl x8)]))else(some [(.sl x8)])))else(bif(ltI x3 (w64 (x4-x5)))then(bif(ltI (w64 (x4-x5)) x2)then(((callI tE Za [(.sl x8),(.int x3),(.int (w64 (x4-x5))),(.int x2)])).bind (fun r0=>(some [(.sl (gl r0))])))else(some [(.sl x8)]))else(some [(.sl x8)]))))):=(loopK_run (by kernel_rfl)).trans (by kernel_rfl)
theorem Z7B (x0 x1 x2 x3 x4:Int) (x5:Rows):Z5R x0 x1 x2 x3 x4 x5=(bif(ltI x4 (w64 (x3-1)))then(bif(inR (w64 (x4+1)) (lenI x5))then(bif(inR x4 (lenI x5))then(bif(inR x4 (lenI x5))then(bif(inR (w64 (x4+1)) (lenI (updR x5 (tn x4) 0 [(.int (gn (at' x5 (tn (w64 (x4+1)))))),(.int (gn (tk 1 (at' x5 (tn (w64 (x4+1))))))),(.int (gn (tk 2 (at' x5 (tn (w64 (x4+1)))))))])))then(Z5R x0 x1 x2 x3 (w64 (x4+1)) (updR (updR x5 (tn x4) 0 [(.int (gn (at' x5 (tn (w64 (x4+1)))))),(.int (gn (tk 1 (at' x5 (tn (w64 (x4+1))))))),(.int (gn (tk 2 (at' x5 (tn (w64 (x4+1)))))))]) (tn (w64 (x4+1))) 0 [(.int (gn (at' x5 (tn x4)))),(.int (gn (tk 1 (at' x5 (tn x4))))),(.int (gn (tk 2 (at' x5 (tn x4)))))]))else none)else none)else none)else none)else(some [(.sl x5)])):=(loopK_run (by kernel_rfl)).trans (by kernel_rfl)
theorem Z7C (x0 x1 x2 x3 x4:Int) (x5:Rows):Z5S x0 x1 x2 x3 x4 x5=(bif(ltI x3 x4)then(bif(inR (w64 (x4-1)) (lenI x5))then(bif(inR x4 (lenI x5))then(bif(inR x4 (lenI x5))then(bif(inR (w64 (x4-1)) (lenI (updR x5 (tn x4) 0 [(.int (gn (at' x5 (tn (w64 (x4-1)))))),(.int (gn (tk 1 (at' x5 (tn (w64 (x4-1))))))),(.int (gn (tk 2 (at' x5 (tn (w64 (x4-1)))))))])))then(Z5S x0 x1 x2 x3 (w64 (x4-1)) (updR (updR x5 (tn x4) 0 [(.int (gn (at' x5 (tn (w64 (x4-1)))))),(.int (gn (tk 1 (at' x5 (tn (w64 (x4-1))))))),(.int (gn (tk 2 (at' x5 (tn (w64 (x4-1)))))))]) (tn (w64 (x4-1))) 0 [(.int (gn (at' x5 (tn x4)))),(.int (gn (tk 1 (at' x5 (tn x4))))),(.int (gn (tk 2 (at' x5 (tn x4)))))]))else none)else none)else none)else none)else(some [(.sl x5)])):=(loopK_run (by kernel_rfl)).trans (by kernel_rfl)
theorem Z6E (a0:Rows) (a1 a2 a3:Int):callI tE Za [.sl a0,.int a1,.int a2,.int a3]=(bif(eqI (w64 (a2-a1)) 1)then(Z5P a1 a2 a3 a2 a3 a0)else(bif(eqI (w64 (a3-a2)) 1)then(Z5Q a1 a2 a3 a1 a2 a0)else(bif(ltI (w64 ((Go.IntKind.wrap .u64 (w64 (a1+a3)))/(Int.pow 2 (ite ((tn 1)≤(Go.IntKind.bits .u64)) (tn 1) 64)))) a2)then(Z5M a1 a2 a3 (w64 ((Go.IntKind.wrap .u64 (w64 (a1+a3)))/(Int.pow 2 (ite ((tn 1)≤(Go.IntKind.bits .u64)) (tn 1) 64)))) (w64 ((w64 ((Go.IntKind.wrap .u64 (w64 (a1+a3)))/(Int.pow 2 (ite ((tn 1)≤(Go.IntKind.bits .u64)) (tn 1) 64))))+a2)) (w64 ((w64 ((w64 ((Go.IntKind.wrap .u64 (w64 (a1+a3)))/(Int.pow 2 (ite ((tn 1)≤(Go.IntKind.bits .u64)) (tn 1) 64))))+a2))-a3)) (w64 ((Go.IntKind.wrap .u64 (w64 (a1+a3)))/(Int.pow 2 (ite ((tn 1)≤(Go.IntKind.bits .u64)) (tn 1) 64)))) (w64 ((w64 ((w64 ((Go.IntKind.wrap .u64 (w64 (a1+a3)))/(Int.pow 2 (ite ((tn 1)≤(Go.IntKind.bits .u64)) (tn 1) 64))))+a2))-1)) a0)else(Z5M a1 a2 a3 (w64 ((Go.IntKind.wrap .u64 (w64 (a1+a3)))/(Int.pow 2 (ite ((tn 1)≤(Go.IntKind.bits .u64)) (tn 1) 64)))) (w64 ((w64 ((Go.IntKind.wrap .u64 (w64 (a1+a3)))/(Int.pow 2 (ite ((tn 1)≤(Go.IntKind.bits .u64)) (tn 1) 64))))+a2)) a1 a2 (w64 ((w64 ((w64 ((Go.IntKind.wrap .u64 (w64 (a1+a3)))/(Int.pow 2 (ite ((tn 1)≤(Go.IntKind.bits .u64)) (tn 1) 64))))+a2))-1)) a0)))):=(callI_run rfl (by kernel_rfl)).trans (by kernel_rfl)
noncomputable def Z5s (x0 x1 x2 x3:Int) (x4:Rows):Option (List Dat):=loopK tE Z62 0 ⟨[(0,(.own (1000000,0))),(1,(.i .i64 x0)),(2,(.fn 307 [])),(6,(.i .i64 x1)),(7,(.i .i64 x2)),(8,(.i .i64 x3))],[((1000000,0),(.row 224 x4 Bool.true 0 []))]⟩
noncomputable def Z5O (x0 x1:Int) (x2:Rows):Option (List Dat):=loopK tE Z62 1 ⟨[(0,(.own (1000000,0))),(1,(.i .i64 x0)),(2,(.fn 307 [])),(6,(.i .i64 x1))],[((1000000,0),(.row 224 x2 Bool.true 0 []))]⟩
noncomputable def Z5t (x0 x1 x2 x3:Int) (x4:Rows):Option (List Dat):=loopK tE Z62 2 ⟨[(0,(.own (1000000,0))),(1,(.i .i64 x0)),(2,(.fn 307 [])),(6,(.i .i64 x1)),(7,(.i .i64 x2)),(8,(.i .i64 x3))],[((1000000,0),(.row 224 x4 Bool.true 0 []))]⟩
theorem Z6R (x0 x1 x2 x3:Int) (x4:Rows):Z5s x0 x1 x2 x3 x4=(bif(leI x3 x0)then(((callI tE Z5W [(.sl x4),(.int x2),(.int x3)])).bind (fun r0=>(Z5s x0 x1 x3 (w64 (x3+x1)) (gl r0))))else(((callI tE Z5W [(.sl x4),(.int x2),(.int x0)])).bind (fun r0=>(Z5O x0 x1 (gl r0))))):=(loopK_run (by kernel_rfl)).trans (by kernel_rfl)
theorem Z5k (x0 x1:Int) (x2:Rows):Z5O x0 x1 x2=(bif(ltI x1 x0)then(Z5t x0 x1 0 (w64 (2*x1)) x2)else(some [(.sl x2)])):=(loopK_run (by kernel_rfl)).trans (by kernel_rfl)
theorem Z6S (x0 x1 x2 x3:Int) (x4:Rows):Z5t x0 x1 x2 x3 x4=(bif(leI x3 x0)then(((callI tE Za [(.sl x4),(.int x2),(.int (w64 (x2+x1))),(.int x3)])).bind (fun r0=>(Z5t x0 x1 x3 (w64 (x3+(w64 (2*x1)))) (gl r0))))else(bif(ltI (w64 (x2+x1)) x0)then(((callI tE Za [(.sl x4),(.int x2),(.int (w64 (x2+x1))),(.int x0)])).bind (fun r0=>(Z5O x0 (w64 (x1*2)) (gl r0))))else(Z5O x0 (w64 (x1*2)) x4))):=(loopK_run (by kernel_rfl)).trans (by kernel_rfl)
theorem Z9j (a0:Rows) (a1:Int):callI tE Z62 [.sl a0,.int a1]=(Z5s a1 20 0 20 a0):=(callI_run rfl (by kernel_rfl)).trans (by kernel_rfl)
theorem Z9Z (a0:Rows):callI tE Z6q [.sl a0]=(((callI tE Z62 [(.sl a0),(.int (lenI a0))])).bind (fun r0=>(some [(.sl (gl r0))]))):=(callI_run rfl (by kernel_rfl)).trans (by kernel_rfl)
set_option maxRecDepth 10000
theorem ZJ3 (r:Rw):[Dat.int r.k,.int r.v,.int r.w]=r.e:=rfl
theorem ZIY (u v:List Rw) (a d:Rw):updR ((u++a::v).map Rw.e) u.length 0 d.e=(u++d::v).map Rw.e:=by
 rw[ZIz]
 have:setRange (Rw.e a) 0 d.e=d.e:=rfl
 rw[this]
 simp
theorem gk (r:Rw):gn r.e=r.k:=rfl
theorem gv (r:Rw):gn (tk 1 r.e)=r.v:=rfl
theorem gw (r:Rw):gn (tk 2 r.e)=r.w:=rfl
theorem ZC0 {α:Type} {e:α→List Dat} {l u v:List α} {a:α} {i:Nat} (h:l=u++a::v) (hi:u.length=i):at' (l.map e) i=e a:=by rw[h,←hi];exact ZDt u v a
theorem ZAr {α:Type} {e:α→List Dat} {l:List α} {i:Nat} (hi:i<l.length):inR (i:Int) (lenI (l.map e))=true:=ZCF (by omega) (by rw[Z5L];omega)
theorem ZFw {l u v:List Rw} {a d:Rw} {i:Nat} (h:l=u++a::v) (hi:u.length=i):updR (l.map Rw.e) i 0 [.int d.k,.int d.v,.int d.w]=(u++d::v).map Rw.e:=by rw[h,←hi];exact ZIY u v a d
theorem ZGT {l p q s:List Rw} {a b:Rw} {i j:Nat} (h:l=p++a::(q++b::s)) (hi:p.length=i) (hj:p.length+1+q.length=j) (hl:l.length<4611686018427387904) {X:Option (List Dat)} {K:Rows→Option (List Dat)} (hK:K ((p++b::(q++a::s)).map Rw.e)=X):
  (bif inR (j:Int) (lenI (l.map Rw.e))then(bif inR (i:Int) (lenI (l.map Rw.e))then(bif inR (i:Int) (lenI (l.map Rw.e))then
   (bif inR (j:Int) (lenI (updR (l.map Rw.e) (tn (i:Int)) 0 [.int (gn (at' (l.map Rw.e) (tn (j:Int)))),.int (gn (tk 1 (at' (l.map Rw.e) (tn (j:Int))))),.int (gn (tk 2 (at' (l.map Rw.e) (tn (j:Int)))))]))then
    K (updR (updR (l.map Rw.e) (tn (i:Int)) 0 [.int (gn (at' (l.map Rw.e) (tn (j:Int)))),.int (gn (tk 1 (at' (l.map Rw.e) (tn (j:Int))))),.int (gn (tk 2 (at' (l.map Rw.e) (tn (j:Int)))))]) (tn (j:Int)) 0 [.int (gn (at' (l.map Rw.e) (tn (i:Int)))),.int (gn (tk 1 (at' (l.map Rw.e) (tn (i:Int))))),.int (gn (tk 2 (at' (l.map Rw.e) (tn (i:Int)))))])
    else none)else none)else none)else none)=X:=by
 have hb:at' (l.map Rw.e) j=b.e:=ZC0 (u:=p++a::q) (v:=s) (by rw[h];simp) (by simp;omega)
 have ha:at' (l.map Rw.e) i=a.e:=ZC0 h hi
 have hlen:l.length=p.length+1+q.length+1+s.length:=by rw[h];simp;omega
 have h1:updR (l.map Rw.e) i 0 [.int b.k,.int b.v,.int b.w]=(p++b::(q++b::s)).map Rw.e:=ZFw h hi
 have h2:updR ((p++b::(q++b::s)).map Rw.e) j 0 [.int a.k,.int a.v,.int a.w]=(p++b::(q++a::s)).map Rw.e:=by
  rw[ZFw (u:=p++b::q) (v:=s) (a:=b) (by simp) (by simp;omega)]
  simp
 simp only[Z8q,hb,ha,gk,gv,gw,h1,h2]
 rw[ZAr (by omega),ZAr (by omega),ZAr (by simp;omega)]
 exact hK
theorem ZC1:∀(u2 v2:List Rw) (p u1 q v1 s:List Rw),u2.length=v2.length→u1.length=v1.length→(p++(v1++(u2++(q++(u1++(v2++s)))))).length<4611686018427387904→
  Z5d (p.length:Nat) ((p.length+v1.length+u2.length+q.length:Nat):Int) ((v1.length+u2.length:Nat):Int) (v1.length:Nat) ((p++(v1++(u2++(q++(u1++(v2++s)))))).map Rw.e)=
   some [.sl ((p++(v1++(v2++(q++(u1++(u2++s)))))).map Rw.e)]
 |[],[],p,u1,q,v1,s,_,_,_=>by
  rw[Z6w,ltF (by simp),cond_false]
 |[],_::_,_,_,_,_,_,h,_,_=>by simp at h
 |_::_,[],_,_,_,_,_,h,_,_=>by simp at h
 |c::u2,d::v2,p,u1,q,v1,s,h,h2,hl=>by
  have hl':=hl
  simp only[List.length_append,List.length_cons]at hl' h
  rw[Z6w,ltT (by simp only[List.length_cons];omega),cond_true]
  rw[show w64 ((p.length:Int)+(v1.length:Nat))=((p.length+v1.length:Nat):Int)by rw[Z5a ⟨by omega,by omega⟩];omega]
  rw[show w64 (((p.length+v1.length+(c::u2).length+q.length:Nat):Int)+(v1.length:Nat))=((p.length+v1.length+(c::u2).length+q.length+v1.length:Nat):Int)by simp only[List.length_cons];rw[Z5a ⟨by omega,by omega⟩];omega]
  refine ZGT (l:=p++(v1++(c::u2++(q++(u1++(d::v2++s)))))) (p:=p++v1) (q:=u2++(q++u1)) (s:=v2++s) (a:=c) (b:=d) (by simp) (by simp) (by simp;omega) hl
   (K:=fun X=>Z5d (p.length:Nat) ((p.length+v1.length+(c::u2).length+q.length:Nat):Int) ((v1.length+(c::u2).length:Nat):Int) (w64 ((v1.length:Nat)+1)) X) ?_
  have ih:=ZC1 u2 v2 p (u1++[c]) q (v1++[d]) s (by omega) (by simp[h2]) (by simp only[List.length_append,List.length_cons,List.length_nil];omega)
  show Z5d _ _ _ _ _=_
  rw[Z8X (by omega)]
  have e1:(p++v1++d::(u2++(q++u1)++c::(v2++s)))=(p++(v1++[d]++(u2++(q++(u1++[c]++(v2++s)))))):=by simp
  have e2:(p++(v1++(d::v2++(q++(u1++(c::u2++s))))))=(p++(v1++[d]++(v2++(q++(u1++[c]++(u2++s)))))):=by simp
  rw[e1,e2,←ih]
  congr 1<;>simp only[List.length_append,List.length_cons,List.length_nil]<;>omega
theorem ZD2 (p u q v s:List Rw) (h:u.length=v.length) (hl:(p++(u++(q++(v++s)))).length<4611686018427387904) {a b n:Int} (ha:a=(p.length:Nat)) (hb:b=((p.length+u.length+q.length:Nat):Int)) (hn:n=(u.length:Nat)):
  callI tE Z5g [.sl ((p++(u++(q++(v++s)))).map Rw.e),.int a,.int b,.int n]=some [.sl ((p++(v++(q++(u++s)))).map Rw.e)]:=by
 rw[Z94,ha,hb,hn]
 have:=ZC1 u v p [] q [] s h rfl (by simpa using hl)
 simp only[List.nil_append,List.length_nil,Nat.add_zero,Nat.zero_add]at this
 exact this
theorem ZGU:∀(n:Nat) (u v p s:List Rw) (a m b:Int) (m0:Nat),u.length+v.length≤n→0<u.length→0<v.length→(p++(u++(v++s))).length<1152921504606846976→m0=p.length+u.length→m=(m0:Nat)→
  Z5r a m b (u.length:Nat) (v.length:Nat) ((p++(u++(v++s))).map Rw.e)=some [.sl ((p++(v++(u++s))).map Rw.e)]:=by
 intro n
 induction n with
 |zero=>intro u v p s a m b m0 h h1 h2;omega
 |succ n ih=>
  intro u v p s a m b m0 h h1 h2 hl hm0 hm
  have hl':=hl
  simp only[List.length_append]at hl'
  rw[Z8i,hm]
  have e0:w64 ((m0:Int)-(u.length:Nat))=(p.length:Nat):=by rw[Z5a ⟨by omega,by omega⟩];omega
  by_cases he:u.length=v.length
  ·have:=ZD2 p u [] v s he (by simp only[List.length_append,List.length_nil];omega) (a:=(p.length:Nat)) (b:=(m0:Nat)) (n:=(u.length:Nat)) rfl (by simp only[List.length_nil];omega) rfl
   simp only[List.nil_append]at this
   rw[eqT (by omega),Bool.not_true,cond_false,e0,this]
   rfl
  ·rw[eqF (by omega),Bool.not_false,cond_true]
   by_cases hlt:v.length<u.length
   ·rw[ltT (by omega),cond_true,e0]
    obtain⟨u1,u2,rfl,hu1⟩:∃u1 u2,u=u1++u2∧u1.length=v.length:=⟨u.take v.length,u.drop v.length,(List.take_append_drop _ _).symm,by simp;omega⟩
    simp only[List.length_append]at*
    have:=ZD2 p u1 u2 v s hu1 (by simp only[List.length_append];omega) (a:=(p.length:Nat)) (b:=(m0:Nat)) (n:=(v.length:Nat)) rfl (by omega) (by omega)
    rw[show p++(u1++u2++(v++s))=p++(u1++(u2++(v++s)))by simp,this]
    simp only[gA]
    rw[show w64 (((u1.length+u2.length:Nat):Int)-(v.length:Nat))=(u2.length:Nat)by rw[Z5a ⟨by omega,by omega⟩];omega]
    have:=ih u2 u1 (p++v) s a m b m0 (by omega) (by omega) (by omega) (by simp only[List.length_append];omega) (by simp only[List.length_append];omega) hm
    rw[hm,hu1]at this
    rw[show p++(v++(u2++(u1++s)))=p++v++(u2++(u1++s))by simp,this]
    simp
   ·rw[ltF (by omega),cond_false,e0]
    obtain⟨v1,v2,rfl,hv2⟩:∃v1 v2,v=v1++v2∧v2.length=u.length:=⟨v.take (v.length-u.length),v.drop (v.length-u.length),(List.take_append_drop _ _).symm,by simp;omega⟩
    simp only[List.length_append]at*
    have e1:w64 (w64 ((m0:Int)+((v1.length+v2.length:Nat):Int))-(u.length:Nat))=((p.length+u.length+v1.length:Nat):Int):=by
     rw[Z5a (n:=(m0:Int)+((v1.length+v2.length:Nat):Int)) ⟨by omega,by omega⟩,Z5a ⟨by omega,by omega⟩];omega
    have:=ZD2 p u v1 v2 s hv2.symm (by simp only[List.length_append];omega) (a:=(p.length:Nat)) (b:=((p.length+u.length+v1.length:Nat):Int)) (n:=(u.length:Nat)) rfl rfl rfl
    rw[e1,show p++(u++(v1++v2++s))=p++(u++(v1++(v2++s)))by simp,this]
    simp only[gA]
    rw[show w64 (((v1.length+v2.length:Nat):Int)-(u.length:Nat))=(v1.length:Nat)by rw[Z5a ⟨by omega,by omega⟩];omega]
    have:=ih v2 v1 p (u++s) a m b m0 (by omega) (by omega) (by omega) (by simp only[List.length_append];omega) (by omega) hm
    rw[hm,hv2]at this
    rw[this]
    simp
theorem ZIZ (p u v s:List Rw) (h1:0<u.length) (h2:0<v.length) (hl:(p++(u++(v++s))).length<1152921504606846976) {a m b:Int} (ha:a=(p.length:Nat)) (hm:m=((p.length+u.length:Nat):Int)) (hb:b=((p.length+u.length+v.length:Nat):Int)):
  callI tE Z61 [.sl ((p++(u++(v++s))).map Rw.e),.int a,.int m,.int b]=some [.sl ((p++(v++(u++s))).map Rw.e)]:=by
 have hl':=hl
 simp only[List.length_append]at hl'
 rw[Z9i,show w64 (m-a)=(u.length:Nat)by rw[ha,hm,Z5a ⟨by omega,by omega⟩];omega,show w64 (b-m)=(v.length:Nat)by rw[hb,hm,Z5a ⟨by omega,by omega⟩];omega]
 exact ZGU _ u v p s a m b _ (Nat.le_refl _) h1 h2 hl rfl hm
theorem ZH5 {l p s:List Rw} {a b:Rw} {i j:Nat} (h:l=p++a::b::s) (hi:p.length=i) (hj:j=i+1) (hl:l.length<4611686018427387904) {X:Option (List Dat)} {K:Rows→Option (List Dat)} (hK:K ((p++b::a::s).map Rw.e)=X):
  (bif inR (i:Int) (lenI (l.map Rw.e))then(bif inR (j:Int) (lenI (l.map Rw.e))then(bif inR (j:Int) (lenI (l.map Rw.e))then
   (bif inR (i:Int) (lenI (updR (l.map Rw.e) (tn (j:Int)) 0 [.int (gn (at' (l.map Rw.e) (tn (i:Int)))),.int (gn (tk 1 (at' (l.map Rw.e) (tn (i:Int))))),.int (gn (tk 2 (at' (l.map Rw.e) (tn (i:Int)))))]))then
    K (updR (updR (l.map Rw.e) (tn (j:Int)) 0 [.int (gn (at' (l.map Rw.e) (tn (i:Int)))),.int (gn (tk 1 (at' (l.map Rw.e) (tn (i:Int))))),.int (gn (tk 2 (at' (l.map Rw.e) (tn (i:Int)))))]) (tn (i:Int)) 0 [.int (gn (at' (l.map Rw.e) (tn (j:Int)))),.int (gn (tk 1 (at' (l.map Rw.e) (tn (j:Int))))),.int (gn (tk 2 (at' (l.map Rw.e) (tn (j:Int)))))])
    else none)else none)else none)else none)=X:=by
 have hb:at' (l.map Rw.e) j=b.e:=ZC0 (u:=p++[a]) (v:=s) (by rw[h];simp) (by simp;omega)
 have ha:at' (l.map Rw.e) i=a.e:=ZC0 h hi
 have hlen:l.length=p.length+1+1+s.length:=by rw[h];simp;omega
 have h1:updR (l.map Rw.e) j 0 [.int a.k,.int a.v,.int a.w]=(p++a::a::s).map Rw.e:=by
  rw[ZFw (u:=p++[a]) (v:=s) (a:=b) (by rw[h];simp) (by simp;omega)]
  simp
 have h2:updR ((p++a::a::s).map Rw.e) i 0 [.int b.k,.int b.v,.int b.w]=(p++b::a::s).map Rw.e:=ZFw rfl hi
 simp only[Z8q,hb,ha,gk,gv,gw,h1,h2]
 rw[ZAr (by omega),ZAr (by omega),ZAr (by simp;omega)]
 exact hK
theorem ZD3 (i j:Nat) (h:i+j<4611686018427387904):w64 ((Go.IntKind.wrap .u64 (w64 ((i:Int)+(j:Int))))/(Int.pow 2 (ite ((tn 1)≤(Go.IntKind.bits .u64)) (tn 1) 64)))=(((i+j)/2:Nat):Int):=by
 have e1:(Int.pow 2 (ite ((tn 1)≤(Go.IntKind.bits .u64)) (tn 1) 64))=2:=rfl
 have e2:Go.IntKind.wrap .u64 ((i:Int)+(j:Int))=(i:Int)+(j:Int):=by
  have e:(2:Int)^64=18446744073709551616:=by decide
  simp only[IntKind.wrap,IntKind.signed,IntKind.bits,Bool.false_and,Bool.false_eq_true,if_false,e]
  omega
 rw[e1,Z5a (n:=(i:Int)+(j:Int)) ⟨by omega,by omega⟩,e2,Z5a ⟨by omega,by omega⟩]
 omega
abbrev Srt (l:List Rw):Prop:=l.Pairwise Rw.le
theorem Z7x:∀{l l':List Rw},l.Perm l'→Srt l→Srt l'→l=l'
 |[],l',h,_,_=>by have:=h.length_eq;exact(List.length_eq_zero_iff.mp (by simpa using this.symm)).symm
 |a::l,[],h,_,_=>by have:=h.length_eq;simp at this
 |a::l,b::l',h,s,s'=>by
  have hab:a=b:=by
   have h1:b∈a::l:=h.mem_iff.mpr (by simp)
   have h2:a∈b::l':=h.mem_iff.mp (by simp)
   rcases List.mem_cons.mp h1 with h1|h1
   ·exact h1.symm
   ·rcases List.mem_cons.mp h2 with h2|h2
    ·exact h2
    ·exact Rw.le_antisymm ((List.pairwise_cons.mp s).1 b h1) ((List.pairwise_cons.mp s').1 a h2)
  subst hab
  rw[Z7x (h.cons_inv) (List.pairwise_cons.mp s).2 (List.pairwise_cons.mp s').2]
theorem bs {β:Type} {L:Nat→Nat→β} {K:Nat→β} {t lo hi:Nat} (hs:∀i j,lo≤i→i<j→j≤hi→L i j=if(i+j)/2<t then L ((i+j)/2+1) j else L i ((i+j)/2)) (he:∀i,lo≤i→i≤hi→L i i=K i):
  ∀(n i j:Nat),j-i≤n→lo≤i→i≤t→t≤j→j≤hi→L i j=K t:=by
 intro n
 induction n with
 |zero=>
  intro i j h h1 h2 h3 h4
  have e1:i=t:=by omega
  have e2:j=t:=by omega
  rw[e1,e2]
  exact he t (by omega) (by omega)
 |succ n ih=>
  intro i j h h1 h2 h3 h4
  by_cases hij:i<j
  ·rw[hs i j h1 hij h4]
   split
   ·exact ih _ _ (by omega) (by omega) (by omega) h3 h4
   ·exact ih _ _ (by omega) h1 h2 (by omega) (by omega)
  ·have e1:i=t:=by omega
   have e2:j=t:=by omega
   rw[e1,e2]
   exact he t (by omega) (by omega)
theorem ZCQ (P:Nat→Prop) [DecidablePred P] (lo:Nat):∀(n:Nat),(∀c d,lo≤c→c≤d→d<lo+n→P d→P c)→∃t,lo≤t∧t≤lo+n∧∀c,lo≤c→c<lo+n→(P c↔c<t)
 |0,_=>⟨lo,Nat.le_refl _,Nat.le_refl _,fun c h1 h2=>by omega⟩
 |n+1,hm=>by
  obtain⟨t,h1,h2,h3⟩:=ZCQ P lo n (fun c d a b e=>hm c d a b (by omega))
  by_cases hp:P (lo+n)
  ·refine⟨lo+n+1,by omega,by omega,fun c a b=>⟨fun _=>by omega,fun _=>hm c (lo+n) a (by omega) (by omega) hp⟩⟩
  ·refine⟨t,h1,by omega,fun c a b=>?_⟩
   by_cases hc:c<lo+n
   ·exact h3 c a hc
   ·have:c=lo+n:=by omega
    subst this
    exact⟨fun h=>absurd h hp,fun h=>by omega⟩
def nth (x:List Rw) (i:Nat):Rw:=x.getD i ⟨0,0,0⟩
theorem ZFe {x:List Rw} {i:Nat} (h:i<x.length):at' (x.map Rw.e) i=(nth x i).e:=by
 obtain⟨u,a,v,rfl,rfl⟩:∃u a v,x=u++a::v∧u.length=i:=⟨x.take i,x[i],x.drop (i+1),by
  have:=List.take_append_drop i x
  rw[List.drop_eq_getElem_cons h]at this
  exact this.symm,by simp;omega⟩
 rw[ZDt]
 simp[nth,List.getD_eq_getElem?_getD]
theorem Z7e (u v:List Rw) {i:Nat} (h:i<u.length):nth (u++v) i=nth u i:=by
 simp[nth,List.getD_eq_getElem?_getD,List.getElem?_append_left h]
theorem Z6N (u v:List Rw) {i:Nat} (h:u.length≤i):nth (u++v) i=nth v (i-u.length):=by
 simp[nth,List.getD_eq_getElem?_getD,List.getElem?_append_right h]
theorem ZAf {u:List Rw} {a:Rw} (h:a∈u):∃i,i<u.length∧nth u i=a:=by
 obtain⟨i,hi⟩:=List.getElem?_of_mem h
 obtain⟨h1,h2⟩:=List.getElem?_eq_some_iff.mp hi
 exact⟨i,h1,by simp[nth,List.getD_eq_getElem?_getD,hi]⟩
theorem ZD4 {u:List Rw} (h:Srt u) {i j:Nat} (hij:i≤j) (hj:j<u.length):Rw.le (nth u i) (nth u j):=by
 by_cases e:i=j
 ·subst e;exact Rw.le_rfl _
 ·have:=List.pairwise_iff_getElem.mp h i j (by omega) hj (by omega)
  simpa[nth,List.getD_eq_getElem?_getD,hj,show i<u.length by omega]using this
theorem ZD5 {u:List Rw} {t:Nat} (h:t≤u.length):∃u1 u2,u=u1++u2∧u1.length=t:=⟨u.take t,u.drop t,(List.take_append_drop _ _).symm,by simp;omega⟩
theorem ZEZ {x:List Rw} {i j:Nat} (hi:i<x.length) (hj:j<x.length) {X:Option (List Dat)} {K:List Dat→Option (List Dat)} (h:K [.int (ZG8 (nth x i) (nth x j))]=X):
  (callI tE Z5h [.int (gn (at' (x.map Rw.e) (tn (i:Int)))),.int (gn (tk 1 (at' (x.map Rw.e) (tn (i:Int))))),.int (gn (tk 2 (at' (x.map Rw.e) (tn (i:Int))))),.int (gn (at' (x.map Rw.e) (tn (j:Int)))),.int (gn (tk 1 (at' (x.map Rw.e) (tn (j:Int))))),.int (gn (tk 2 (at' (x.map Rw.e) (tn (j:Int)))))]).bind K=X:=by
 simp only[Z8q,ZFe hi,ZFe hj,gk,gv,gw]
 rw[ZCK]
 exact h
theorem ZB4 (a b:Nat) (h:a+b<9223372036854775807):w64 ((a:Int)+(b:Int))=((a+b:Nat):Int):=by rw[Z5a ⟨by omega,by omega⟩];omega
theorem Z9y {a b:Nat} (h:b≤a) (h2:a<9223372036854775807):w64 ((a:Int)-(b:Int))=((a-b:Nat):Int):=by rw[Z5a ⟨by omega,by omega⟩];omega
theorem Z9p {a:Nat} (h:1≤a) (h2:a<9223372036854775807):w64 ((a:Int)-1)=((a-1:Nat):Int):=by rw[Z5a ⟨by omega,by omega⟩];omega
theorem ZIa (a m b:Int):∀(v:List Rw) (c:Rw) (p s:List Rw) (k t:Nat),(p++c::(v++s)).length<1152921504606846976→k=p.length→t=p.length+1+v.length→
  Z5R a m b (t:Nat) (k:Nat) ((p++c::(v++s)).map Rw.e)=some [.sl ((p++(v++c::s)).map Rw.e)]
 |[],c,p,s,k,t,hl,hk,ht=>by
  simp only[List.length_nil,List.length_append,List.length_cons]at ht hl
  rw[Z7B,Z9p (by omega) (by omega),ltF (by omega),cond_false]
  rfl
 |d::v,c,p,s,k,t,hl,hk,ht=>by
  have hl':=hl
  simp only[List.length_append,List.length_cons]at hl' ht
  rw[Z7B,Z9p (by omega) (by omega),ltT (by omega),cond_true,Z8X (by omega)]
  refine ZGT (l:=p++c::(d::v++s)) (p:=p) (q:=[]) (s:=v++s) (a:=c) (b:=d) (by simp) hk.symm (by simp;omega) (by omega) (K:=fun X=>Z5R a m b (t:Nat) ((k+1:Nat):Int) X) ?_
  have ih:=ZIa a m b v c (p++[d]) s (k+1) t (by simp only[List.length_append,List.length_cons,List.length_nil];omega) (by simp;omega) (by simp;omega)
  show Z5R _ _ _ _ _ _=_
  rw[show p++d::([]++c::(v++s))=p++[d]++c::(v++s)by simp,ih]
  simp
theorem ZHx (a m b:Int):∀(n:Nat) (u:List Rw) (c:Rw) (p s:List Rw) (k t:Nat),u.length=n→(p++(u++c::s)).length<1152921504606846976→k=p.length+u.length→t=p.length→
  Z5S a m b (t:Nat) (k:Nat) ((p++(u++c::s)).map Rw.e)=some [.sl ((p++c::(u++s)).map Rw.e)]:=by
 intro n
 induction n with
 |zero=>
  intro u c p s k t hn hl hk ht
  have:u=[]:=List.length_eq_zero_iff.mp hn
  subst this
  simp only[List.length_nil]at hk
  rw[Z7C,ltF (by omega),cond_false]
  rfl
 |succ n ih=>
  intro u c p s k t hn hl hk ht
  obtain⟨u',d,rfl⟩:∃u' d,u=u'++[d]:=by
   obtain⟨l',x,e⟩:=snoc_of (n:=n) (l:=u) hn
   exact⟨l',x,e⟩
  simp only[List.length_append,List.length_cons,List.length_nil]at hl hk hn
  rw[Z7C,ltT (by omega),cond_true,Z9p (by omega) (by omega)]
  refine ZH5 (l:=p++(u'++[d]++c::s)) (p:=p++u') (s:=s) (a:=d) (b:=c) (by simp) (by simp;omega) (by omega) (by simp only[List.length_append,List.length_cons,List.length_nil];omega) (K:=fun X=>Z5S a m b (t:Nat) ((k-1:Nat):Int) X) ?_
  have:=ih u' c p (d::s) (k-1) t (by omega) (by simp only[List.length_append,List.length_cons];omega) (by omega) ht
  show Z5S _ _ _ _ _ _=_
  rw[show p++u'++c::d::s=p++(u'++c::(d::s))by simp,this]
  simp
def Mg (u v w:List Rw):Prop:=w.Perm (u++v)∧Srt w
theorem Rw.le_lt {a b c:Rw} (h:Rw.le a b) (h2:Rw.lt b c):Rw.lt a c:=by unfold Rw.le Rw.lt at*;omega
theorem ZIb (c:Rw) (v p s:List Rw) (hv:Srt v) (hl:(p++(c::(v++s))).length<1152921504606846976) {a m b:Nat} (ha:a=p.length) (hm:m=a+1) (hb:b=m+v.length):
  ∃w,Mg [c] v w∧Z5P (a:Nat) (m:Nat) (b:Nat) (m:Nat) (b:Nat) ((p++c::(v++s)).map Rw.e)=some [.sl ((p++(w++s)).map Rw.e)]:=by
 have hl':=hl
 simp only[List.length_append,List.length_cons]at hl'
 have hxv:∀k,k<v.length→nth (p++c::(v++s)) (m+k)=nth v k:=fun k hk=>by
  rw[show p++c::(v++s)=(p++[c])++(v++s)by simp,Z6N _ _ (by simp;omega),Z7e _ _ (by simp;omega)]
  congr 1
  simp;omega
 have hxa:nth (p++c::(v++s)) a=c:=by rw[Z6N _ _ (by omega),ha];simp[nth]
 have hxl:(p++c::(v++s)).length=p.length+1+v.length+s.length:=by simp;omega
 obtain⟨t,t1,t2,t3⟩:=ZCQ (fun h=>Rw.lt (nth (p++c::(v++s)) h) c) m v.length (fun i j h1 h2 h3 h4=>by
  have e1:=hxv (i-m) (by omega)
  have e2:=hxv (j-m) (by omega)
  rw[show m+(i-m)=i by omega]at e1
  rw[show m+(j-m)=j by omega]at e2
  rw[e1]
  rw[e2]at h4
  exact Rw.le_lt (ZD4 hv (by omega) (by omega)) h4)
 have hb2:=bs (L:=fun i j:Nat=>Z5P (a:Nat) (m:Nat) (b:Nat) (i:Nat) (j:Nat) ((p++c::(v++s)).map Rw.e)) (K:=fun t:Nat=>Z5R (a:Nat) (m:Nat) (b:Nat) (t:Nat) (a:Nat) ((p++c::(v++s)).map Rw.e)) (t:=t) (lo:=m) (hi:=b)
  (fun i j h1 h2 h3=>by
   show Z5P _ _ _ _ _ _=_
   rw[Z78,ltT (by omega),cond_true,ZD3 i j (by omega),ZAr (by omega),ZAr (by omega),cond_true,cond_true]
   refine ZEZ (by omega) (by omega) ?_
   rw[ZIH,Z9x,hxa]
   have:=t3 ((i+j)/2) (by omega) (by omega)
   by_cases hc:(i+j)/2<t
   ·rw[if_pos hc,decide_eq_true (this.mpr hc),cond_true,Z8X (by omega)]
   ·rw[if_neg hc,decide_eq_false (fun h=>hc (this.mp h)),cond_false])
  (fun i h1 h2=>by
   show Z5P _ _ _ _ _ _=_
   rw[Z78,ltF (Int.le_refl _),cond_false])
  (b-m) m b (Nat.le_refl _) (Nat.le_refl _) t1 (by omega) (Nat.le_refl _)
 obtain⟨v1,v2,rfl,hv1⟩:=ZD5 (u:=v) (t:=t-m) (by omega)
 refine⟨v1++c::v2,⟨List.perm_middle,?_⟩,?_⟩
 ·obtain⟨s1,s2,s3⟩:=List.pairwise_append.mp hv
  simp only[List.length_append]at*
  refine List.pairwise_append.mpr ⟨s1,List.pairwise_cons.mpr ⟨fun y hy=>?_,s2⟩,fun x hx y hy=>?_⟩
  ·obtain⟨k,hk,rfl⟩:=ZAf hy
   have h1:=hxv (v1.length+k) (by omega)
   rw[Z6N v1 v2 (by omega),show v1.length+k-v1.length=k by omega]at h1
   have h2:=t3 (m+(v1.length+k)) (by omega) (by omega)
   rw[h1]at h2
   exact fun h=>by have:=h2.mp h;omega
  ·rcases List.mem_cons.mp hy with rfl|hy
   ·obtain⟨k,hk,rfl⟩:=ZAf hx
    have h1:=hxv k (by omega)
    rw[Z7e v1 v2 hk]at h1
    have h2:=t3 (m+k) (by omega) (by omega)
    rw[h1]at h2
    exact Rw.lt_le (h2.mpr (by omega))
   ·exact s3 x hx y hy
 ·refine hb2.trans ?_
  show Z5R _ _ _ _ _ _=_
  simp only[List.length_append]at*
  rw[show p++c::(v1++v2++s)=p++c::(v1++(v2++s))by simp,ZIa _ _ _ v1 c p (v2++s) a t (by simp only[List.length_append,List.length_cons];omega) ha (by omega)]
  simp
theorem ZIc (c:Rw) (u p s:List Rw) (hu:Srt u) (hl:(p++(u++c::s)).length<1152921504606846976) {a m b:Nat} (ha:a=p.length) (hm:m=a+u.length) (hb:b=m+1):
  ∃w,Mg u [c] w∧Z5Q (a:Nat) (m:Nat) (b:Nat) (a:Nat) (m:Nat) ((p++(u++c::s)).map Rw.e)=some [.sl ((p++(w++s)).map Rw.e)]:=by
 have hl':=hl
 simp only[List.length_append,List.length_cons]at hl'
 have hxu:∀k,k<u.length→nth (p++(u++c::s)) (a+k)=nth u k:=fun k hk=>by
  rw[Z6N _ _ (by omega),Z7e _ _ (by omega)]
  congr 1
  omega
 have hxm:nth (p++(u++c::s)) m=c:=by rw[Z6N _ _ (by omega),Z6N _ _ (by omega),show m-p.length-u.length=0 by omega];simp[nth]
 have hxl:(p++(u++c::s)).length=p.length+u.length+1+s.length:=by simp;omega
 obtain⟨t,t1,t2,t3⟩:=ZCQ (fun h=>Rw.le (nth (p++(u++c::s)) h) c) a u.length (fun i j h1 h2 h3 h4=>by
  have e1:=hxu (i-a) (by omega)
  have e2:=hxu (j-a) (by omega)
  rw[show a+(i-a)=i by omega]at e1
  rw[show a+(j-a)=j by omega]at e2
  rw[e1]
  rw[e2]at h4
  exact Rw.le_tr (ZD4 hu (by omega) (by omega)) h4)
 have hb2:=bs (L:=fun i j:Nat=>Z5Q (a:Nat) (m:Nat) (b:Nat) (i:Nat) (j:Nat) ((p++(u++c::s)).map Rw.e)) (K:=fun t:Nat=>Z5S (a:Nat) (m:Nat) (b:Nat) (t:Nat) (m:Nat) ((p++(u++c::s)).map Rw.e)) (t:=t) (lo:=a) (hi:=m)
  (fun i j h1 h2 h3=>by
   show Z5Q _ _ _ _ _ _=_
   rw[Z79,ltT (by omega),cond_true,ZD3 i j (by omega),ZAr (by omega),ZAr (by omega),cond_true,cond_true]
   refine ZEZ (by omega) (by omega) ?_
   rw[ZIH,Z9x,hxm]
   have:=t3 ((i+j)/2) (by omega) (by omega)
   by_cases hc:(i+j)/2<t
   ·rw[if_pos hc,decide_eq_false (this.mpr hc),Bool.not_false,cond_true,Z8X (by omega)]
   ·rw[if_neg hc,decide_eq_true (Decidable.not_not.mp fun h=>hc (this.mp h)),Bool.not_true,cond_false])
  (fun i h1 h2=>by
   show Z5Q _ _ _ _ _ _=_
   rw[Z79,ltF (Int.le_refl _),cond_false])
  (m-a) a m (Nat.le_refl _) (Nat.le_refl _) t1 (by omega) (Nat.le_refl _)
 obtain⟨u1,u2,rfl,hu1⟩:=ZD5 (u:=u) (t:=t-a) (by omega)
 refine⟨u1++c::u2,⟨?_,?_⟩,?_⟩
 ·rw[List.append_assoc]
  exact List.Perm.append_left u1 (by simpa using(List.perm_append_comm (l₁:=[c]) (l₂:=u2)))
 ·obtain⟨s1,s2,s3⟩:=List.pairwise_append.mp hu
  simp only[List.length_append]at*
  refine List.pairwise_append.mpr ⟨s1,List.pairwise_cons.mpr ⟨fun y hy=>?_,s2⟩,fun x hx y hy=>?_⟩
  ·obtain⟨k,hk,rfl⟩:=ZAf hy
   have h1:=hxu (u1.length+k) (by omega)
   rw[Z6N u1 u2 (by omega),show u1.length+k-u1.length=k by omega]at h1
   have h2:=t3 (a+(u1.length+k)) (by omega) (by omega)
   rw[h1]at h2
   exact Rw.lt_le (Decidable.not_not.mp fun h=>by have:=h2.mp h;omega)
  ·rcases List.mem_cons.mp hy with rfl|hy
   ·obtain⟨k,hk,rfl⟩:=ZAf hx
    have h1:=hxu k (by omega)
    rw[Z7e u1 u2 hk]at h1
    have h2:=t3 (a+k) (by omega) (by omega)
    rw[h1]at h2
    exact h2.mpr (by omega)
   ·exact s3 x hx y hy
 ·refine hb2.trans ?_
  show Z5S _ _ _ _ _ _=_
  simp only[List.length_append]at*
  rw[show p++(u1++u2++c::s)=p++u1++(u2++c::s)by simp,ZHx _ _ _ u2.length u2 c (p++u1) s m t rfl (by simp only[List.length_append,List.length_cons];omega) (by simp;omega) (by simp;omega)]
  simp
noncomputable def mgR (mid e b:Int) (Z:Rows):Option (List Dat):=
 bif ltI mid e then(bif ltI e b then((callI tE Za [.sl Z,.int mid,.int e,.int b]).bind fun r=>some [.sl (gl r)])else some [.sl Z])else some [.sl Z]
noncomputable def mgL (a t mid e b:Int) (Z:Rows):Option (List Dat):=
 bif ltI a t then(bif ltI t mid then((callI tE Za [.sl Z,.int a,.int t,.int mid]).bind fun r=>mgR mid e b (gl r))else mgR mid e b Z)else mgR mid e b Z
theorem ZHy (a m b mid n t q:Int) (X:Rows) (h:t=t):Z5M a m b mid n t t q X=
  bif ltI t m then(bif ltI m (w64 (n-t))then((callI tE Z61 [.sl X,.int t,.int m,.int (w64 (n-t))]).bind fun r=>mgL a t mid (w64 (n-t)) b (gl r))else mgL a t mid (w64 (n-t)) b X)else mgL a t mid (w64 (n-t)) b X:=by
 rw[Z7A,ltF (Int.le_refl _),cond_false]
 rfl
def ZIy (n:Nat):Prop:=∀(u v p s:List Rw),u.length+v.length≤n→0<u.length→0<v.length→Srt u→Srt v→(p++(u++(v++s))).length<1152921504606846976→∃w,Mg u v w∧
 ∀(a m b:Int),a=(p.length:Nat)→m=((p.length+u.length:Nat):Int)→b=((p.length+u.length+v.length:Nat):Int)→
  callI tE Za [.sl ((p++(u++(v++s))).map Rw.e),.int a,.int m,.int b]=some [.sl ((p++(w++s)).map Rw.e)]
theorem ZGV {v:List Rw} (h:Srt v):Mg [] v ([]++v):=⟨List.Perm.refl _,by simpa using h⟩
theorem ZGW {u:List Rw} (h:Srt u):Mg u [] (u++[]):=⟨List.Perm.refl _,by simpa using h⟩
theorem ZDf {α:Type} {l:List α} (h:¬0<l.length):l=[]:=List.length_eq_zero_iff.mp (by omega)
theorem ZId {n:Nat} (ih:ZIy n) (u v p s:List Rw) (hn:u.length+v.length≤n) (hu:Srt u) (hv:Srt v) (hl:(p++(u++(v++s))).length<1152921504606846976) {mid e b:Int} (h1:mid=(p.length:Nat)) (h2:e=((p.length+u.length:Nat):Int)) (h3:b=((p.length+u.length+v.length:Nat):Int)):
  ∃w,Mg u v w∧mgR mid e b ((p++(u++(v++s))).map Rw.e)=some [.sl ((p++(w++s)).map Rw.e)]:=by
 unfold mgR
 by_cases c1:0<u.length
 ·by_cases c2:0<v.length
  ·obtain⟨w,w1,w2⟩:=ih u v p s hn c1 c2 hu hv hl
   refine⟨w,w1,?_⟩
   rw[ltT (by omega),cond_true,ltT (by omega),cond_true,w2 mid e b h1 h2 h3]
   rfl
  ·have:=ZDf c2
   subst this
   refine⟨_,ZGW hu,?_⟩
   rw[ltT (by omega),cond_true,ltF (by simp at h3;omega),cond_false]
   simp
 ·have:=ZDf c1
  subst this
  refine⟨_,ZGV hv,?_⟩
  rw[ltF (by simp at h2;omega),cond_false]
  simp
theorem ZIe {n:Nat} (ih:ZIy n) (u1 v1 u2 v2 p s:List Rw) (hn1:u1.length+v1.length≤n) (hn2:u2.length+v2.length≤n) (hu1:Srt u1) (hv1:Srt v1) (hu2:Srt u2) (hv2:Srt v2)
  (hl:(p++(u1++(v1++(u2++(v2++s))))).length<1152921504606846976) {a t mid e b:Int} (h0:a=(p.length:Nat)) (h1:t=((p.length+u1.length:Nat):Int)) (h2:mid=((p.length+u1.length+v1.length:Nat):Int)) (h3:e=((p.length+u1.length+v1.length+u2.length:Nat):Int)) (h4:b=((p.length+u1.length+v1.length+u2.length+v2.length:Nat):Int)):
  ∃w1 w2,Mg u1 v1 w1∧Mg u2 v2 w2∧mgL a t mid e b ((p++(u1++(v1++(u2++(v2++s))))).map Rw.e)=some [.sl ((p++(w1++w2++s)).map Rw.e)]:=by
 have hl':=hl
 simp only[List.length_append]at hl'
 have left:∃w1,Mg u1 v1 w1∧mgL a t mid e b ((p++(u1++(v1++(u2++(v2++s))))).map Rw.e)=mgR mid e b ((p++(w1++(u2++(v2++s)))).map Rw.e):=by
  unfold mgL
  by_cases c1:0<u1.length
  ·by_cases c2:0<v1.length
   ·obtain⟨w,w1,w2⟩:=ih u1 v1 p (u2++(v2++s)) hn1 c1 c2 hu1 hv1 hl
    refine⟨w,w1,?_⟩
    rw[ltT (by omega),cond_true,ltT (by omega),cond_true,w2 a t mid h0 h1 h2]
    rfl
   ·have:=ZDf c2
    subst this
    refine⟨_,ZGW hu1,?_⟩
    rw[ltT (by omega),cond_true,ltF (by simp at h2;omega),cond_false]
    simp
  ·have:=ZDf c1
   subst this
   refine⟨_,ZGV hv1,?_⟩
   rw[ltF (by simp at h1;omega),cond_false]
   simp
 obtain⟨w1,m1,e1⟩:=left
 have hw1:w1.length=u1.length+v1.length:=by have:=m1.1.length_eq;simpa using this
 obtain⟨w2,m2,e2⟩:=ZId ih u2 v2 (p++w1) s hn2 hu2 hv2 (by simp only[List.length_append];omega) (mid:=mid) (e:=e) (b:=b) (by simp only[List.length_append];omega) (by simp only[List.length_append];omega) (by simp only[List.length_append];omega)
 refine⟨w1,w2,m1,m2,?_⟩
 rw[e1,show p++(w1++(u2++(v2++s)))=p++w1++(u2++(v2++s))by simp,e2]
 simp
theorem ZHz {u1 u2 v1 v2 w1 w2:List Rw} (hu:Srt (u1++u2)) (hv:Srt (v1++v2)) (m1:Mg u1 v1 w1) (m2:Mg u2 v2 w2) (h1:∀x∈u1,∀y∈v2,Rw.le x y) (h2:∀x∈v1,∀y∈u2,Rw.le x y):Mg (u1++u2) (v1++v2) (w1++w2):=by
 refine⟨(m1.1.append m2.1).trans ?_,List.pairwise_append.mpr ⟨m1.2,m2.2,fun x hx y hy=>?_⟩⟩
 ·rw[List.append_assoc,List.append_assoc]
  refine List.Perm.append_left u1 ?_
  rw[←List.append_assoc,←List.append_assoc]
  exact List.Perm.append_right v2 List.perm_append_comm
 ·obtain⟨_,_,a3⟩:=List.pairwise_append.mp hu
  obtain⟨_,_,b3⟩:=List.pairwise_append.mp hv
  have hx:=m1.1.mem_iff.mp hx
  have hy:=m2.1.mem_iff.mp hy
  rcases List.mem_append.mp hx with hx|hx<;>rcases List.mem_append.mp hy with hy|hy
  ·exact a3 x hx y hy
  ·exact h1 x hx y hy
  ·exact h2 x hx y hy
  ·exact b3 x hx y hy
theorem ZGX {n:Nat} (ih:ZIy n) (u v p s:List Rw) (hn:u.length+v.length≤n+1) (hu0:0<u.length) (hv0:0<v.length) (hu:Srt u) (hv:Srt v) (hl:(p++(u++(v++s))).length<1152921504606846976) {a m b mid lo hi:Nat} (ha:a=p.length) (hm:m=a+u.length) (hb:b=m+v.length) (hmid:mid=(a+b)/2)
  (c1:lo≤hi) (c2:a≤lo) (c3:hi≤m) (c4:mid+m≤lo+b) (c5:hi≤mid) (c6:lo=a∨lo+b=mid+m) (c7:hi=m∨hi=mid):
  ∃w,Mg u v w∧Z5M (a:Nat) (m:Nat) (b:Nat) (mid:Nat) ((mid+m:Nat):Int) (lo:Nat) (hi:Nat) ((mid+m-1:Nat):Int) ((p++(u++(v++s))).map Rw.e)=some [.sl ((p++(w++s)).map Rw.e)]:=by
 have hl':=hl
 simp only[List.length_append]at hl'
 have hxl:(p++(u++(v++s))).length=p.length+u.length+v.length+s.length:=by simp only[List.length_append];omega
 have hxu:∀k,k<u.length→nth (p++(u++(v++s))) (a+k)=nth u k:=fun k hk=>by
  rw[Z6N p _ (by omega),Z7e u _ (by omega)]
  congr 1
  omega
 have hxv:∀k,k<v.length→nth (p++(u++(v++s))) (m+k)=nth v k:=fun k hk=>by
  rw[Z6N p _ (by omega),Z6N u _ (by omega),Z7e v _ (by omega)]
  congr 1
  omega
 have mu':∀i j,a≤i→i≤j→j<m→Rw.le (nth (p++(u++(v++s))) i) (nth (p++(u++(v++s))) j):=fun i j h1 h2 h3=>by
  have e1:=hxu (i-a) (by omega)
  have e2:=hxu (j-a) (by omega)
  rw[show a+(i-a)=i by omega]at e1
  rw[show a+(j-a)=j by omega]at e2
  rw[e1,e2]
  exact ZD4 hu (by omega) (by omega)
 have mv':∀i j,m≤i→i≤j→j<b→Rw.le (nth (p++(u++(v++s))) i) (nth (p++(u++(v++s))) j):=fun i j h1 h2 h3=>by
  have e1:=hxv (i-m) (by omega)
  have e2:=hxv (j-m) (by omega)
  rw[show m+(i-m)=i by omega]at e1
  rw[show m+(j-m)=j by omega]at e2
  rw[e1,e2]
  exact ZD4 hv (by omega) (by omega)
 obtain⟨t,t1,t2,t3⟩:=ZCQ (fun c=>Rw.le (nth (p++(u++(v++s))) c) (nth (p++(u++(v++s))) (mid+m-1-c))) lo (hi-lo) (fun c d h1 h2 h3 h4=>
  Rw.le_tr (mu' c d (by omega) h2 (by omega)) (Rw.le_tr h4 (mv' _ _ (by omega) (by omega) (by omega))))
 rw[show lo+(hi-lo)=hi by omega]at t2 t3
 have hb2:=bs (L:=fun i j:Nat=>Z5M (a:Nat) (m:Nat) (b:Nat) (mid:Nat) ((mid+m:Nat):Int) (i:Nat) (j:Nat) ((mid+m-1:Nat):Int) ((p++(u++(v++s))).map Rw.e))
  (K:=fun t:Nat=>Z5M (a:Nat) (m:Nat) (b:Nat) (mid:Nat) ((mid+m:Nat):Int) (t:Nat) (t:Nat) ((mid+m-1:Nat):Int) ((p++(u++(v++s))).map Rw.e)) (t:=t) (lo:=lo) (hi:=hi)
  (fun i j h1 h2 h3=>by
   show Z5M _ _ _ _ _ _ _ _ _=_
   rw[Z7A,ltT (by omega),cond_true,ZD3 i j (by omega),Z9y (a:=mid+m-1) (b:=(i+j)/2) (by omega) (by omega),ZAr (by omega),ZAr (by omega),cond_true,cond_true]
   refine ZEZ (by omega) (by omega) ?_
   rw[ZIH,Z9x]
   have:=t3 ((i+j)/2) (by omega) (by omega)
   by_cases hc:(i+j)/2<t
   ·rw[if_pos hc,decide_eq_false (this.mpr hc),Bool.not_false,cond_true,Z8X (by omega)]
   ·rw[if_neg hc,decide_eq_true (Decidable.not_not.mp fun h=>hc (this.mp h)),Bool.not_true,cond_false])
  (fun i h1 h2=>rfl) (hi-lo) lo hi (Nat.le_refl _) (Nat.le_refl _) t1 t2 (Nat.le_refl _)
 obtain⟨u1,u2,rfl,hu1⟩:=ZD5 (u:=u) (t:=t-a) (by omega)
 obtain⟨v1,v2,rfl,hv1⟩:=ZD5 (u:=v) (t:=mid-t) (by omega)
 simp only[List.length_append]at hn hu0 hv0 hl' hm hb hxu hxv
 have x1:∀x∈u1,∀y∈v2,Rw.le x y:=fun x hx y hy=>by
  obtain⟨i,hi1,rfl⟩:=ZAf hx
  obtain⟨j,hj1,rfl⟩:=ZAf hy
  have e1:=hxu i (by omega)
  have e2:=hxv (v1.length+j) (by omega)
  rw[Z7e u1 u2 hi1]at e1
  rw[Z6N v1 v2 (by omega),show v1.length+j-v1.length=j by omega]at e2
  rw[←e1,←e2]
  have hp:=(t3 (t-1) (by omega) (by omega)).mpr (by omega)
  exact Rw.le_tr (mu' _ (t-1) (by omega) (by omega) (by omega)) (Rw.le_tr hp (mv' _ _ (by omega) (by omega) (by omega)))
 have x2:∀x∈v1,∀y∈u2,Rw.le x y:=fun x hx y hy=>by
  obtain⟨i,hi1,rfl⟩:=ZAf hx
  obtain⟨j,hj1,rfl⟩:=ZAf hy
  have e1:=hxv i (by omega)
  have e2:=hxu (u1.length+j) (by omega)
  rw[Z7e v1 v2 hi1]at e1
  rw[Z6N u1 u2 (by omega),show u1.length+j-u1.length=j by omega]at e2
  rw[←e1,←e2]
  have hp:¬Rw.le _ _:=fun h=>by have:=(t3 t (by omega) (by omega)).mp h;omega
  exact Rw.le_tr (mv' _ (mid+m-1-t) (by omega) (by omega) (by omega)) (Rw.le_tr (Rw.lt_le (Decidable.not_not.mp hp)) (mu' t _ (by omega) (by omega) (by omega)))
 obtain⟨su1,su2,_⟩:=List.pairwise_append.mp hu
 obtain⟨sv1,sv2,_⟩:=List.pairwise_append.mp hv
 obtain⟨w1,w2,m1,m2,hw⟩:=ZIe ih u1 v1 u2 v2 p s (by omega) (by omega) su1 sv1 su2 sv2 (by simp only[List.length_append];omega) (a:=(a:Nat)) (t:=(t:Nat)) (mid:=(mid:Nat)) (e:=((mid+m-t:Nat):Int)) (b:=(b:Nat)) (by omega) (by omega) (by omega) (by omega) (by omega)
 refine⟨w1++w2,ZHz hu hv m1 m2 x1 x2,hb2.trans ?_⟩
 show Z5M _ _ _ _ _ _ _ _ _=_
 rw[ZHy _ _ _ _ _ _ _ _ rfl,Z9y (by omega) (by omega)]
 by_cases d1:0<u2.length
 ·by_cases d2:0<v1.length
  ·have:=ZIZ (p++u1) u2 v1 (v2++s) d1 d2 (by simp only[List.length_append];omega) (a:=(t:Nat)) (m:=(m:Nat)) (b:=((mid+m-t:Nat):Int)) (by simp only[List.length_append];omega) (by simp only[List.length_append];omega) (by simp only[List.length_append];omega)
   rw[ltT (by omega),cond_true,ltT (by omega),cond_true,show p++(u1++u2++(v1++v2++s))=p++u1++(u2++(v1++(v2++s)))by simp,this]
   simp only[gA]
   rw[show p++u1++(v1++(u2++(v2++s)))=p++(u1++(v1++(u2++(v2++s))))by simp]
   exact hw
  ·have:=ZDf d2
   subst this
   rw[ltT (by omega),cond_true,ltF (by simp at hv1;omega),cond_false]
   simpa using hw
 ·have:=ZDf d1
  subst this
  rw[ltF (by simp at hm;omega),cond_false]
  simpa using hw
theorem ZI0:∀n,ZIy n
 |0=>fun u v p s h h1=>by omega
 |n+1=>fun u v p s h hu0 hv0 hu hv hl=>by
  have ih:=ZI0 n
  have hl':=hl
  simp only[List.length_append]at hl'
  by_cases c1:u.length=1
  ·obtain⟨c,rfl⟩:=List.length_eq_one_iff.mp c1
   obtain⟨w,w1,w2⟩:=ZIb c v p s hv hl (a:=p.length) (m:=p.length+1) (b:=p.length+1+v.length) rfl rfl rfl
   refine⟨w,w1,fun a m b ha hm hb=>?_⟩
   subst ha;subst hm;subst hb
   rw[Z6E,Z9y (by omega) (by omega),eqT (by simp),cond_true]
   exact w2
  ·by_cases c2:v.length=1
   ·obtain⟨c,rfl⟩:=List.length_eq_one_iff.mp c2
    obtain⟨w,w1,w2⟩:=ZIc c u p s hu hl (a:=p.length) (m:=p.length+u.length) (b:=p.length+u.length+1) rfl rfl rfl
    refine⟨w,w1,fun a m b ha hm hb=>?_⟩
    subst ha;subst hm;subst hb
    rw[Z6E,Z9y (by omega) (by omega),eqF (by omega),cond_false,Z9y (by omega) (by omega),eqT (by simp),cond_true]
    exact w2
   ·by_cases c3:(p.length+(p.length+u.length+v.length))/2<p.length+u.length
    ·obtain⟨w,w1,w2⟩:=ZGX ih u v p s h hu0 hv0 hu hv hl (a:=p.length) (m:=p.length+u.length) (b:=p.length+u.length+v.length) (mid:=(p.length+(p.length+u.length+v.length))/2) (lo:=(p.length+(p.length+u.length+v.length))/2+(p.length+u.length)-(p.length+u.length+v.length)) (hi:=(p.length+(p.length+u.length+v.length))/2) rfl rfl rfl rfl (by omega) (by omega) (by omega) (by omega) (by omega) (by omega) (.inr rfl)
     refine⟨w,w1,fun a m b ha hm hb=>?_⟩
     subst ha;subst hm;subst hb
     rw[Z6E,Z9y (by omega) (by omega),eqF (by omega),cond_false,Z9y (by omega) (by omega),eqF (by omega),cond_false,ZD3 _ _ (by omega),ltT (by omega),cond_true,ZB4 _ _ (by omega),Z9y (by omega) (by omega),Z9p (by omega) (by omega)]
     exact w2
    ·obtain⟨w,w1,w2⟩:=ZGX ih u v p s h hu0 hv0 hu hv hl (a:=p.length) (m:=p.length+u.length) (b:=p.length+u.length+v.length) (mid:=(p.length+(p.length+u.length+v.length))/2) (lo:=p.length) (hi:=p.length+u.length) rfl rfl rfl rfl (by omega) (by omega) (by omega) (by omega) (by omega) (.inl rfl) (.inl rfl)
     refine⟨w,w1,fun a m b ha hm hb=>?_⟩
     subst ha;subst hm;subst hb
     rw[Z6E,Z9y (by omega) (by omega),eqF (by omega),cond_false,Z9y (by omega) (by omega),eqF (by omega),cond_false,ZD3 _ _ (by omega),ltF (by omega),cond_false,ZB4 _ _ (by omega),Z9p (by omega) (by omega)]
     exact w2
theorem ZH6 {l p s:List Rw} {a b:Rw} {i j:Nat} (h:l=p++a::b::s) (hi:p.length=i) (hj:j=i+1) (hl:l.length<4611686018427387904) {X:Option (List Dat)} {K:Rows→Option (List Dat)} (hK:K ((p++b::a::s).map Rw.e)=X):
  (bif inR (i:Int) (lenI (updR (l.map Rw.e) (tn (j:Int)) 0 [.int (gn (at' (l.map Rw.e) (tn (i:Int)))),.int (gn (tk 1 (at' (l.map Rw.e) (tn (i:Int))))),.int (gn (tk 2 (at' (l.map Rw.e) (tn (i:Int)))))]))then
    K (updR (updR (l.map Rw.e) (tn (j:Int)) 0 [.int (gn (at' (l.map Rw.e) (tn (i:Int)))),.int (gn (tk 1 (at' (l.map Rw.e) (tn (i:Int))))),.int (gn (tk 2 (at' (l.map Rw.e) (tn (i:Int)))))]) (tn (i:Int)) 0 [.int (gn (at' (l.map Rw.e) (tn (j:Int)))),.int (gn (tk 1 (at' (l.map Rw.e) (tn (j:Int))))),.int (gn (tk 2 (at' (l.map Rw.e) (tn (j:Int)))))])
    else none)=X:=by
 have hb:at' (l.map Rw.e) j=b.e:=ZC0 (u:=p++[a]) (v:=s) (by rw[h];simp) (by simp;omega)
 have ha:at' (l.map Rw.e) i=a.e:=ZC0 h hi
 have hlen:l.length=p.length+1+1+s.length:=by rw[h];simp;omega
 have h1:updR (l.map Rw.e) j 0 [.int a.k,.int a.v,.int a.w]=(p++a::a::s).map Rw.e:=by
  rw[ZFw (u:=p++[a]) (v:=s) (a:=b) (by rw[h];simp) (by simp;omega)]
  simp
 have h2:updR ((p++a::a::s).map Rw.e) i 0 [.int b.k,.int b.v,.int b.w]=(p++b::a::s).map Rw.e:=ZFw rfl hi
 simp only[Z8q,hb,ha,gk,gv,gw,h1,h2]
 rw[ZAr (by simp;omega)]
 exact hK
theorem ZJZ (a b i:Nat):∀(n:Nat) (w1 w2 p r:List Rw) (c:Rw) (j:Nat),w1.length=n→Srt (w1++w2)→(∀y∈w2,Rw.lt c y)→(p++(w1++c::(w2++r))).length<1152921504606846976→i<1152921504606846976→a=p.length→j=a+w1.length→
  ∃w,w.Perm (w1++c::w2)∧Srt w∧Z5U (a:Nat) (b:Nat) (i:Nat) (j:Nat) ((p++(w1++c::(w2++r))).map Rw.e)=Z5T (a:Nat) (b:Nat) ((i+1:Nat):Int) ((p++(w++r)).map Rw.e):=by
 intro n
 induction n with
 |zero=>
  intro w1 w2 p r c j hn hs hc hl hi ha hj
  have:w1=[]:=List.length_eq_zero_iff.mp hn
  subst this
  refine⟨c::w2,List.Perm.refl _,List.pairwise_cons.mpr ⟨fun y hy=>Rw.lt_le (hc y hy),by simpa using hs⟩,?_⟩
  simp only[List.length_nil]at hj
  rw[Z60,ltF (by omega),cond_false,Z8X (by omega)]
  simp
 |succ n ih=>
  intro w1 w2 p r c j hn hs hc hl hi ha hj
  obtain⟨w1,d,rfl⟩:=snoc_of (n:=n) (l:=w1) hn
  have hl':=hl
  simp only[List.length_append,List.length_cons,List.length_nil]at hl' hn hj
  have hxl:(p++(w1++[d]++c::(w2++r))).length=p.length+w1.length+2+w2.length+r.length:=by simp;omega
  have hc0:nth (p++(w1++[d]++c::(w2++r))) j=c:=by
   rw[Z6N p _ (by omega),Z6N (w1++[d]) _ (by simp;omega)]
   have:j-p.length-(w1++[d]).length=0:=by simp;omega
   rw[this];simp[nth]
  have hd0:nth (p++(w1++[d]++c::(w2++r))) (j-1)=d:=by
   rw[Z6N p _ (by omega),Z7e (w1++[d]) _ (by simp;omega),Z6N w1 _ (by omega)]
   have:j-1-p.length-w1.length=0:=by omega
   rw[this];simp[nth]
  have i1:inR (j:Int) (lenI ((p++(w1++[d]++c::(w2++r))).map Rw.e))=true:=ZAr (by omega)
  have i2:inR ((j-1:Nat):Int) (lenI ((p++(w1++[d]++c::(w2++r))).map Rw.e))=true:=ZAr (by omega)
  by_cases hcd:Rw.lt c d
  ·have hs':Srt (w1++d::w2):=by simpa using hs
   obtain⟨s1,s2,s3⟩:=List.pairwise_append.mp hs'
   obtain⟨w,q1,q2,q3⟩:=ih w1 (d::w2) p r c (j-1) (by omega) hs' (fun y hy=>by
    rcases List.mem_cons.mp hy with rfl|hy
    ·exact hcd
    ·exact hc y hy) (by simp only[List.length_append,List.length_cons]at*;omega) hi ha (by omega)
   refine⟨w,q1.trans ?_,q2,?_⟩
   ·rw[List.append_assoc]
    exact List.Perm.append_left w1 (List.Perm.swap d c w2)
   ·rw[Z60,ltT (by omega),cond_true,Z9p (by omega) (by omega),i1,i2,cond_true,cond_true]
    refine ZEZ (i:=j) (j:=j-1) (by omega) (by omega) ?_
    rw[ZIH,Z9x,hc0,hd0,decide_eq_true hcd,cond_true,cond_true,cond_true,cond_true]
    refine ZH6 (i:=j-1) (j:=j) (l:=p++(w1++[d]++c::(w2++r))) (p:=p++w1) (s:=w2++r) (a:=d) (b:=c) (by simp) (by simp;omega) (by omega) (by omega) (K:=fun X=>Z5U (a:Nat) (b:Nat) (i:Nat) ((j-1:Nat):Int) X) ?_
    show Z5U _ _ _ _ _=_
    rw[←q3]
    simp
  ·refine⟨w1++[d]++c::w2,List.Perm.refl _,?_,?_⟩
   ·obtain⟨s1,s2,s3⟩:=List.pairwise_append.mp hs
    refine List.pairwise_append.mpr ⟨s1,List.pairwise_cons.mpr ⟨fun y hy=>Rw.lt_le (hc y hy),s2⟩,fun x hx y hy=>?_⟩
    rcases List.mem_cons.mp hy with rfl|hy
    ·obtain⟨t1,t2,t3⟩:=List.pairwise_append.mp s1
     rcases List.mem_append.mp hx with hx|hx
     ·exact Rw.le_tr (t3 x hx d (by simp)) hcd
     ·simp at hx;subst hx;exact hcd
    ·exact s3 x hx y hy
   ·rw[Z60,ltT (by omega),cond_true,Z9p (by omega) (by omega),i1,i2,cond_true,cond_true]
    refine ZEZ (i:=j) (j:=j-1) (by omega) (by omega) ?_
    rw[ZIH,Z9x,hc0,hd0,decide_eq_false hcd,cond_false,Z8X (by omega)]
    simp
theorem ZJN (a b:Nat):∀(r w p s:List Rw) (i:Nat),Srt w→(p++(w++(r++s))).length<1152921504606846976→a=p.length→i=a+w.length→b=i+r.length→
  ∃w',w'.Perm (w++r)∧Srt w'∧Z5T (a:Nat) (b:Nat) (i:Nat) ((p++(w++(r++s))).map Rw.e)=some [.sl ((p++(w'++s)).map Rw.e)]
 |[],w,p,s,i,hs,hl,ha,hi,hb=>by
  refine⟨w,by simp,hs,?_⟩
  rw[Z5z,ltF (by simp at hb;omega),cond_false]
  rfl
 |c::r,w,p,s,i,hs,hl,ha,hi,hb=>by
  have hl':=hl
  simp only[List.length_append,List.length_cons]at hl' hb
  obtain⟨w2,q1,q2,q3⟩:=ZJZ a b i w.length w [] p (r++s) c i rfl (by simpa using hs) (fun y hy=>by cases hy) (by simp only[List.length_append,List.length_cons,List.length_nil];omega) (by omega) ha hi
  have hw2:w2.length=w.length+1:=by have:=q1.length_eq;simpa using this
  obtain⟨w',r1,r2,r3⟩:=ZJN a b r w2 p s (i+1) q2 (by simp only[List.length_append];omega) ha (by omega) (by omega)
  refine⟨w',r1.trans ?_,r2,?_⟩
  ·refine(List.Perm.append_right r q1).trans ?_
   simp
  ·rw[Z5z,ltT (by omega),cond_true]
   simp only[List.nil_append]at q3
   rw[show p++(w++(c::r++s))=p++(w++c::(r++s))by simp,q3]
   exact r3
theorem ZF5 (r p s:List Rw) (hl:(p++(r++s)).length<1152921504606846976) {a b:Nat} (ha:a=p.length) (hb:b=a+r.length):
  ∃w,w.Perm r∧Srt w∧callI tE Z5W [.sl ((p++(r++s)).map Rw.e),.int (a:Nat),.int (b:Nat)]=some [.sl ((p++(w++s)).map Rw.e)]:=by
 have hl':=hl
 simp only[List.length_append]at hl'
 cases r with
 |nil=>
  refine⟨[],List.Perm.refl _,List.Pairwise.nil,?_⟩
  rw[Z77,Z8X (by omega),Z5z,ltF (by simp at hb;omega),cond_false]
 |cons c r=>
  simp only[List.length_cons]at hb hl'
  obtain⟨w,q1,q2,q3⟩:=ZJN a b r [c] p s (a+1) (List.pairwise_singleton _ _) (by simp only[List.length_append,List.length_cons,List.length_nil];omega) ha rfl (by omega)
  refine⟨w,by simpa using q1,q2,?_⟩
  rw[Z77,Z8X (by omega)]
  exact q3
def Blk (k:Nat) (l:List Rw):Prop:=∀i j,i≤j→j<l.length→i/k=j/k→Rw.le (nth l i) (nth l j)
theorem ZHa {l:List Rw} (h:∀i j,i≤j→j<l.length→Rw.le (nth l i) (nth l j)):Srt l:=by
 refine List.pairwise_iff_getElem.mpr fun i j hi hj hij=>?_
 have:=h i j (by omega) hj
 simpa[nth,List.getD_eq_getElem?_getD,hi,hj]using this
theorem Blk.app {k:Nat} (_hk:0<k) {p w:List Rw} (hp:Blk k p) (hd:k∣p.length) (hw:Srt w) (hl:w.length≤k):Blk k (p++w):=fun i j hij hj he=>by
 obtain⟨m,hm⟩:=hd
 simp only[List.length_append]at hj
 by_cases h1:j<p.length
 ·rw[Z7e p w (by omega),Z7e p w h1]
  exact hp i j hij h1 he
 ·have h2:p.length≤i:=by
   by_cases h3:i<p.length
   ·exfalso
    have a1:i/k<m:=by rw[Nat.div_lt_iff_lt_mul _hk,Nat.mul_comm];omega
    have a2:m≤j/k:=by rw[Nat.le_div_iff_mul_le _hk,Nat.mul_comm];omega
    omega
   ·omega
  rw[Z6N p w h2,Z6N p w (by omega)]
  exact ZD4 hw (by omega) (by omega)
theorem Blk.cut {k:Nat} (hk:0<k) {u r:List Rw} (h:Blk k (u++r)) (hu:u.length=k):Srt u∧Blk k r:=by
 refine⟨ZHa fun i j hij hj=>?_,fun i j hij hj he=>?_⟩
 ·have:=h i j hij (by simp;omega) (by rw[Nat.div_eq_of_lt (by omega),Nat.div_eq_of_lt (by omega)])
  rwa [Z7e u r (by omega),Z7e u r hj]at this
 ·have:=h (u.length+i) (u.length+j) (by omega) (by simp;omega) (by rw[hu,Nat.add_div_left _ hk,Nat.add_div_left _ hk,he])
  rw[Z6N u r (by omega),Z6N u r (by omega)]at this
  simpa using this
theorem Blk.srt {k:Nat} {l:List Rw} (h:Blk k l) (hl:l.length≤k):Srt l:=ZHa fun i j hij hj=>h i j hij hj (by rw[Nat.div_eq_of_lt (by omega),Nat.div_eq_of_lt (by omega)])
theorem st0 (n:Nat):∀(f:Nat) (r p:List Rw),r.length≤f→Blk 20 p→20∣p.length→n=p.length+r.length→n<1152921504606846976→
  ∃x,x.Perm (p++r)∧Blk 20 x∧Z5s (n:Nat) 20 (p.length:Nat) ((p.length+20:Nat):Int) ((p++r).map Rw.e)=Z5O (n:Nat) 20 (x.map Rw.e):=by
 intro f
 induction f with
 |zero=>
  intro r p hf hb hd hn hl
  have:r=[]:=List.length_eq_zero_iff.mp (by omega)
  subst this
  simp only[List.length_nil]at hn
  obtain⟨w,w1,w2,w3⟩:=ZF5 [] p [] (by simp;omega) (a:=p.length) (b:=n) rfl (by simp;omega)
  have:w=[]:=w1.eq_nil
  subst this
  refine⟨p,by simp,hb,?_⟩
  simp only[List.append_nil]at w3⊢
  rw[Z6R,show leI ((p.length+20:Nat):Int) (n:Nat)=false from leF (by omega),cond_false,w3]
  rfl
 |succ f ih=>
  intro r p hf hb hd hn hl
  by_cases hr:20≤r.length
  ·obtain⟨r1,r2,rfl,hr1⟩:=ZD5 (u:=r) (t:=20) hr
   simp only[List.length_append]at hn hf hr
   obtain⟨w,w1,w2,w3⟩:=ZF5 r1 p r2 (by simp only[List.length_append];omega) (a:=p.length) (b:=p.length+20) rfl (by omega)
   have hw:=w1.length_eq
   obtain⟨x,x1,x2,x3⟩:=ih r2 (p++w) (by omega) (hb.app (by omega) hd w2 (by omega)) (by simp only[List.length_append];omega) (by simp only[List.length_append];omega) hl
   refine⟨x,x1.trans ?_,x2,?_⟩
   ·rw[List.append_assoc]
    exact List.Perm.append_left p (List.Perm.append_right r2 w1)
   ·rw[Z6R,leT (by omega),cond_true,w3]
    simp only[gA]
    rw[show w64 (((p.length+20:Nat):Int)+20)=((p.length+20+20:Nat):Int)from ZB4 _ 20 (by omega)]
    simp only[List.length_append,hw,hr1,List.append_assoc]at x3
    exact x3
  ·obtain⟨w,w1,w2,w3⟩:=ZF5 r p [] (by simp;omega) (a:=p.length) (b:=n) rfl (by omega)
   have hw:=w1.length_eq
   refine⟨p++w,List.Perm.append_left p w1,hb.app (by omega) hd w2 (by omega),?_⟩
   simp only[List.append_nil]at w3
   rw[Z6R,leF (by omega),cond_false,w3]
   rfl
theorem ZD6 (k:Nat) (h:k<1152921504606846976):w64 (2*(k:Int))=((2*k:Nat):Int)∧w64 ((k:Int)*2)=((2*k:Nat):Int):=by
 constructor<;>(rw[Z5a ⟨by omega,by omega⟩];omega)
theorem st2 (n k:Nat) (hk:0<k) (hk2:k<1152921504606846976):∀(f:Nat) (r p:List Rw),r.length≤f→Blk (2*k) p→(2*k)∣p.length→Blk k r→n=p.length+r.length→n<1152921504606846976→
  ∃x,x.Perm (p++r)∧Blk (2*k) x∧Z5t (n:Nat) (k:Nat) (p.length:Nat) ((p.length+2*k:Nat):Int) ((p++r).map Rw.e)=Z5O (n:Nat) ((2*k:Nat):Int) (x.map Rw.e):=by
 have small:∀(r p:List Rw),r.length≤k→Blk (2*k) p→(2*k)∣p.length→Blk k r→n=p.length+r.length→n<1152921504606846976→
   ∃x,x.Perm (p++r)∧Blk (2*k) x∧Z5t (n:Nat) (k:Nat) (p.length:Nat) ((p.length+2*k:Nat):Int) ((p++r).map Rw.e)=Z5O (n:Nat) ((2*k:Nat):Int) (x.map Rw.e):=fun r p h1 hb hd hr hn hl=>by
  refine⟨p++r,List.Perm.refl _,hb.app (by omega) hd (hr.srt h1) (by omega),?_⟩
  rw[Z6S,leF (by omega),cond_false,ZB4 _ _ (by omega),ltF (by omega),cond_false,(ZD6 k hk2).2]
 intro f
 induction f with
 |zero=>exact fun r p hf hb hd hr hn hl=>small r p (by omega) hb hd hr hn hl
 |succ f ih=>
  intro r p hf hb hd hr hn hl
  by_cases h1:r.length≤k
  ·exact small r p h1 hb hd hr hn hl
  ·obtain⟨u,r',rfl,hu⟩:=ZD5 (u:=r) (t:=k) (by omega)
   obtain⟨su,hr'⟩:=hr.cut hk hu
   simp only[List.length_append]at hn hf h1
   by_cases h2:k≤r'.length
   ·obtain⟨v,r2,rfl,hv⟩:=ZD5 (u:=r') (t:=k) h2
    obtain⟨sv,hr2⟩:=hr'.cut hk hv
    simp only[List.length_append]at hn hf h1 h2
    obtain⟨w,w1,w2⟩:=ZI0 _ u v p r2 (Nat.le_refl _) (by omega) (by omega) su sv (by simp only[List.length_append];omega)
    have hw:=w1.1.length_eq
    simp only[List.length_append]at hw
    obtain⟨x,x1,x2,x3⟩:=ih r2 (p++w) (by omega) (hb.app (by omega) hd w1.2 (by omega)) (by
     simp only[List.length_append]
     rw[hw,hu,hv,←Nat.two_mul]
     exact Nat.dvd_add hd (Nat.dvd_refl _)) hr2 (by simp only[List.length_append];omega) hl
    refine⟨x,x1.trans ?_,x2,?_⟩
    ·rw[List.append_assoc,←List.append_assoc u]
     exact List.Perm.append_left p (List.Perm.append_right r2 w1.1)
    ·rw[Z6S,leT (by omega),cond_true,ZB4 _ _ (by omega),w2 _ _ _ rfl (by omega) (by omega)]
     simp only[gA]
     rw[(ZD6 k hk2).1,ZB4 _ _ (by omega)]
     simp only[List.length_append,hw,hu,hv,List.append_assoc,←Nat.two_mul]at x3
     exact x3
   ·have sv:=hr'.srt (by omega)
    obtain⟨w,w1,w2⟩:=ZI0 _ u r' p [] (Nat.le_refl _) (by omega) (by omega) su sv (by simp only[List.length_append,List.length_nil];omega)
    have hw:=w1.1.length_eq
    simp only[List.length_append]at hw
    refine⟨p++w,List.Perm.append_left p w1.1,hb.app (by omega) hd w1.2 (by omega),?_⟩
    have w2:=w2 (p.length:Nat) ((p.length+k:Nat):Int) (n:Nat) rfl (by omega) (by omega)
    simp only[List.append_nil]at w2
    rw[Z6S,leF (by omega),cond_false,ZB4 _ _ (by omega),ltT (by omega),cond_true,w2]
    simp only[gA]
    rw[(ZD6 k hk2).2]
theorem st1 (n:Nat) (hn:n<1152921504606846976):∀(f k:Nat) (x:List Rw),0<k→n≤k+f→k<1152921504606846976→Blk k x→x.length=n→
  ∃y,y.Perm x∧Srt y∧Z5O (n:Nat) (k:Nat) (x.map Rw.e)=some [.sl (y.map Rw.e)]:=by
 intro f
 induction f with
 |zero=>
  intro k x hk hf hk2 hb hx
  refine⟨x,List.Perm.refl _,hb.srt (by omega),?_⟩
  rw[Z5k,ltF (by omega),cond_false]
 |succ f ih=>
  intro k x hk hf hk2 hb hx
  by_cases h:k<n
  ·obtain⟨y,y1,y2,y3⟩:=st2 n k hk hk2 x.length x [] (Nat.le_refl _) (fun i j hi hj=>by simp at hj) (by simp) hb (by simpa using hx.symm) hn
   have hy:=y1.length_eq
   simp only[List.nil_append,List.length_nil,Nat.zero_add]at hy y1 y3
   by_cases h3:2*k<1152921504606846976
   ·obtain⟨z,z1,z2,z3⟩:=ih (2*k) y (by omega) (by omega) h3 y2 (by omega)
    refine⟨z,z1.trans y1,z2,?_⟩
    rw[Z5k,ltT (by omega),cond_true,(ZD6 k hk2).1]
    exact y3.trans z3
   ·refine⟨y,y1,y2.srt (by omega),?_⟩
    rw[Z5k,ltT (by omega),cond_true,(ZD6 k hk2).1]
    refine y3.trans ?_
    rw[Z5k,ltF (by omega),cond_false]
  ·refine⟨x,List.Perm.refl _,hb.srt (by omega),?_⟩
   rw[Z5k,ltF (by omega),cond_false]
theorem ZFx (x:List Rw) (hx:x.length<1152921504606846976):∃y,y.Perm x∧Srt y∧callI tE Z6q [.sl (x.map Rw.e)]=some [.sl (y.map Rw.e)]:=by
 obtain⟨z,z1,z2,z3⟩:=st0 x.length x.length x [] (Nat.le_refl _) (fun i j hi hj=>by simp at hj) (by simp) (by simp) hx
 simp only[List.nil_append,List.length_nil,Nat.zero_add]at z1 z3
 obtain⟨y,y1,y2,y3⟩:=st1 x.length hx x.length 20 z (by omega) (by omega) (by omega) z2 z1.length_eq
 refine⟨y,y1.trans z1,y2,?_⟩
 rw[Z9Z,Z5L,Z9j]
 have z3:Z5s (x.length:Nat) 20 0 20 (x.map Rw.e)=Z5O (x.length:Nat) 20 (z.map Rw.e):=z3
 have y3:Z5O (x.length:Nat) 20 (z.map Rw.e)=some [.sl (y.map Rw.e)]:=y3
 rw[z3,y3]
 rfl
set_option maxRecDepth 100000
theorem ZDz (a0:Rows) (a1 a2:Int):callI tE Z6G [.sl a0,.int a1,.int a2]=(bif(ltI a1 (lenI a0))then(bif(inR a1 (lenI a0))then(bif(ltI a2 (lenI (gl (at' a0 (tn a1)))))then(bif(inR a1 (lenI a0))then(bif(inR a2 (lenI (gl (at' a0 (tn a1)))))then(some [(.sl [[(.int (gn (at' (gl (at' a0 (tn a1))) (tn a2)))),(.int (gn (tk 1 (at' (gl (at' a0 (tn a1))) (tn a2))))),(.int (gn (tk 2 (at' (gl (at' a0 (tn a1))) (tn a2)))))]])])else none)else none)else(some [(.sl [])]))else none)else(some [(.sl [])])):=(callI_run rfl (by kernel_rfl)).trans (by kernel_rfl)
theorem ZB5 (a0:Rows) (a1:Int) (a2 a3 a4 a5:Rows) (a6 a7 a8 a9:Int):callI tE Z6p [.sl a0,.int a1,.sl a2,.sl a3,.sl a4,.sl a5,.int a6,.int a7,.int a8,.int a9]=(bif(eqI a8 1)then(((callI tE Z6M [(.sl a2)])).bind (fun r0=>(((callI tE Z6M [(.sl a3)])).bind (fun r1=>(some [(.int (w64 ((gn r0)+(gn r1))))])))))else(bif(eqI a8 2)then(bif(ltI a6 0)then(some [(.int 0)])else(bif(ltI a7 0)then(some [(.int 0)])else(((callI tE Z6G [(.sl a5),(.int 0),(.int a6)])).bind (fun r0=>(((callI tE Z6M [(.sl (gl r0))])).bind (fun r1=>(((callI tE Z6G [(.sl a5),(.int 1),(.int a7)])).bind (fun r2=>(((callI tE Z6M [(.sl (gl r2))])).bind (fun r3=>(some [(.int (w64 ((gn r1)+(gn r3))))])))))))))))else(bif(eqI a8 3)then(bif(ltI a6 0)then(some [(.int 0)])else(((callI tE Z6G [(.sl a5),(.int 0),(.int a6)])).bind (fun r0=>(((callI tE Z6M [(.sl (gl r0))])).bind (fun r1=>(some [(.int (gn r1))]))))))else(some [(.int 0)])))):=(callI_run rfl (by kernel_rfl)).trans (by kernel_rfl)
noncomputable def Z7D (x0:Rows) (x1:Int):Option (List Dat):=loopK tE Z7M 0 ⟨[(0,(.ro 277 Bool.false x0)),(3,(.i .i64 x1))],[]⟩
theorem Z8E (x0:Rows) (x1:Int):Z7D x0 x1=(bif(ltI x1 (lenI x0))then(bif(inR x1 (lenI x0))then(bif(eqI (lenI (gl (at' x0 (tn x1)))) 0)then(some [(.bool Bool.false)])else(bif(inR x1 (lenI x0))then(((callI tE Z7g [(.sl (gl (at' x0 (tn x1))))])).bind (fun r0=>(bif(!(gb r0))then(some [(.bool Bool.false)])else(bif(inR x1 (lenI x0))then(((callI tE Z5i [(.sl (gl (at' x0 (tn x1))))])).bind (fun r1=>(bif(!(gb r1))then(some [(.bool Bool.false)])else(Z7D x0 (w64 (x1+1))))))else none))))else none))else none)else(some [(.bool Bool.true)])):=(loopK_run (by kernel_rfl)).trans (by kernel_rfl)
theorem ZB6 (a0:Rows):callI tE Z7M [.sl a0]=(Z7D a0 0):=(callI_run rfl (by kernel_rfl)).trans (by kernel_rfl)
noncomputable def Z66 (x0:Rows) (x1:Int) (x2:Rows):Option (List Dat):=loopK tE Z6Z 0 ⟨[(0,(.ro 277 Bool.false x0)),(3,(.own (500000,0))),(4,(.i .i64 x1))],[((500000,0),(.row 224 x2 Bool.true 0 []))]⟩
theorem Z8S (x0:Rows) (x1:Int) (x2:Rows):Z66 x0 x1 x2=(bif(ltI x1 (lenI x0))then(bif(inR x1 (lenI x0))then(bif(fitM ((len x2)+(len (gl (at' x0 (tn x1))))) 24)then(Z66 x0 (w64 (x1+1)) (List.append x2 (gl (at' x0 (tn x1)))))else none)else none)else(some [(.sl x2)])):=(loopK_run (by kernel_rfl)).trans (by kernel_rfl)
theorem ZBO (a0:Rows):callI tE Z6Z [.sl a0]=(Z66 a0 0 []):=(callI_run rfl (by kernel_rfl)).trans (by kernel_rfl)
noncomputable def Z5Y (x0 x1:Rows) (x2 x3:Int) (x4:Rows):Option (List Dat):=loopK tE Z6z 0 ⟨[(0,(.ro 224 Bool.false x0)),(1,(.ro 224 Bool.false x1)),(5,(.own (500000,0))),(6,(.i .i64 x2)),(7,(.i .i64 x3))],[((500000,0),(.row 224 x4 Bool.true 0 []))]⟩
theorem Z6k (x0 x1:Rows) (x2 x3:Int) (x4:Rows):Z5Y x0 x1 x2 x3 x4=(bif(ltI x2 (lenI x0))then(bif(eqI x3 (lenI x1))then(bif(inR x2 (lenI x0))then(bif(fitM (Nat.succ (len x4)) 24)then(Z5Y x0 x1 (w64 (x2+1)) x3 (List.append x4 [[(.int (gn (at' x0 (tn x2)))),(.int (gn (tk 1 (at' x0 (tn x2))))),(.int (gn (tk 2 (at' x0 (tn x2)))))]]))else none)else none)else(bif(ltI x2 (lenI x0))then(bif(inR x2 (lenI x0))then(bif(inR x3 (lenI x1))then(((callI tE Z5e [(.int (gn (at' x0 (tn x2)))),(.int (gn (tk 1 (at' x0 (tn x2))))),(.int (gn (tk 2 (at' x0 (tn x2))))),(.int (gn (at' x1 (tn x3)))),(.int (gn (tk 1 (at' x1 (tn x3))))),(.int (gn (tk 2 (at' x1 (tn x3)))))])).bind (fun r0=>(bif(leI (gn r0) 0)then(bif(inR x2 (lenI x0))then(bif(fitM (Nat.succ (len x4)) 24)then(Z5Y x0 x1 (w64 (x2+1)) x3 (List.append x4 [[(.int (gn (at' x0 (tn x2)))),(.int (gn (tk 1 (at' x0 (tn x2))))),(.int (gn (tk 2 (at' x0 (tn x2)))))]]))else none)else none)else(bif(inR x3 (lenI x1))then(bif(fitM (Nat.succ (len x4)) 24)then(Z5Y x0 x1 x2 (w64 (x3+1)) (List.append x4 [[(.int (gn (at' x1 (tn x3)))),(.int (gn (tk 1 (at' x1 (tn x3))))),(.int (gn (tk 2 (at' x1 (tn x3)))))]]))else none)else none))))else none)else none)else(bif(inR x3 (lenI x1))then(bif(fitM (Nat.succ (len x4)) 24)then(Z5Y x0 x1 x2 (w64 (x3+1)) (List.append x4 [[(.int (gn (at' x1 (tn x3)))),(.int (gn (tk 1 (at' x1 (tn x3))))),(.int (gn (tk 2 (at' x1 (tn x3)))))]]))else none)else none)))else(bif(ltI x3 (lenI x1))then(bif(eqI x3 (lenI x1))then(bif(inR x2 (lenI x0))then(bif(fitM (Nat.succ (len x4)) 24)then(Z5Y x0 x1 (w64 (x2+1)) x3 (List.append x4 [[(.int (gn (at' x0 (tn x2)))),(.int (gn (tk 1 (at' x0 (tn x2))))),(.int (gn (tk 2 (at' x0 (tn x2)))))]]))else none)else none)else(bif(ltI x2 (lenI x0))then(bif(inR x2 (lenI x0))then(bif(inR x3 (lenI x1))then(((callI tE Z5e [(.int (gn (at' x0 (tn x2)))),(.int (gn (tk 1 (at' x0 (tn x2))))),(.int (gn (tk 2 (at' x0 (tn x2))))),(.int (gn (at' x1 (tn x3)))),(.int (gn (tk 1 (at' x1 (tn x3))))),(.int (gn (tk 2 (at' x1 (tn x3)))))])).bind (fun r0=>(bif(leI (gn r0) 0)then(bif(inR x2 (lenI x0))then(bif(fitM (Nat.succ (len x4)) 24)then(Z5Y x0 x1 (w64 (x2+1)) x3 (List.append x4 [[(.int (gn (at' x0 (tn x2)))),(.int (gn (tk 1 (at' x0 (tn x2))))),(.int (gn (tk 2 (at' x0 (tn x2)))))]]))else none)else none)else(bif(inR x3 (lenI x1))then(bif(fitM (Nat.succ (len x4)) 24)then(Z5Y x0 x1 x2 (w64 (x3+1)) (List.append x4 [[(.int (gn (at' x1 (tn x3)))),(.int (gn (tk 1 (at' x1 (tn x3))))),(.int (gn (tk 2 (at' x1 (tn x3)))))]]))else none)else none))))else none)else none)else(bif(inR x3 (lenI x1))then(bif(fitM (Nat.succ (len x4)) 24)then(Z5Y x0 x1 x2 (w64 (x3+1)) (List.append x4 [[(.int (gn (at' x1 (tn x3)))),(.int (gn (tk 1 (at' x1 (tn x3))))),(.int (gn (tk 2 (at' x1 (tn x3)))))]]))else none)else none)))else(some [(.sl x4)]))):=(loopK_run (by kernel_rfl)).trans (by kernel_rfl)
theorem ZBP (a0 a1:Rows):callI tE Z6z [.sl a0,.sl a1]=(Z5Y a0 a1 0 0 []):=(callI_run rfl (by kernel_rfl)).trans (by kernel_rfl)
noncomputable def Z68 (x0 x1 x2:Int) (x3:Rows) (x4:Int) (x5 x6 x7 x8:Rows) (x9 x10 x11 x12:Int):Option (List Dat):=loopK tE Z63 0 ⟨[(1,(.ptr (500000,0) x0 0)),(3,(.i .i64 x1)),(4,(.i .i64 x2))],[((500000,0),(.box 54 [(.ro 224 Bool.false x3),(.i .i64 x4),(.ro 224 Bool.false x5),(.ro 224 Bool.false x6),(.ro 224 Bool.false x7),(.ro 277 Bool.false x8),(.i .i64 x9),(.i .i64 x10),(.i .i64 x11),(.i .i64 x12)]))]⟩
theorem Z85 (x0 x1 x2:Int) (x3:Rows) (x4:Int) (x5 x6 x7 x8:Rows) (x9 x10 x11 x12:Int):Z68 x0 x1 x2 x3 x4 x5 x6 x7 x8 x9 x10 x11 x12=(bif(ltI x2 (lenI x5))then(bif(leI 0 x1)then(bif(inR x2 (lenI x5))then(bif(inR x1 (lenI x7))then(((callI tE Z5e [(.int (gn (at' x5 (tn x2)))),(.int (gn (tk 1 (at' x5 (tn x2))))),(.int (gn (tk 2 (at' x5 (tn x2))))),(.int (gn (at' x7 (tn x1)))),(.int (gn (tk 1 (at' x7 (tn x1))))),(.int (gn (tk 2 (at' x7 (tn x1)))))])).bind (fun r0=>(bif(ltI (gn r0) 0)then(some [(.bool Bool.false)])else(Z68 x0 x1 (w64 (x2+1)) x3 x4 x5 x6 x7 x8 x9 x10 x11 x12))))else none)else none)else(Z68 x0 x1 (w64 (x2+1)) x3 x4 x5 x6 x7 x8 x9 x10 x11 x12))else(bif(eqI x11 1)then(((callI tE Z6Z [(.sl x8)])).bind (fun r0=>(bif(fitM ((len (gl r0))+(len x7)) 24)then(bif(fitM ((len (List.append (gl r0) x7))+(len x5)) 24)then(bif(fitM ((len (List.append (List.append (gl r0) x7) x5))+(len x6)) 24)then(bif(eqI x9 0)then(bif(eqI x10 0)then(bif(eqI (lenI x6) 0)then(((callI tE Z6p [(.sl x3),(.int x4),(.sl x5),(.sl x6),(.sl x7),(.sl x8),(.int x9),(.int x10),(.int x11),(.int x12)])).bind (fun r1=>(bif(leI (gn r1) 60)then(bif((leI 0 x4)&&(leI x4 (lenI x3)))then(((callI tE Z6b [(.sl (List.append (List.append (List.append (gl r0) x7) x5) x6)),(.sl (List.take (tn (x4-0)) (List.drop (tn 0) x3)))])).bind (fun r2=>(some [(.bool (gb r2))])))else none)else(some [(.bool Bool.false)]))))else(bif(leI 0 x1)then(((callI tE Z6p [(.sl x3),(.int x4),(.sl x5),(.sl x6),(.sl x7),(.sl x8),(.int x9),(.int x10),(.int x11),(.int x12)])).bind (fun r1=>(bif(leI (gn r1) 60)then(bif((leI 0 x4)&&(leI x4 (lenI x3)))then(((callI tE Z6b [(.sl (List.append (List.append (List.append (gl r0) x7) x5) x6)),(.sl (List.take (tn (x4-0)) (List.drop (tn 0) x3)))])).bind (fun r2=>(some [(.bool (gb r2))])))else none)else(some [(.bool Bool.false)]))))else(some [(.bool Bool.false)])))else(some [(.bool Bool.false)]))else(some [(.bool Bool.false)]))else none)else none)else none)))else(bif(!(eqI x4 (lenI x3)))then(some [(.bool Bool.false)])else(bif(ltI 0 (w64 ((lenI x5)+(lenI x6))))then(some [(.bool Bool.false)])else(bif(eqI x11 2)then(bif(ltI (lenI x8) 2)then(some [(.bool Bool.false)])else(bif(inR 0 (lenI x8))then(((callI tE Z7F [(.int x9),(.int 0),(.int (lenI (gl (at' x8 (tn 0)))))])).bind (fun r0=>(bif(!(gb r0))then(some [(.bool Bool.false)])else(bif(inR 1 (lenI x8))then(((callI tE Z7F [(.int x10),(.int 0),(.int (lenI (gl (at' x8 (tn 1)))))])).bind (fun r1=>(bif(!(gb r1))then(some [(.bool Bool.false)])else(bif(inR 0 (lenI x8))then(bif((leI 0 x9)&&(leI x9 (lenI (gl (at' x8 (tn 0))))))then(bif(inR 1 (lenI x8))then(bif((leI 0 x10)&&(leI x10 (lenI (gl (at' x8 (tn 1))))))then(((callI tE Z6z [(.sl (List.take (tn (x9-0)) (List.drop (tn 0) (gl (at' x8 (tn 0)))))),(.sl (List.take (tn (x10-0)) (List.drop (tn 0) (gl (at' x8 (tn 1))))))])).bind (fun r2=>(bif(inR 0 (lenI x8))then(bif(inR 1 (lenI x8))then(((callI tE Z6z [(.sl (gl (at' x8 (tn 0)))),(.sl (gl (at' x8 (tn 1))))])).bind (fun r3=>(bif((leI 0 (w64 (x9+x10)))&&(leI (w64 (x9+x10)) (lenI (gl r3))))then(((callI tE Z6H [(.sl x7),(.sl (List.take (tn ((w64 (x9+x10))-0)) (List.drop (tn 0) (gl r3))))])).bind (fun r4=>(bif(gb r4)then(((callI tE Z6H [(.sl (gl r2)),(.sl x7)])).bind (fun r5=>(bif(gb r5)then(((callI tE Z6Z [(.sl x8)])).bind (fun r6=>(((callI tE Z6b [(.sl (gl r6)),(.sl x3)])).bind (fun r7=>(some [(.bool (gb r7))])))))else(some [(.bool Bool.false)]))))else(some [(.bool Bool.false)]))))else none)))else none)else none)))else none)else none)else none)else none))))else none))))else none))else(bif(ltI 1 (lenI x8))then(some [(.bool Bool.false)])else(bif(!(eqI x10 0))then(some [(.bool Bool.false)])else(bif(ltI 0 (lenI x7))then(some [(.bool Bool.false)])else(((callI tE Z6Z [(.sl x8)])).bind (fun r0=>(((callI tE Z6b [(.sl (gl r0)),(.sl x3)])).bind (fun r1=>(bif(!(gb r1))then(some [(.bool Bool.false)])else(bif(eqI x11 3)then(bif(eqI (lenI x8) 1)then(((callI tE Z7F [(.int x9),(.int 0),(.int (w64 ((lenI x3)-1)))])).bind (fun r2=>(some [(.bool (gb r2))])))else(some [(.bool Bool.false)]))else(bif(eqI x11 4)then(some [(.bool (eqI x9 (lenI x3)))])else(some [(.bool Bool.false)])))))))))))))))):=(loopK_run (by kernel_rfl)).trans (by kernel_rfl)
theorem ZAt (a0:Rows) (a1:Int) (a2 a3 a4 a5:Rows) (a6 a7 a8 a9:Int):callI tE Z63 [.sl a0,.int a1,.sl a2,.sl a3,.sl a4,.sl a5,.int a6,.int a7,.int a8,.int a9]=(((callI tE Z5i [(.sl a0)])).bind (fun r0=>(bif(!(gb r0))then(some [(.bool Bool.false)])else(((callI tE Z7F [(.int a1),(.int 0),(.int (lenI a0))])).bind (fun r1=>(bif(!(gb r1))then(some [(.bool Bool.false)])else(((callI tE Z7M [(.sl a5)])).bind (fun r2=>(bif(!(gb r2))then(some [(.bool Bool.false)])else(bif(ltI a9 0)then(some [(.bool Bool.false)])else(((callI tE Z7g [(.sl a4)])).bind (fun r3=>(bif(!(gb r3))then(some [(.bool Bool.false)])else(Z68 0 (w64 ((lenI a4)-1)) 0 a0 a1 a2 a3 a4 a5 a6 a7 a8 a9)))))))))))))):=(callI_run rfl (by kernel_rfl)).trans (by kernel_rfl)
noncomputable def Z6d (x0:Rows) (x1:Int) (x2:Rows):Option (List Dat):=loopK tE Z8m 0 ⟨[(0,(.ro 277 Bool.false x0)),(3,(.own (500000,0))),(4,(.i .i64 x1))],[((500000,0),(.row 277 x2 Bool.true 0 []))]⟩
theorem Z9a (x0:Rows) (x1:Int) (x2:Rows):Z6d x0 x1 x2=(bif(ltI x1 (lenI x0))then(bif(inR x1 (lenI x0))then(bif(fitM (0+(len (gl (at' x0 (tn x1))))) 24)then(bif(fitM (Nat.succ (len x2)) 24)then(Z6d x0 (w64 (x1+1)) (List.append x2 [[(.sl (gl (at' x0 (tn x1))))]]))else none)else none)else none)else(some [(.sl x2)])):=(loopK_run (by kernel_rfl)).trans (by kernel_rfl)
theorem ZDN (a0:Rows):callI tE Z8m [.sl a0]=(Z6d a0 0 []):=(callI_run rfl (by kernel_rfl)).trans (by kernel_rfl)
theorem ZDO (a0:Rows) (a1:Int) (a2 a3 a4 a5:Rows) (a6 a7 a8 a9:Int):callI tE Z9u [.sl a0,.int a1,.sl a2,.sl a3,.sl a4,.sl a5,.int a6,.int a7,.int a8,.int a9]=(bif(fitM (0+(len a0)) 24)then(bif(fitM (0+(len a2)) 24)then(bif(fitM (0+(len a3)) 24)then(bif(fitM (0+(len a4)) 24)then(((callI tE Z8m [(.sl a5)])).bind (fun r0=>(some [(.sl a0),(.int a1),(.sl a2),(.sl a3),(.sl a4),(.sl (gl r0)),(.int a6),(.int a7),(.int a8),(.int a9)])))else none)else none)else none)else none):=(callI_run rfl (by kernel_rfl)).trans (by kernel_rfl)
theorem ZDP (a0:Rows) (a1:Int) (a2 a3 a4 a5:Rows) (a6 a7 a8 a9 a10 a11:Int):callI tE Z84 [.sl a0,.int a1,.sl a2,.sl a3,.sl a4,.sl a5,.int a6,.int a7,.int a8,.int a9,.int a10,.int a11]=(bif(leI (lenI a5) a10)then(some [(.int 0)])else(bif(ltI a11 0)then(some [(.int 0)])else(bif(inR a10 (lenI a5))then(bif(leI (lenI (gl (at' a5 (tn a10)))) a11)then(some [(.int 0)])else(bif(inR a10 (lenI a5))then(bif(inR a11 (lenI (gl (at' a5 (tn a10)))))then(((callI tE Z8n [(.int (gn (at' (gl (at' a5 (tn a10))) (tn a11)))),(.int (gn (tk 1 (at' (gl (at' a5 (tn a10))) (tn a11))))),(.int (gn (tk 2 (at' (gl (at' a5 (tn a10))) (tn a11)))))])).bind (fun r0=>(some [(.int (gn r0))])))else none)else none))else none))):=(callI_run rfl (by kernel_rfl)).trans (by kernel_rfl)
theorem ZB7 (a0:Rows) (a1:Int) (a2 a3 a4 a5:Rows) (a6 a7 a8 a9:Int):callI tE Z7N [.sl a0,.int a1,.sl a2,.sl a3,.sl a4,.sl a5,.int a6,.int a7,.int a8,.int a9]=(bif(eqI a8 1)then(((callI tE Z7R [(.sl a2)])).bind (fun r0=>(((callI tE Z7R [(.sl a3)])).bind (fun r1=>(some [(.int (w64 ((gn r0)+(gn r1))))])))))else(bif(eqI a8 2)then(bif(ltI a6 0)then(some [(.int 0)])else(bif(ltI a7 0)then(some [(.int 0)])else(((callI tE Z84 [(.sl a0),(.int a1),(.sl a2),(.sl a3),(.sl a4),(.sl a5),(.int a6),(.int a7),(.int a8),(.int a9),(.int 0),(.int a6)])).bind (fun r0=>(((callI tE Z84 [(.sl a0),(.int a1),(.sl a2),(.sl a3),(.sl a4),(.sl a5),(.int a6),(.int a7),(.int a8),(.int a9),(.int 1),(.int a7)])).bind (fun r1=>(some [(.int (w64 ((gn r0)+(gn r1))))])))))))else(bif(eqI a8 3)then(((callI tE Z84 [(.sl a0),(.int a1),(.sl a2),(.sl a3),(.sl a4),(.sl a5),(.int a6),(.int a7),(.int a8),(.int a9),(.int 0),(.int a6)])).bind (fun r0=>(some [(.int (gn r0))])))else(some [(.int 0)])))):=(callI_run rfl (by kernel_rfl)).trans (by kernel_rfl)
theorem ZEa (a0 a1 a2:Int) (a3:Rows):callI tE ZAX [.int a0,.int a1,.int a2,.sl a3]=(bif(ltI 0 (lenI a3))then(bif(inR (w64 ((lenI a3)-1)) (lenI a3))then(((callI tE Z5h [(.int a0),(.int a1),(.int a2),(.int (gn (at' a3 (tn (w64 ((lenI a3)-1)))))),(.int (gn (tk 1 (at' a3 (tn (w64 ((lenI a3)-1))))))),(.int (gn (tk 2 (at' a3 (tn (w64 ((lenI a3)-1)))))))])).bind (fun r0=>(some [(.bool (ltI (gn r0) 0))])))else none)else(some [(.bool Bool.false)])):=(callI_run rfl (by kernel_rfl)).trans (by kernel_rfl)
noncomputable def Z7E (x0:Rows) (x1 x2:Int):Option (List Dat):=loopK tE Z7O 0 ⟨[(5,(.ro 277 Bool.false x0)),(6,(.i .i64 x1)),(7,(.i .i64 x2))],[]⟩
theorem Z8F (x0:Rows) (x1 x2:Int):Z7E x0 x1 x2=(bif(ltI x2 x1)then(bif(inR x2 (lenI x0))then(bif(eqI (lenI (gl (at' x0 (tn x2)))) 0)then(some [(.bool Bool.false)])else(((callI tE Z7i [(.sl (gl (at' x0 (tn x2))))])).bind (fun r0=>(bif(!(gb r0))then(some [(.bool Bool.false)])else(((callI tE Z6A [(.sl (gl (at' x0 (tn x2))))])).bind (fun r1=>(bif(!(gb r1))then(some [(.bool Bool.false)])else(Z7E x0 x1 (w64 (x2+1))))))))))else none)else(some [(.bool Bool.true)])):=(loopK_run (by kernel_rfl)).trans (by kernel_rfl)
theorem ZB8 (a0:Rows):callI tE Z7O [.sl a0]=(Z7E a0 (lenI a0) 0):=(callI_run rfl (by kernel_rfl)).trans (by kernel_rfl)
noncomputable def Z67 (x0:Rows) (x1 x2:Int) (x3:Rows):Option (List Dat):=loopK tE Z7Z 0 ⟨[(3,(.own (500000,0))),(7,(.ro 277 Bool.false x0)),(8,(.i .i64 x1)),(9,(.i .i64 x2))],[((500000,0),(.row 224 x3 Bool.true 0 []))]⟩
theorem Z8T (x0:Rows) (x1 x2:Int) (x3:Rows):Z67 x0 x1 x2 x3=(bif(ltI x2 x1)then(bif(inR x2 (lenI x0))then(bif(fitM ((len x3)+(len (gl (at' x0 (tn x2))))) 24)then(Z67 x0 x1 (w64 (x2+1)) (List.append x3 (gl (at' x0 (tn x2)))))else none)else none)else(some [(.sl x3)])):=(loopK_run (by kernel_rfl)).trans (by kernel_rfl)
theorem ZBQ (a0:Rows):callI tE Z7Z [.sl a0]=(Z67 a0 (lenI a0) 0 []):=(callI_run rfl (by kernel_rfl)).trans (by kernel_rfl)
noncomputable def Z6T (x0:Rows) (x1 x2:Int) (x3:Rows):Option (List Dat):=loopK tE Z7I 0 ⟨[(3,(.own (500000,0))),(7,(.ro 51 Bool.false x0)),(8,(.i .i64 x1)),(9,(.i .i64 x2))],[((500000,0),(.row 224 x3 Bool.true 0 []))]⟩
theorem Z9G (x0:Rows) (x1 x2:Int) (x3:Rows):Z6T x0 x1 x2 x3=(bif(ltI x2 x1)then(bif(inR x2 (lenI x0))then(bif(fitM ((len x3)+(len (gl (at' x0 (tn x2))))) 24)then(Z6T x0 x1 (w64 (x2+1)) (List.append x3 (gl (at' x0 (tn x2)))))else none)else none)else(some [(.sl x3)])):=(loopK_run (by kernel_rfl)).trans (by kernel_rfl)
theorem ZD7 (a0:Rows):callI tE Z7I [.sl a0]=(Z6T a0 (lenI a0) 0 []):=(callI_run rfl (by kernel_rfl)).trans (by kernel_rfl)
noncomputable def Z5Z (x0 x1 x2:Rows):Option (List Dat):=loopK tE Z70 0 ⟨[(0,(.ro 224 Bool.false x0)),(1,(.ro 224 Bool.false x1)),(5,(.own (500000,0)))],[((500000,0),(.row 224 x2 Bool.true 0 []))]⟩
theorem Z6l (x0 x1 x2:Rows):Z5Z x0 x1 x2=(bif(ltI 0 (lenI x0))then(bif(eqI (lenI x1) 0)then(bif(inR 0 (lenI x0))then(bif(fitM (Nat.succ (len x2)) 24)then(bif((leI 0 1)&&(leI 1 (lenI x0)))then(Z5Z (List.take (tn ((lenI x0)-1)) (List.drop (tn 1) x0)) x1 (List.append x2 [[(.int (gn (at' x0 (tn 0)))),(.int (gn (tk 1 (at' x0 (tn 0))))),(.int (gn (tk 2 (at' x0 (tn 0)))))]]))else none)else none)else none)else(bif(ltI 0 (lenI x0))then(bif(inR 0 (lenI x0))then(bif(inR 0 (lenI x1))then(((callI tE Z5h [(.int (gn (at' x0 (tn 0)))),(.int (gn (tk 1 (at' x0 (tn 0))))),(.int (gn (tk 2 (at' x0 (tn 0))))),(.int (gn (at' x1 (tn 0)))),(.int (gn (tk 1 (at' x1 (tn 0))))),(.int (gn (tk 2 (at' x1 (tn 0)))))])).bind (fun r0=>(bif(leI (gn r0) 0)then(bif(inR 0 (lenI x0))then(bif(fitM (Nat.succ (len x2)) 24)then(bif((leI 0 1)&&(leI 1 (lenI x0)))then(Z5Z (List.take (tn ((lenI x0)-1)) (List.drop (tn 1) x0)) x1 (List.append x2 [[(.int (gn (at' x0 (tn 0)))),(.int (gn (tk 1 (at' x0 (tn 0))))),(.int (gn (tk 2 (at' x0 (tn 0)))))]]))else none)else none)else none)else(bif(inR 0 (lenI x1))then(bif(fitM (Nat.succ (len x2)) 24)then(bif((leI 0 1)&&(leI 1 (lenI x1)))then(Z5Z x0 (List.take (tn ((lenI x1)-1)) (List.drop (tn 1) x1)) (List.append x2 [[(.int (gn (at' x1 (tn 0)))),(.int (gn (tk 1 (at' x1 (tn 0))))),(.int (gn (tk 2 (at' x1 (tn 0)))))]]))else none)else none)else none))))else none)else none)else(bif(inR 0 (lenI x1))then(bif(fitM (Nat.succ (len x2)) 24)then(bif((leI 0 1)&&(leI 1 (lenI x1)))then(Z5Z x0 (List.take (tn ((lenI x1)-1)) (List.drop (tn 1) x1)) (List.append x2 [[(.int (gn (at' x1 (tn 0)))),(.int (gn (tk 1 (at' x1 (tn 0))))),(.int (gn (tk 2 (at' x1 (tn 0)))))]]))else none)else none)else none)))else(bif(ltI 0 (lenI x1))then(bif(eqI (lenI x1) 0)then(bif(inR 0 (lenI x0))then(bif(fitM (Nat.succ (len x2)) 24)then(bif((leI 0 1)&&(leI 1 (lenI x0)))then(Z5Z (List.take (tn ((lenI x0)-1)) (List.drop (tn 1) x0)) x1 (List.append x2 [[(.int (gn (at' x0 (tn 0)))),(.int (gn (tk 1 (at' x0 (tn 0))))),(.int (gn (tk 2 (at' x0 (tn 0)))))]]))else none)else none)else none)else(bif(ltI 0 (lenI x0))then(bif(inR 0 (lenI x0))then(bif(inR 0 (lenI x1))then(((callI tE Z5h [(.int (gn (at' x0 (tn 0)))),(.int (gn (tk 1 (at' x0 (tn 0))))),(.int (gn (tk 2 (at' x0 (tn 0))))),(.int (gn (at' x1 (tn 0)))),(.int (gn (tk 1 (at' x1 (tn 0))))),(.int (gn (tk 2 (at' x1 (tn 0)))))])).bind (fun r0=>(bif(leI (gn r0) 0)then(bif(inR 0 (lenI x0))then(bif(fitM (Nat.succ (len x2)) 24)then(bif((leI 0 1)&&(leI 1 (lenI x0)))then(Z5Z (List.take (tn ((lenI x0)-1)) (List.drop (tn 1) x0)) x1 (List.append x2 [[(.int (gn (at' x0 (tn 0)))),(.int (gn (tk 1 (at' x0 (tn 0))))),(.int (gn (tk 2 (at' x0 (tn 0)))))]]))else none)else none)else none)else(bif(inR 0 (lenI x1))then(bif(fitM (Nat.succ (len x2)) 24)then(bif((leI 0 1)&&(leI 1 (lenI x1)))then(Z5Z x0 (List.take (tn ((lenI x1)-1)) (List.drop (tn 1) x1)) (List.append x2 [[(.int (gn (at' x1 (tn 0)))),(.int (gn (tk 1 (at' x1 (tn 0))))),(.int (gn (tk 2 (at' x1 (tn 0)))))]]))else none)else none)else none))))else none)else none)else(bif(inR 0 (lenI x1))then(bif(fitM (Nat.succ (len x2)) 24)then(bif((leI 0 1)&&(leI 1 (lenI x1)))then(Z5Z x0 (List.take (tn ((lenI x1)-1)) (List.drop (tn 1) x1)) (List.append x2 [[(.int (gn (at' x1 (tn 0)))),(.int (gn (tk 1 (at' x1 (tn 0))))),(.int (gn (tk 2 (at' x1 (tn 0)))))]]))else none)else none)else none)))else(some [(.sl x2)]))):=(loopK_run (by kernel_rfl)).trans (by kernel_rfl)
theorem ZBR (a0 a1:Rows):callI tE Z70 [.sl a0,.sl a1]=(Z5Z a0 a1 []):=(callI_run rfl (by kernel_rfl)).trans (by kernel_rfl)
noncomputable def Z6O (x0:Int) (x1:Rows) (x2 x3:Int) (x4:Rows) (x5:Int) (x6 x7 x8 x9:Rows) (x10 x11 x12 x13:Int):Option (List Dat):=loopK tE Z64 0 ⟨[(3,(.ptr (500000,0) x0 0)),(41,(.ro 224 Bool.false x1)),(42,(.i .i64 x2)),(43,(.i .i64 x3))],[((500000,0),(.box 54 [(.ro 224 Bool.false x4),(.i .i64 x5),(.ro 224 Bool.false x6),(.ro 224 Bool.false x7),(.ro 224 Bool.false x8),(.ro 277 Bool.false x9),(.i .i64 x10),(.i .i64 x11),(.i .i64 x12),(.i .i64 x13)]))]⟩
theorem Z86 (x0:Int) (x1:Rows) (x2 x3:Int) (x4:Rows) (x5:Int) (x6 x7 x8 x9:Rows) (x10 x11 x12 x13:Int):Z6O x0 x1 x2 x3 x4 x5 x6 x7 x8 x9 x10 x11 x12 x13=(bif(ltI x3 x2)then(bif(inR x3 (lenI x1))then(((callI tE ZAX [(.int (gn (at' x1 (tn x3)))),(.int (gn (tk 1 (at' x1 (tn x3))))),(.int (gn (tk 2 (at' x1 (tn x3))))),(.sl x8)])).bind (fun r0=>(bif(gb r0)then(some [(.bool Bool.false)])else(Z6O x0 x1 x2 (w64 (x3+1)) x4 x5 x6 x7 x8 x9 x10 x11 x12 x13))))else none)else(((callI tE Z7Z [(.sl x9)])).bind (fun r0=>(bif(eqI x12 1)then(bif(eqI x10 0)then(bif(eqI x11 0)then(bif(ltI 0 (lenI x8))then(((callI tE Z7N [(.sl x4),(.int x5),(.sl x6),(.sl x7),(.sl x8),(.sl x9),(.int x10),(.int x11),(.int x12),(.int x13)])).bind (fun r1=>(bif(leI (gn r1) 60)then(((callI tE Z7I [(.sl [[(.sl (gl r0))],[(.sl x8)],[(.sl x6)],[(.sl x7)]])])).bind (fun r2=>(bif((leI 0 x5)&&(leI x5 (lenI x4)))then(((callI tE Z7S [(.sl (gl r2)),(.sl (List.take (tn (x5-0)) (List.drop (tn 0) x4)))])).bind (fun r3=>(some [(.bool (gb r3))])))else none)))else(some [(.bool Bool.false)]))))else(bif(eqI (lenI x7) 0)then(((callI tE Z7N [(.sl x4),(.int x5),(.sl x6),(.sl x7),(.sl x8),(.sl x9),(.int x10),(.int x11),(.int x12),(.int x13)])).bind (fun r1=>(bif(leI (gn r1) 60)then(((callI tE Z7I [(.sl [[(.sl (gl r0))],[(.sl x8)],[(.sl x6)],[(.sl x7)]])])).bind (fun r2=>(bif((leI 0 x5)&&(leI x5 (lenI x4)))then(((callI tE Z7S [(.sl (gl r2)),(.sl (List.take (tn (x5-0)) (List.drop (tn 0) x4)))])).bind (fun r3=>(some [(.bool (gb r3))])))else none)))else(some [(.bool Bool.false)]))))else(some [(.bool Bool.false)])))else(some [(.bool Bool.false)]))else(some [(.bool Bool.false)]))else(bif(!(eqI x5 (lenI x4)))then(some [(.bool Bool.false)])else(bif(ltI 0 (lenI x6))then(some [(.bool Bool.false)])else(bif(ltI 0 (lenI x7))then(some [(.bool Bool.false)])else(((callI tE Z7S [(.sl (gl r0)),(.sl x4)])).bind (fun r1=>(bif(!(gb r1))then(some [(.bool Bool.false)])else(bif(eqI x12 2)then(bif(ltI (lenI x9) 2)then(some [(.bool Bool.false)])else(bif(inR 0 (lenI x9))then(bif(inR 1 (lenI x9))then(((callI tE Z6f [(.int x10),(.int 0),(.int (lenI (gl (at' x9 (tn 0)))))])).bind (fun r2=>(bif(!(gb r2))then(some [(.bool Bool.false)])else(((callI tE Z6f [(.int x11),(.int 0),(.int (lenI (gl (at' x9 (tn 1)))))])).bind (fun r3=>(bif(!(gb r3))then(some [(.bool Bool.false)])else(bif((leI 0 x10)&&(leI x10 (lenI (gl (at' x9 (tn 0))))))then(bif((leI 0 x11)&&(leI x11 (lenI (gl (at' x9 (tn 1))))))then(((callI tE Z70 [(.sl (List.take (tn (x10-0)) (List.drop (tn 0) (gl (at' x9 (tn 0)))))),(.sl (List.take (tn (x11-0)) (List.drop (tn 0) (gl (at' x9 (tn 1))))))])).bind (fun r4=>(((callI tE Z7h [(.sl x8),(.sl (gl r4))])).bind (fun r5=>(bif(gb r5)then(((callI tE Z70 [(.sl (gl (at' x9 (tn 0)))),(.sl (gl (at' x9 (tn 1))))])).bind (fun r6=>(bif((leI 0 (w64 (x10+x11)))&&(leI (w64 (x10+x11)) (lenI (gl r6))))then(((callI tE Z7h [(.sl x8),(.sl (List.take (tn ((w64 (x10+x11))-0)) (List.drop (tn 0) (gl r6))))])).bind (fun r7=>(some [(.bool (gb r7))])))else none)))else(some [(.bool Bool.false)]))))))else none)else none)))))))else none)else none))else(bif(eqI x12 3)then(bif(eqI (lenI x9) 1)then(((callI tE Z6f [(.int x10),(.int 0),(.int (w64 ((lenI x4)-1)))])).bind (fun r2=>(bif(gb r2)then(bif(eqI x11 0)then(some [(.bool (eqI (lenI x8) 0))])else(some [(.bool Bool.false)]))else(some [(.bool Bool.false)]))))else(some [(.bool Bool.false)]))else(bif(eqI x12 4)then(bif(leI (lenI x9) 1)then(bif(eqI x10 (lenI x4))then(bif(eqI x11 0)then(some [(.bool (eqI (lenI x8) 0))])else(some [(.bool Bool.false)]))else(some [(.bool Bool.false)]))else(some [(.bool Bool.false)]))else(some [(.bool Bool.false)])))))))))))))):=(loopK_run (by kernel_rfl)).trans (by kernel_rfl)
theorem ZAu (a0:Rows) (a1:Int) (a2 a3 a4 a5:Rows) (a6 a7 a8 a9:Int):callI tE Z64 [.sl a0,.int a1,.sl a2,.sl a3,.sl a4,.sl a5,.int a6,.int a7,.int a8,.int a9]=(((callI tE Z6A [(.sl a0)])).bind (fun r0=>(bif(!(gb r0))then(some [(.bool Bool.false)])else(((callI tE Z6f [(.int a1),(.int 0),(.int (lenI a0))])).bind (fun r1=>(bif(!(gb r1))then(some [(.bool Bool.false)])else(((callI tE Z7O [(.sl a5)])).bind (fun r2=>(bif(!(gb r2))then(some [(.bool Bool.false)])else(bif(ltI a9 0)then(some [(.bool Bool.false)])else(((callI tE Z7i [(.sl a4)])).bind (fun r3=>(bif(!(gb r3))then(some [(.bool Bool.false)])else(Z6O 0 a2 (lenI a2) 0 a0 a1 a2 a3 a4 a5 a6 a7 a8 a9)))))))))))))):=(callI_run rfl (by kernel_rfl)).trans (by kernel_rfl)
noncomputable def Z6U (x0:Rows) (x1 x2:Int):Option (List Dat):=loopK tE Z7m 0 ⟨[(0,(.ro 224 Bool.false x0)),(3,(.i .i64 x1)),(4,(.i .i64 x2))],[]⟩
theorem Z7Y (x0:Rows) (x1 x2:Int):Z6U x0 x1 x2=(bif(ltI x2 (lenI x0))then(bif(ltI x1 0)then(Z6U x0 x2 (w64 (x2+1)))else(bif(inR x2 (lenI x0))then(bif(inR x1 (lenI x0))then(((callI tE Z5e [(.int (gn (at' x0 (tn x2)))),(.int (gn (tk 1 (at' x0 (tn x2))))),(.int (gn (tk 2 (at' x0 (tn x2))))),(.int (gn (at' x0 (tn x1)))),(.int (gn (tk 1 (at' x0 (tn x1))))),(.int (gn (tk 2 (at' x0 (tn x1)))))])).bind (fun r0=>(bif(ltI (gn r0) 0)then(Z6U x0 x2 (w64 (x2+1)))else(Z6U x0 x1 (w64 (x2+1))))))else none)else none))else(some [(.int x1)])):=(loopK_run (by kernel_rfl)).trans (by kernel_rfl)
theorem ZBn (a0:Rows):callI tE Z7m [.sl a0]=(Z6U a0 (-1) 0):=(callI_run rfl (by kernel_rfl)).trans (by kernel_rfl)
theorem ZDQ (a0:Rows) (a1:Int):callI tE Z9v [.sl a0,.int a1]=(bif((leI 0 a1)&&(leI a1 (lenI a0)))then(bif(fitM (0+(len (List.take (tn (a1-0)) (List.drop (tn 0) a0)))) 24)then(bif((leI 0 (w64 (a1+1)))&&(leI (w64 (a1+1)) (lenI a0)))then(bif(fitM ((len (List.take (tn (a1-0)) (List.drop (tn 0) a0)))+(len (List.take (tn ((lenI a0)-(w64 (a1+1)))) (List.drop (tn (w64 (a1+1))) a0)))) 24)then(some [(.sl (List.append (List.take (tn (a1-0)) (List.drop (tn 0) a0)) (List.take (tn ((lenI a0)-(w64 (a1+1)))) (List.drop (tn (w64 (a1+1))) a0))))])else none)else none)else none)else none):=(callI_run rfl (by kernel_rfl)).trans (by kernel_rfl)
theorem ZBS (a0:Rows) (a1:Int) (a2 a3 a4 a5:Rows) (a6 a7 a8 a9:Int):callI tE Z9J [.sl a0,.int a1,.sl a2,.sl a3,.sl a4,.sl a5,.int a6,.int a7,.int a8,.int a9]=(bif(eqI (lenI a2) 0)then(bif(fitM (Nat.succ (len a5)) 24)then(some [(.sl a0),(.int a1),(.sl a3),(.sl []),(.sl []),(.sl (List.append a5 [[(.sl a4)]])),(.int a6),(.int a7),(.int a8),(.int a9)])else none)else(((callI tE Z7m [(.sl a2)])).bind (fun r0=>(bif(inR (gn r0) (lenI a2))then(((callI tE Z5l [(.int (gn (at' a2 (tn (gn r0))))),(.int (gn (tk 1 (at' a2 (tn (gn r0)))))),(.int (gn (tk 2 (at' a2 (tn (gn r0))))))])).bind (fun r1=>(bif(inR (gn r0) (lenI a2))then(bif(fitM (Nat.succ (len a4)) 24)then(((callI tE Z9v [(.sl a2),(.int (gn r0))])).bind (fun r2=>(some [(.sl a0),(.int a1),(.sl (gl r2)),(.sl a3),(.sl (List.append a4 [[(.int (gn (at' a2 (tn (gn r0))))),(.int (gn (tk 1 (at' a2 (tn (gn r0)))))),(.int (gn (tk 2 (at' a2 (tn (gn r0))))))]])),(.sl a5),(.int a6),(.int a7),(.int a8),(.int (w64 (a9+(gn r1))))])))else none)else none)))else none)))):=(callI_run rfl (by kernel_rfl)).trans (by kernel_rfl)
theorem ZDR (a0:Rows) (a1:Int) (a2 a3 a4 a5:Rows) (a6 a7 a8 a9:Int):callI tE Z6F [.sl a0,.int a1,.sl a2,.sl a3,.sl a4,.sl a5,.int a6,.int a7,.int a8,.int a9]=(bif(eqI (lenI a5) 1)then(bif(eqI (lenI a5) 0)then(some [(.sl a0),(.int a1),(.sl a2),(.sl a3),(.sl a4),(.sl a5),(.int 0),(.int 0),(.int 4),(.int a9)])else(some [(.sl a0),(.int a1),(.sl a2),(.sl a3),(.sl a4),(.sl a5),(.int 0),(.int 0),(.int 3),(.int a9)]))else(bif(eqI (lenI a5) 0)then(some [(.sl a0),(.int a1),(.sl a2),(.sl a3),(.sl a4),(.sl a5),(.int 0),(.int 0),(.int 4),(.int a9)])else(some [(.sl a0),(.int a1),(.sl a2),(.sl a3),(.sl a4),(.sl a5),(.int 0),(.int 0),(.int 2),(.int a9)]))):=(callI_run rfl (by kernel_rfl)).trans (by kernel_rfl)
theorem ZBo (a0:Rows) (a1:Int) (a2 a3 a4 a5:Rows) (a6 a7 a8 a9 a10:Int):callI tE Z8b [.sl a0,.int a1,.sl a2,.sl a3,.sl a4,.sl a5,.int a6,.int a7,.int a8,.int a9,.int a10]=(((callI tE Z9u [(.sl a0),(.int a1),(.sl a2),(.sl a3),(.sl a4),(.sl a5),(.int a6),(.int a7),(.int a8),(.int a9)])).bind (fun r0=>(((callI tE Z63 [(.sl a0),(.int a1),(.sl a2),(.sl a3),(.sl a4),(.sl a5),(.int a6),(.int a7),(.int a8),(.int a9)])).bind (fun r1=>(bif(!(gb r1))then(some [(.sl (gl r0)),(.int (gn (tk 1 r0))),(.sl (gl (tk 2 r0))),(.sl (gl (tk 3 r0))),(.sl (gl (tk 4 r0))),(.sl (gl (tk 5 r0))),(.int (gn (tk 6 r0))),(.int (gn (tk 7 r0))),(.int (gn (tk 8 r0))),(.int (gn (tk 9 r0))),(.sl []),(.bool Bool.false)])else(((callI tE Z7F [(.int a10),(.int 8),(.int 60)])).bind (fun r2=>(bif(!(gb r2))then(some [(.sl (gl r0)),(.int (gn (tk 1 r0))),(.sl (gl (tk 2 r0))),(.sl (gl (tk 3 r0))),(.sl (gl (tk 4 r0))),(.sl (gl (tk 5 r0))),(.int (gn (tk 6 r0))),(.int (gn (tk 7 r0))),(.int (gn (tk 8 r0))),(.int (gn (tk 9 r0))),(.sl []),(.bool Bool.false)])else(bif(eqI a8 4)then(some [(.sl (gl r0)),(.int (gn (tk 1 r0))),(.sl (gl (tk 2 r0))),(.sl (gl (tk 3 r0))),(.sl (gl (tk 4 r0))),(.sl (gl (tk 5 r0))),(.int (gn (tk 6 r0))),(.int (gn (tk 7 r0))),(.int (gn (tk 8 r0))),(.int (gn (tk 9 r0))),(.sl []),(.bool Bool.false)])else(bif(eqI a8 1)then(bif(ltI a1 (lenI a0))then(((callI tE Z6p [(.sl a0),(.int a1),(.sl a2),(.sl a3),(.sl a4),(.sl a5),(.int a6),(.int a7),(.int a8),(.int a9)])).bind (fun r3=>(bif(inR a1 (lenI a0))then(((callI tE Z5l [(.int (gn (at' a0 (tn a1)))),(.int (gn (tk 1 (at' a0 (tn a1))))),(.int (gn (tk 2 (at' a0 (tn a1)))))])).bind (fun r4=>(bif(leI (w64 ((gn r3)+(gn r4))) a10)then(bif(inR a1 (lenI a0))then(bif(ltI 0 (lenI a4))then(bif(inR (w64 ((lenI a4)-1)) (lenI a4))then(((callI tE Z5e [(.int (gn (at' a0 (tn a1)))),(.int (gn (tk 1 (at' a0 (tn a1))))),(.int (gn (tk 2 (at' a0 (tn a1))))),(.int (gn (at' a4 (tn (w64 ((lenI a4)-1)))))),(.int (gn (tk 1 (at' a4 (tn (w64 ((lenI a4)-1))))))),(.int (gn (tk 2 (at' a4 (tn (w64 ((lenI a4)-1)))))))])).bind (fun r5=>(bif(ltI (gn r5) 0)then(bif(fitM (Nat.succ (len (gl (tk 3 r0)))) 24)then(some [(.sl (gl r0)),(.int (w64 (a1+1))),(.sl (gl (tk 2 r0))),(.sl (List.append (gl (tk 3 r0)) [[(.int (gn (at' a0 (tn a1)))),(.int (gn (tk 1 (at' a0 (tn a1))))),(.int (gn (tk 2 (at' a0 (tn a1)))))]])),(.sl (gl (tk 4 r0))),(.sl (gl (tk 5 r0))),(.int (gn (tk 6 r0))),(.int (gn (tk 7 r0))),(.int (gn (tk 8 r0))),(.int (gn (tk 9 r0))),(.sl []),(.bool Bool.true)])else none)else(bif(fitM (Nat.succ (len (gl (tk 2 r0)))) 24)then(some [(.sl (gl r0)),(.int (w64 (a1+1))),(.sl (List.append (gl (tk 2 r0)) [[(.int (gn (at' a0 (tn a1)))),(.int (gn (tk 1 (at' a0 (tn a1))))),(.int (gn (tk 2 (at' a0 (tn a1)))))]])),(.sl (gl (tk 3 r0))),(.sl (gl (tk 4 r0))),(.sl (gl (tk 5 r0))),(.int (gn (tk 6 r0))),(.int (gn (tk 7 r0))),(.int (gn (tk 8 r0))),(.int (gn (tk 9 r0))),(.sl []),(.bool Bool.true)])else none))))else none)else(bif(fitM (Nat.succ (len (gl (tk 2 r0)))) 24)then(some [(.sl (gl r0)),(.int (w64 (a1+1))),(.sl (List.append (gl (tk 2 r0)) [[(.int (gn (at' a0 (tn a1)))),(.int (gn (tk 1 (at' a0 (tn a1))))),(.int (gn (tk 2 (at' a0 (tn a1)))))]])),(.sl (gl (tk 3 r0))),(.sl (gl (tk 4 r0))),(.sl (gl (tk 5 r0))),(.int (gn (tk 6 r0))),(.int (gn (tk 7 r0))),(.int (gn (tk 8 r0))),(.int (gn (tk 9 r0))),(.sl []),(.bool Bool.true)])else none))else none)else(bif(ltI 0 (w64 ((lenI a2)+(lenI a3))))then(((callI tE Z9J [(.sl (gl r0)),(.int (gn (tk 1 r0))),(.sl (gl (tk 2 r0))),(.sl (gl (tk 3 r0))),(.sl (gl (tk 4 r0))),(.sl (gl (tk 5 r0))),(.int (gn (tk 6 r0))),(.int (gn (tk 7 r0))),(.int (gn (tk 8 r0))),(.int (gn (tk 9 r0)))])).bind (fun r5=>(some [(.sl (gl r5)),(.int (gn (tk 1 r5))),(.sl (gl (tk 2 r5))),(.sl (gl (tk 3 r5))),(.sl (gl (tk 4 r5))),(.sl (gl (tk 5 r5))),(.int (gn (tk 6 r5))),(.int (gn (tk 7 r5))),(.int (gn (tk 8 r5))),(.int (gn (tk 9 r5))),(.sl []),(.bool Bool.true)])))else(bif(ltI 0 (lenI a4))then(bif(fitM (Nat.succ (len (gl (tk 5 r0)))) 24)then(((callI tE Z6F [(.sl (gl r0)),(.int (gn (tk 1 r0))),(.sl (gl (tk 2 r0))),(.sl (gl (tk 3 r0))),(.sl []),(.sl (List.append (gl (tk 5 r0)) [[(.sl (gl (tk 4 r0)))]])),(.int (gn (tk 6 r0))),(.int (gn (tk 7 r0))),(.int (gn (tk 8 r0))),(.int (gn (tk 9 r0)))])).bind (fun r5=>(some [(.sl (gl r5)),(.int (gn (tk 1 r5))),(.sl (gl (tk 2 r5))),(.sl (gl (tk 3 r5))),(.sl (gl (tk 4 r5))),(.sl (gl (tk 5 r5))),(.int (gn (tk 6 r5))),(.int (gn (tk 7 r5))),(.int (gn (tk 8 r5))),(.int (gn (tk 9 r5))),(.sl []),(.bool Bool.true)])))else none)else(((callI tE Z6F [(.sl (gl r0)),(.int (gn (tk 1 r0))),(.sl (gl (tk 2 r0))),(.sl (gl (tk 3 r0))),(.sl (gl (tk 4 r0))),(.sl (gl (tk 5 r0))),(.int (gn (tk 6 r0))),(.int (gn (tk 7 r0))),(.int (gn (tk 8 r0))),(.int (gn (tk 9 r0)))])).bind (fun r5=>(some [(.sl (gl r5)),(.int (gn (tk 1 r5))),(.sl (gl (tk 2 r5))),(.sl (gl (tk 3 r5))),(.sl (gl (tk 4 r5))),(.sl (gl (tk 5 r5))),(.int (gn (tk 6 r5))),(.int (gn (tk 7 r5))),(.int (gn (tk 8 r5))),(.int (gn (tk 9 r5))),(.sl []),(.bool Bool.true)]))))))))else none)))else(bif(ltI 0 (w64 ((lenI a2)+(lenI a3))))then(((callI tE Z9J [(.sl (gl r0)),(.int (gn (tk 1 r0))),(.sl (gl (tk 2 r0))),(.sl (gl (tk 3 r0))),(.sl (gl (tk 4 r0))),(.sl (gl (tk 5 r0))),(.int (gn (tk 6 r0))),(.int (gn (tk 7 r0))),(.int (gn (tk 8 r0))),(.int (gn (tk 9 r0)))])).bind (fun r3=>(some [(.sl (gl r3)),(.int (gn (tk 1 r3))),(.sl (gl (tk 2 r3))),(.sl (gl (tk 3 r3))),(.sl (gl (tk 4 r3))),(.sl (gl (tk 5 r3))),(.int (gn (tk 6 r3))),(.int (gn (tk 7 r3))),(.int (gn (tk 8 r3))),(.int (gn (tk 9 r3))),(.sl []),(.bool Bool.true)])))else(bif(ltI 0 (lenI a4))then(bif(fitM (Nat.succ (len (gl (tk 5 r0)))) 24)then(((callI tE Z6F [(.sl (gl r0)),(.int (gn (tk 1 r0))),(.sl (gl (tk 2 r0))),(.sl (gl (tk 3 r0))),(.sl []),(.sl (List.append (gl (tk 5 r0)) [[(.sl (gl (tk 4 r0)))]])),(.int (gn (tk 6 r0))),(.int (gn (tk 7 r0))),(.int (gn (tk 8 r0))),(.int (gn (tk 9 r0)))])).bind (fun r3=>(some [(.sl (gl r3)),(.int (gn (tk 1 r3))),(.sl (gl (tk 2 r3))),(.sl (gl (tk 3 r3))),(.sl (gl (tk 4 r3))),(.sl (gl (tk 5 r3))),(.int (gn (tk 6 r3))),(.int (gn (tk 7 r3))),(.int (gn (tk 8 r3))),(.int (gn (tk 9 r3))),(.sl []),(.bool Bool.true)])))else none)else(((callI tE Z6F [(.sl (gl r0)),(.int (gn (tk 1 r0))),(.sl (gl (tk 2 r0))),(.sl (gl (tk 3 r0))),(.sl (gl (tk 4 r0))),(.sl (gl (tk 5 r0))),(.int (gn (tk 6 r0))),(.int (gn (tk 7 r0))),(.int (gn (tk 8 r0))),(.int (gn (tk 9 r0)))])).bind (fun r3=>(some [(.sl (gl r3)),(.int (gn (tk 1 r3))),(.sl (gl (tk 2 r3))),(.sl (gl (tk 3 r3))),(.sl (gl (tk 4 r3))),(.sl (gl (tk 5 r3))),(.int (gn (tk 6 r3))),(.int (gn (tk 7 r3))),(.int (gn (tk 8 r3))),(.int (gn (tk 9 r3))),(.sl []),(.bool Bool.true)]))))))else(bif(eqI a8 2)then(((callI tE Z6G [(.sl a5),(.int 0),(.int a6)])).bind (fun r3=>(((callI tE Z6G [(.sl a5),(.int 1),(.int a7)])).bind (fun r4=>(bif(eqI (w64 ((lenI (gl r3))+(lenI (gl r4)))) 0)then(bif((leI 0 2)&&(leI 2 (lenI (gl (tk 5 r0)))))then(bif(fitM (Nat.succ (len (List.take (tn ((lenI (gl (tk 5 r0)))-2)) (List.drop (tn 2) (gl (tk 5 r0)))))) 24)then(((callI tE Z6F [(.sl (gl r0)),(.int (gn (tk 1 r0))),(.sl (gl (tk 2 r0))),(.sl (gl (tk 3 r0))),(.sl []),(.sl (List.append (List.take (tn ((lenI (gl (tk 5 r0)))-2)) (List.drop (tn 2) (gl (tk 5 r0)))) [[(.sl (gl (tk 4 r0)))]])),(.int (gn (tk 6 r0))),(.int (gn (tk 7 r0))),(.int (gn (tk 8 r0))),(.int (gn (tk 9 r0)))])).bind (fun r5=>(some [(.sl (gl r5)),(.int (gn (tk 1 r5))),(.sl (gl (tk 2 r5))),(.sl (gl (tk 3 r5))),(.sl (gl (tk 4 r5))),(.sl (gl (tk 5 r5))),(.int (gn (tk 6 r5))),(.int (gn (tk 7 r5))),(.int (gn (tk 8 r5))),(.int (gn (tk 9 r5))),(.sl []),(.bool Bool.true)])))else none)else none)else(bif(eqI (lenI (gl r4)) 0)then(bif(inR 0 (lenI (gl r3)))then(bif(fitM (Nat.succ (len (gl (tk 4 r0)))) 24)then(bif(inR 0 (lenI (gl r3)))then(((callI tE Z5l [(.int (gn (at' (gl r3) (tn 0)))),(.int (gn (tk 1 (at' (gl r3) (tn 0))))),(.int (gn (tk 2 (at' (gl r3) (tn 0)))))])).bind (fun r5=>(some [(.sl (gl r0)),(.int (gn (tk 1 r0))),(.sl (gl (tk 2 r0))),(.sl (gl (tk 3 r0))),(.sl (List.append (gl (tk 4 r0)) [[(.int (gn (at' (gl r3) (tn 0)))),(.int (gn (tk 1 (at' (gl r3) (tn 0))))),(.int (gn (tk 2 (at' (gl r3) (tn 0)))))]])),(.sl (gl (tk 5 r0))),(.int (w64 (a6+1))),(.int (gn (tk 7 r0))),(.int (gn (tk 8 r0))),(.int (w64 ((gn (tk 9 r0))+(gn r5)))),(.sl []),(.bool Bool.true)])))else none)else none)else none)else(bif(ltI 0 (lenI (gl r3)))then(bif(inR 0 (lenI (gl r3)))then(bif(inR 0 (lenI (gl r4)))then(((callI tE Z5e [(.int (gn (at' (gl r3) (tn 0)))),(.int (gn (tk 1 (at' (gl r3) (tn 0))))),(.int (gn (tk 2 (at' (gl r3) (tn 0))))),(.int (gn (at' (gl r4) (tn 0)))),(.int (gn (tk 1 (at' (gl r4) (tn 0))))),(.int (gn (tk 2 (at' (gl r4) (tn 0)))))])).bind (fun r5=>(bif(leI (gn r5) 0)then(bif(inR 0 (lenI (gl r3)))then(bif(fitM (Nat.succ (len (gl (tk 4 r0)))) 24)then(bif(inR 0 (lenI (gl r3)))then(((callI tE Z5l [(.int (gn (at' (gl r3) (tn 0)))),(.int (gn (tk 1 (at' (gl r3) (tn 0))))),(.int (gn (tk 2 (at' (gl r3) (tn 0)))))])).bind (fun r6=>(some [(.sl (gl r0)),(.int (gn (tk 1 r0))),(.sl (gl (tk 2 r0))),(.sl (gl (tk 3 r0))),(.sl (List.append (gl (tk 4 r0)) [[(.int (gn (at' (gl r3) (tn 0)))),(.int (gn (tk 1 (at' (gl r3) (tn 0))))),(.int (gn (tk 2 (at' (gl r3) (tn 0)))))]])),(.sl (gl (tk 5 r0))),(.int (w64 (a6+1))),(.int (gn (tk 7 r0))),(.int (gn (tk 8 r0))),(.int (w64 ((gn (tk 9 r0))+(gn r6)))),(.sl []),(.bool Bool.true)])))else none)else none)else none)else(bif(inR 0 (lenI (gl r4)))then(bif(fitM (Nat.succ (len (gl (tk 4 r0)))) 24)then(bif(inR 0 (lenI (gl r4)))then(((callI tE Z5l [(.int (gn (at' (gl r4) (tn 0)))),(.int (gn (tk 1 (at' (gl r4) (tn 0))))),(.int (gn (tk 2 (at' (gl r4) (tn 0)))))])).bind (fun r6=>(some [(.sl (gl r0)),(.int (gn (tk 1 r0))),(.sl (gl (tk 2 r0))),(.sl (gl (tk 3 r0))),(.sl (List.append (gl (tk 4 r0)) [[(.int (gn (at' (gl r4) (tn 0)))),(.int (gn (tk 1 (at' (gl r4) (tn 0))))),(.int (gn (tk 2 (at' (gl r4) (tn 0)))))]])),(.sl (gl (tk 5 r0))),(.int (gn (tk 6 r0))),(.int (w64 (a7+1))),(.int (gn (tk 8 r0))),(.int (w64 ((gn (tk 9 r0))+(gn r6)))),(.sl []),(.bool Bool.true)])))else none)else none)else none))))else none)else none)else(bif(inR 0 (lenI (gl r4)))then(bif(fitM (Nat.succ (len (gl (tk 4 r0)))) 24)then(bif(inR 0 (lenI (gl r4)))then(((callI tE Z5l [(.int (gn (at' (gl r4) (tn 0)))),(.int (gn (tk 1 (at' (gl r4) (tn 0))))),(.int (gn (tk 2 (at' (gl r4) (tn 0)))))])).bind (fun r5=>(some [(.sl (gl r0)),(.int (gn (tk 1 r0))),(.sl (gl (tk 2 r0))),(.sl (gl (tk 3 r0))),(.sl (List.append (gl (tk 4 r0)) [[(.int (gn (at' (gl r4) (tn 0)))),(.int (gn (tk 1 (at' (gl r4) (tn 0))))),(.int (gn (tk 2 (at' (gl r4) (tn 0)))))]])),(.sl (gl (tk 5 r0))),(.int (gn (tk 6 r0))),(.int (w64 (a7+1))),(.int (gn (tk 8 r0))),(.int (w64 ((gn (tk 9 r0))+(gn r5)))),(.sl []),(.bool Bool.true)])))else none)else none)else none))))))))else(bif(eqI (w64 (a6+1)) (lenI a0))then(bif(inR 0 (lenI a5))then(bif(inR a6 (lenI (gl (at' a5 (tn 0)))))then(some [(.sl (gl r0)),(.int (gn (tk 1 r0))),(.sl (gl (tk 2 r0))),(.sl (gl (tk 3 r0))),(.sl (gl (tk 4 r0))),(.sl (gl (tk 5 r0))),(.int (w64 (a6+1))),(.int (gn (tk 7 r0))),(.int 4),(.int (gn (tk 9 r0))),(.sl [[(.int (gn (at' (gl (at' a5 (tn 0))) (tn a6)))),(.int (gn (tk 1 (at' (gl (at' a5 (tn 0))) (tn a6))))),(.int (gn (tk 2 (at' (gl (at' a5 (tn 0))) (tn a6)))))]]),(.bool Bool.true)])else none)else none)else(bif(inR 0 (lenI a5))then(bif(inR a6 (lenI (gl (at' a5 (tn 0)))))then(some [(.sl (gl r0)),(.int (gn (tk 1 r0))),(.sl (gl (tk 2 r0))),(.sl (gl (tk 3 r0))),(.sl (gl (tk 4 r0))),(.sl (gl (tk 5 r0))),(.int (w64 (a6+1))),(.int (gn (tk 7 r0))),(.int (gn (tk 8 r0))),(.int (gn (tk 9 r0))),(.sl [[(.int (gn (at' (gl (at' a5 (tn 0))) (tn a6)))),(.int (gn (tk 1 (at' (gl (at' a5 (tn 0))) (tn a6))))),(.int (gn (tk 2 (at' (gl (at' a5 (tn 0))) (tn a6)))))]]),(.bool Bool.true)])else none)else none))))))))))))):=(callI_run rfl (by kernel_rfl)).trans (by kernel_rfl)
theorem ZCG (a0:Rows):callI tE Z91 [.sl a0]=(((callI tE Z5i [(.sl a0)])).bind (fun r0=>(bif(!(gb r0))then(some [(.sl []),(.int 0),(.sl []),(.sl []),(.sl []),(.sl []),(.int 0),(.int 0),(.int 0),(.int 0),(.bool Bool.false)])else(bif(fitM (0+(len a0)) 24)then(some [(.sl a0),(.int 0),(.sl []),(.sl []),(.sl []),(.sl []),(.int 0),(.int 0),(.int 1),(.int 0),(.bool Bool.true)])else none)))):=(callI_run rfl (by kernel_rfl)).trans (by kernel_rfl)
noncomputable def Z5w (x0:Rows) (x1:ByteArray) (x2:Int):Option (List Dat):=loopK tE Z7n 0 ⟨[(0,(.ro 277 Bool.false x0)),(3,(.s x1)),(4,(.i .i64 x2))],[]⟩
theorem Z8Y (x0:Rows) (x1:ByteArray) (x2:Int):Z5w x0 x1 x2=(bif(ltI x2 (lenI x0))then(bif(ltI 0 x2)then(bif(fitS x1 (S [124]))then(bif(inR x2 (lenI x0))then(((callI tE Z5n [(.sl (gl (at' x0 (tn x2))))])).bind (fun r0=>(bif(fitS (x1++(S [124])) (gs r0))then(Z5w x0 ((x1++(S [124]))++(gs r0)) (w64 (x2+1)))else none)))else none)else none)else(bif(inR x2 (lenI x0))then(((callI tE Z5n [(.sl (gl (at' x0 (tn x2))))])).bind (fun r0=>(bif(fitS x1 (gs r0))then(Z5w x0 (x1++(gs r0)) (w64 (x2+1)))else none)))else none))else(some [(.str x1)])):=(loopK_run (by kernel_rfl)).trans (by kernel_rfl)
theorem ZBp (a0:Rows):callI tE Z7n [.sl a0]=(Z5w a0 (S []) 0):=(callI_run rfl (by kernel_rfl)).trans (by kernel_rfl)
theorem ZB9 (a0:Rows) (a1:Int) (a2 a3 a4 a5:Rows) (a6 a7 a8 a9:Int):callI tE Z6P [.sl a0,.int a1,.sl a2,.sl a3,.sl a4,.sl a5,.int a6,.int a7,.int a8,.int a9]=(((callI tE Z63 [(.sl a0),(.int a1),(.sl a2),(.sl a3),(.sl a4),(.sl a5),(.int a6),(.int a7),(.int a8),(.int a9)])).bind (fun r0=>(bif(!(gb r0))then(some [(.str (S []))])else(((callI tE Z5n [(.sl a0)])).bind (fun r1=>(bif(fitS (gs r1) (S [47]))then(((callI tE Z5N [(.int a1)])).bind (fun r2=>(bif(fitS ((gs r1)++(S [47])) (gs r2))then(bif(fitS (((gs r1)++(S [47]))++(gs r2)) (S [47]))then(((callI tE Z5n [(.sl a2)])).bind (fun r3=>(bif(fitS ((((gs r1)++(S [47]))++(gs r2))++(S [47])) (gs r3))then(bif(fitS (((((gs r1)++(S [47]))++(gs r2))++(S [47]))++(gs r3)) (S [47]))then(((callI tE Z5n [(.sl a3)])).bind (fun r4=>(bif(fitS ((((((gs r1)++(S [47]))++(gs r2))++(S [47]))++(gs r3))++(S [47])) (gs r4))then(bif(fitS (((((((gs r1)++(S [47]))++(gs r2))++(S [47]))++(gs r3))++(S [47]))++(gs r4)) (S [47]))then(((callI tE Z5n [(.sl a4)])).bind (fun r5=>(bif(fitS ((((((((gs r1)++(S [47]))++(gs r2))++(S [47]))++(gs r3))++(S [47]))++(gs r4))++(S [47])) (gs r5))then(bif(fitS (((((((((gs r1)++(S [47]))++(gs r2))++(S [47]))++(gs r3))++(S [47]))++(gs r4))++(S [47]))++(gs r5)) (S [47]))then(((callI tE Z7n [(.sl a5)])).bind (fun r6=>(bif(fitS ((((((((((gs r1)++(S [47]))++(gs r2))++(S [47]))++(gs r3))++(S [47]))++(gs r4))++(S [47]))++(gs r5))++(S [47])) (gs r6))then(bif(fitS (((((((((((gs r1)++(S [47]))++(gs r2))++(S [47]))++(gs r3))++(S [47]))++(gs r4))++(S [47]))++(gs r5))++(S [47]))++(gs r6)) (S [47]))then(((callI tE Z5N [(.int a6)])).bind (fun r7=>(bif(fitS ((((((((((((gs r1)++(S [47]))++(gs r2))++(S [47]))++(gs r3))++(S [47]))++(gs r4))++(S [47]))++(gs r5))++(S [47]))++(gs r6))++(S [47])) (gs r7))then(bif(fitS (((((((((((((gs r1)++(S [47]))++(gs r2))++(S [47]))++(gs r3))++(S [47]))++(gs r4))++(S [47]))++(gs r5))++(S [47]))++(gs r6))++(S [47]))++(gs r7)) (S [47]))then(((callI tE Z5N [(.int a7)])).bind (fun r8=>(bif(fitS ((((((((((((((gs r1)++(S [47]))++(gs r2))++(S [47]))++(gs r3))++(S [47]))++(gs r4))++(S [47]))++(gs r5))++(S [47]))++(gs r6))++(S [47]))++(gs r7))++(S [47])) (gs r8))then(bif(fitS (((((((((((((((gs r1)++(S [47]))++(gs r2))++(S [47]))++(gs r3))++(S [47]))++(gs r4))++(S [47]))++(gs r5))++(S [47]))++(gs r6))++(S [47]))++(gs r7))++(S [47]))++(gs r8)) (S [47]))then(((callI tE Z5N [(.int a8)])).bind (fun r9=>(bif(fitS ((((((((((((((((gs r1)++(S [47]))++(gs r2))++(S [47]))++(gs r3))++(S [47]))++(gs r4))++(S [47]))++(gs r5))++(S [47]))++(gs r6))++(S [47]))++(gs r7))++(S [47]))++(gs r8))++(S [47])) (gs r9))then(bif(fitS (((((((((((((((((gs r1)++(S [47]))++(gs r2))++(S [47]))++(gs r3))++(S [47]))++(gs r4))++(S [47]))++(gs r5))++(S [47]))++(gs r6))++(S [47]))++(gs r7))++(S [47]))++(gs r8))++(S [47]))++(gs r9)) (S [47]))then(((callI tE Z5N [(.int a9)])).bind (fun r10=>(bif(fitS ((((((((((((((((((gs r1)++(S [47]))++(gs r2))++(S [47]))++(gs r3))++(S [47]))++(gs r4))++(S [47]))++(gs r5))++(S [47]))++(gs r6))++(S [47]))++(gs r7))++(S [47]))++(gs r8))++(S [47]))++(gs r9))++(S [47])) (gs r10))then(some [(.str (((((((((((((((((((gs r1)++(S [47]))++(gs r2))++(S [47]))++(gs r3))++(S [47]))++(gs r4))++(S [47]))++(gs r5))++(S [47]))++(gs r6))++(S [47]))++(gs r7))++(S [47]))++(gs r8))++(S [47]))++(gs r9))++(S [47]))++(gs r10)))])else none)))else none)else none)))else none)else none)))else none)else none)))else none)else none)))else none)else none)))else none)else none)))else none)else none)))else none)else none)))else none)))))):=(callI_run rfl (by kernel_rfl)).trans (by kernel_rfl)
noncomputable def Z6B (x0:Rows) (x1 x2:Int) (x3:Rows):Option (List Dat):=loopK tE Z7p 0 ⟨[(3,(.own (500000,0))),(7,(.ro 277 Bool.false x0)),(8,(.i .i64 x1)),(9,(.i .i64 x2))],[((500000,0),(.row 9 x3 Bool.true 0 []))]⟩
theorem Z8Z (x0:Rows) (x1 x2:Int) (x3:Rows):Z6B x0 x1 x2 x3=(bif(ltI x2 x1)then(bif(inR x2 (lenI x0))then(((callI tE Z7J [(.sl (gl (at' x0 (tn x2))))])).bind (fun r0=>(bif(fitM (Nat.succ (len x3)) 16)then(Z6B x0 x1 (w64 (x2+1)) (List.append x3 [[(.str (gs r0))]]))else none)))else none)else(((callI tE Z7o [(.sl x3),(.str (S [124]))])).bind (fun r0=>(some [(.str (gs r0))])))):=(loopK_run (by kernel_rfl)).trans (by kernel_rfl)
theorem ZBq (a0:Rows):callI tE Z7p [.sl a0]=(Z6B a0 (lenI a0) 0 []):=(callI_run rfl (by kernel_rfl)).trans (by kernel_rfl)
theorem ZBA (a0:Rows) (a1:Int) (a2 a3 a4 a5:Rows) (a6 a7 a8 a9:Int):callI tE Z7P [.sl a0,.int a1,.sl a2,.sl a3,.sl a4,.sl a5,.int a6,.int a7,.int a8,.int a9]=(((callI tE Z64 [(.sl a0),(.int a1),(.sl a2),(.sl a3),(.sl a4),(.sl a5),(.int a6),(.int a7),(.int a8),(.int a9)])).bind (fun r0=>(bif(!(gb r0))then(some [(.str (S []))])else(((callI tE Z7J [(.sl a0)])).bind (fun r1=>(((callI tE Z5f [(.int a1)])).bind (fun r2=>(((callI tE Z6s [(.sl a2)])).bind (fun r3=>(((callI tE Z6s [(.sl a3)])).bind (fun r4=>(((callI tE Z6s [(.sl a4)])).bind (fun r5=>(((callI tE Z7p [(.sl a5)])).bind (fun r6=>(((callI tE Z5f [(.int a6)])).bind (fun r7=>(((callI tE Z5f [(.int a7)])).bind (fun r8=>(((callI tE Z5f [(.int a8)])).bind (fun r9=>(((callI tE Z5f [(.int a9)])).bind (fun r10=>(((callI tE Z7o [(.sl [[(.str (gs r1))],[(.str (gs r2))],[(.str (gs r3))],[(.str (gs r4))],[(.str (gs r5))],[(.str (gs r6))],[(.str (gs r7))],[(.str (gs r8))],[(.str (gs r9))],[(.str (gs r10))]]),(.str (S [47]))])).bind (fun r11=>(some [(.str (gs r11))])))))))))))))))))))))))))):=(callI_run rfl (by kernel_rfl)).trans (by kernel_rfl)
noncomputable def Z7f (x0 x1:Int) (x2 x3:Rows):Option (List Dat):=loopK tE Z89 0 ⟨[(4,(.own (500000,0))),(13,(.own (500001,0))),(14,(.i .i64 x0)),(15,(.i .i64 x1))],[((500000,0),(.row 277 x2 Bool.true 0 [])),((500001,0),(.row 9 x3 Bool.true 0 []))]⟩
theorem Z8z (x0 x1:Int) (x2 x3:Rows):Z7f x0 x1 x2 x3=(bif(ltI x1 x0)then(bif(inR x1 (lenI x3))then(((callI tE Z6y [(.str (gs (at' x3 (tn x1))))])).bind (fun r0=>(bif(!(gb (tk 1 r0)))then(some [(.sl []),(.bool Bool.false)])else(bif(fitM (Nat.succ (len x2)) 24)then(Z7f x0 (w64 (x1+1)) (List.append x2 [[(.sl (gl r0))]]) x3)else none))))else none)else(some [(.sl x2),(.bool Bool.true)])):=(loopK_run (by kernel_rfl)).trans (by kernel_rfl)
theorem ZCH (a0:ByteArray):callI tE Z89 [.str a0]=(bif(eqS a0 (S []))then(some [(.sl []),(.bool Bool.true)])else(((callI tE Z8B [(.str a0),(.int 124)])).bind (fun r0=>(Z7f (lenI (gl r0)) 0 [] (gl r0))))):=(callI_run rfl (by kernel_rfl)).trans (by kernel_rfl)
theorem ZBT (a0:ByteArray):callI tE Z8L [.str a0]=(((callI tE Z8B [(.str a0),(.int 47)])).bind (fun r0=>(bif(!(eqI (lenI (gl r0)) 10))then(some [(.sl []),(.int 0),(.sl []),(.sl []),(.sl []),(.sl []),(.int 0),(.int 0),(.int 0),(.int 0),(.bool Bool.false)])else(bif(inR 0 (lenI (gl r0)))then(((callI tE Z6J [(.bool Bool.true),(.str (gs (at' (gl r0) (tn 0))))])).bind (fun r1=>(bif(inR 1 (lenI (gl r0)))then(((callI tE Z65 [(.bool (gb (List.drop 1 r1))),(.str (gs (at' (gl r0) (tn 1))))])).bind (fun r2=>(bif(inR 2 (lenI (gl r0)))then(((callI tE Z6J [(.bool (gb (List.drop 1 r2))),(.str (gs (at' (gl r0) (tn 2))))])).bind (fun r3=>(bif(inR 3 (lenI (gl r0)))then(((callI tE Z6J [(.bool (gb (List.drop 1 r3))),(.str (gs (at' (gl r0) (tn 3))))])).bind (fun r4=>(bif(inR 4 (lenI (gl r0)))then(((callI tE Z6J [(.bool (gb (List.drop 1 r4))),(.str (gs (at' (gl r0) (tn 4))))])).bind (fun r5=>(bif(inR 5 (lenI (gl r0)))then(((callI tE Z89 [(.str (gs (at' (gl r0) (tn 5))))])).bind (fun r6=>(bif(inR 6 (lenI (gl r0)))then(((callI tE Z65 [(.bool (gb (List.drop 1 r5))),(.str (gs (at' (gl r0) (tn 6))))])).bind (fun r7=>(bif(inR 7 (lenI (gl r0)))then(((callI tE Z65 [(.bool (gb (List.drop 1 r7))),(.str (gs (at' (gl r0) (tn 7))))])).bind (fun r8=>(bif(inR 8 (lenI (gl r0)))then(((callI tE Z65 [(.bool (gb (List.drop 1 r8))),(.str (gs (at' (gl r0) (tn 8))))])).bind (fun r9=>(bif(inR 9 (lenI (gl r0)))then(((callI tE Z65 [(.bool (gb (List.drop 1 r9))),(.str (gs (at' (gl r0) (tn 9))))])).bind (fun r10=>(bif(!(gb (List.drop 1 r10)))then(some [(.sl []),(.int 0),(.sl []),(.sl []),(.sl []),(.sl []),(.int 0),(.int 0),(.int 0),(.int 0),(.bool Bool.false)])else(bif(!(gb (tk 1 r6)))then(some [(.sl []),(.int 0),(.sl []),(.sl []),(.sl []),(.sl []),(.int 0),(.int 0),(.int 0),(.int 0),(.bool Bool.false)])else(((callI tE Z64 [(.sl (gl r1)),(.int (gn r2)),(.sl (gl r3)),(.sl (gl r4)),(.sl (gl r5)),(.sl (gl r6)),(.int (gn r7)),(.int (gn r8)),(.int (gn r9)),(.int (gn r10))])).bind (fun r11=>(bif(!(gb r11))then(some [(.sl []),(.int 0),(.sl []),(.sl []),(.sl []),(.sl []),(.int 0),(.int 0),(.int 0),(.int 0),(.bool Bool.false)])else(((callI tE Z7P [(.sl (gl r1)),(.int (gn r2)),(.sl (gl r3)),(.sl (gl r4)),(.sl (gl r5)),(.sl (gl r6)),(.int (gn r7)),(.int (gn r8)),(.int (gn r9)),(.int (gn r10))])).bind (fun r12=>(bif(!(eqS (gs r12) a0))then(some [(.sl []),(.int 0),(.sl []),(.sl []),(.sl []),(.sl []),(.int 0),(.int 0),(.int 0),(.int 0),(.bool Bool.false)])else(some [(.sl (gl r1)),(.int (gn r2)),(.sl (gl r3)),(.sl (gl r4)),(.sl (gl r5)),(.sl (gl r6)),(.int (gn r7)),(.int (gn r8)),(.int (gn r9)),(.int (gn r10)),(.bool Bool.true)])))))))))))else none)))else none)))else none)))else none)))else none)))else none)))else none)))else none)))else none)))else none)))):=(callI_run rfl (by kernel_rfl)).trans (by kernel_rfl)
noncomputable def Z5j (x0:ByteArray) (x1 x2 x3 x4 x5 x6 x7 x8:Int) (x9:Rows) (x10 x11 x12 x13 x14:Int) (x15 x16 x17 x18 x19 x20 x21 x22 x23 x24 x25:Rows):Option (List Dat):=loopK tE Z7a 0 ⟨[(0,(.s x0)),(2,(.ptr (500000,0) x1 0)),(4,(.own (500001,0))),(5,(.ptr (500002,0) x2 0)),(6,(.own (500003,0))),(7,(.i .i64 x3))],[((500000,0),(.box 54 [(.own (500004,0)),(.i .i64 x4),(.own (500005,0)),(.own (500006,0)),(.own (500007,0)),(.own (500008,0)),(.i .i64 x5),(.i .i64 x6),(.i .i64 x7),(.i .i64 x8)])),((500001,0),(.row 9 x9 Bool.true 0 [])),((500002,0),(.box 54 [(.own (500009,0)),(.i .i64 x10),(.own (500010,0)),(.own (500011,0)),(.own (500012,0)),(.own (500013,0)),(.i .i64 x11),(.i .i64 x12),(.i .i64 x13),(.i .i64 x14)])),((500003,0),(.row 9 x15 Bool.true 0 [])),((500004,0),(.row 224 x16 Bool.true 0 [])),((500005,0),(.row 224 x17 Bool.true 0 [])),((500006,0),(.row 224 x18 Bool.true 0 [])),((500007,0),(.row 224 x19 Bool.true 0 [])),((500008,0),(.row 277 x20 Bool.true 0 [])),((500009,0),(.row 224 x21 Bool.true 0 [])),((500010,0),(.row 224 x22 Bool.true 0 [])),((500011,0),(.row 224 x23 Bool.true 0 [])),((500012,0),(.row 224 x24 Bool.true 0 [])),((500013,0),(.row 277 x25 Bool.true 0 []))]⟩
theorem Z8U (x0:ByteArray) (x1 x2 x3 x4 x5 x6 x7 x8:Int) (x9:Rows) (x10 x11 x12 x13 x14:Int) (x15 x16 x17 x18 x19 x20 x21 x22 x23 x24 x25:Rows):Z5j x0 x1 x2 x3 x4 x5 x6 x7 x8 x9 x10 x11 x12 x13 x14 x15 x16 x17 x18 x19 x20 x21 x22 x23 x24 x25=(bif(ltI x3 (lenI x15))then(bif(inR 5 (lenI x9))then(bif(!(eqS (gs (at' x9 (tn 5))) (S [])))then(bif(inR x3 (lenI x15))then(((callI tE Z5x [(.str (gs (at' x15 (tn x3))))])).bind (fun r0=>(bif(fitM (Nat.succ (len x25)) 24)then(Z5j x0 x1 x2 (w64 (x3+1)) x4 x5 x6 x7 x8 x9 x10 x11 x12 x13 x14 x15 x16 x17 x18 x19 x20 x21 x22 x23 x24 (List.append x25 [[(.sl (gl r0))]]))else none)))else none)else(bif(inR 6 (lenI x9))then(((callI tE Z5X [(.str (gs (at' x9 (tn 6))))])).bind (fun r0=>(bif(inR 7 (lenI x9))then(((callI tE Z5X [(.str (gs (at' x9 (tn 7))))])).bind (fun r1=>(bif(inR 8 (lenI x9))then(((callI tE Z5X [(.str (gs (at' x9 (tn 8))))])).bind (fun r2=>(bif(inR 9 (lenI x9))then(((callI tE Z5X [(.str (gs (at' x9 (tn 9))))])).bind (fun r3=>(((callI tE Z6P [(.sl x21),(.int x10),(.sl x22),(.sl x23),(.sl x24),(.sl x25),(.int (gn r0)),(.int (gn r1)),(.int (gn r2)),(.int (gn r3))])).bind (fun r4=>(bif(!(eqS (gs r4) x0))then(some [(.sl []),(.int 0),(.sl []),(.sl []),(.sl []),(.sl []),(.int 0),(.int 0),(.int 0),(.int 0),(.bool Bool.false)])else(some [(.sl x21),(.int x10),(.sl x22),(.sl x23),(.sl x24),(.sl x25),(.int (gn r0)),(.int (gn r1)),(.int (gn r2)),(.int (gn r3)),(.bool Bool.true)]))))))else none)))else none)))else none)))else none))else none)else(bif(inR 6 (lenI x9))then(((callI tE Z5X [(.str (gs (at' x9 (tn 6))))])).bind (fun r0=>(bif(inR 7 (lenI x9))then(((callI tE Z5X [(.str (gs (at' x9 (tn 7))))])).bind (fun r1=>(bif(inR 8 (lenI x9))then(((callI tE Z5X [(.str (gs (at' x9 (tn 8))))])).bind (fun r2=>(bif(inR 9 (lenI x9))then(((callI tE Z5X [(.str (gs (at' x9 (tn 9))))])).bind (fun r3=>(((callI tE Z6P [(.sl x21),(.int x10),(.sl x22),(.sl x23),(.sl x24),(.sl x25),(.int (gn r0)),(.int (gn r1)),(.int (gn r2)),(.int (gn r3))])).bind (fun r4=>(bif(!(eqS (gs r4) x0))then(some [(.sl []),(.int 0),(.sl []),(.sl []),(.sl []),(.sl []),(.int 0),(.int 0),(.int 0),(.int 0),(.bool Bool.false)])else(some [(.sl x21),(.int x10),(.sl x22),(.sl x23),(.sl x24),(.sl x25),(.int (gn r0)),(.int (gn r1)),(.int (gn r2)),(.int (gn r3)),(.bool Bool.true)]))))))else none)))else none)))else none)))else none)):=(loopK_run (by kernel_rfl)).trans (by kernel_rfl)
theorem ZBU (a0:ByteArray):callI tE Z7a [.str a0]=(((callI tE Z71 [(.str a0),(.int 47)])).bind (fun r0=>(bif(!(eqI (lenI (gl r0)) 10))then(some [(.sl []),(.int 0),(.sl []),(.sl []),(.sl []),(.sl []),(.int 0),(.int 0),(.int 0),(.int 0),(.bool Bool.false)])else(bif(inR 0 (lenI (gl r0)))then(((callI tE Z5x [(.str (gs (at' (gl r0) (tn 0))))])).bind (fun r1=>(bif(inR 1 (lenI (gl r0)))then(((callI tE Z5X [(.str (gs (at' (gl r0) (tn 1))))])).bind (fun r2=>(bif(inR 2 (lenI (gl r0)))then(((callI tE Z5x [(.str (gs (at' (gl r0) (tn 2))))])).bind (fun r3=>(bif(inR 3 (lenI (gl r0)))then(((callI tE Z5x [(.str (gs (at' (gl r0) (tn 3))))])).bind (fun r4=>(bif(inR 4 (lenI (gl r0)))then(((callI tE Z5x [(.str (gs (at' (gl r0) (tn 4))))])).bind (fun r5=>(bif(inR 5 (lenI (gl r0)))then(((callI tE Z71 [(.str (gs (at' (gl r0) (tn 5)))),(.int 124)])).bind (fun r6=>(Z5j a0 0 0 0 0 0 0 0 0 (gl r0) (gn r2) 0 0 0 0 (gl r6) [] [] [] [] [] (gl r1) (gl r3) (gl r4) (gl r5) [])))else none)))else none)))else none)))else none)))else none)))else none)))):=(callI_run rfl (by kernel_rfl)).trans (by kernel_rfl)
theorem ZAv (a0:Rows) (a1:Int) (a2 a3 a4 a5:Rows) (a6 a7 a8 a9:Int):callI tE Z7z [.sl a0,.int a1,.sl a2,.sl a3,.sl a4,.sl a5,.int a6,.int a7,.int a8,.int a9]=(((callI tE Z64 [(.sl a0),(.int a1),(.sl a2),(.sl a3),(.sl a4),(.sl a5),(.int a6),(.int a7),(.int a8),(.int a9)])).bind (fun r0=>(bif(!(gb r0))then(some [(.int 0)])else(bif(eqI a8 3)then(some [(.int (w64 ((lenI a0)-a6)))])else(bif(eqI a8 4)then(some [(.int (w64 ((lenI a0)-a6)))])else(some [(.int (lenI a0))])))))):=(callI_run rfl (by kernel_rfl)).trans (by kernel_rfl)
theorem ZA8 (a0:Rows) (a1:Int) (a2 a3 a4 a5:Rows) (a6 a7 a8 a9:Int) (a10:Rows):callI tE Z6C [.sl a0,.int a1,.sl a2,.sl a3,.sl a4,.sl a5,.int a6,.int a7,.int a8,.int a9,.sl a10]=(((callI tE Z64 [(.sl a0),(.int a1),(.sl a2),(.sl a3),(.sl a4),(.sl a5),(.int a6),(.int a7),(.int a8),(.int a9)])).bind (fun r0=>(bif(gb r0)then(((callI tE Z6A [(.sl a10)])).bind (fun r1=>(bif(gb r1)then(((callI tE Z7z [(.sl a0),(.int a1),(.sl a2),(.sl a3),(.sl a4),(.sl a5),(.int a6),(.int a7),(.int a8),(.int a9)])).bind (fun r2=>(bif(eqI (w64 ((lenI a10)+(gn r2))) (lenI a0))then(((callI tE Z6r [(.sl a0)])).bind (fun r3=>(bif((leI 0 (lenI a10))&&(leI (lenI a10) (lenI (gl r3))))then(((callI tE Z7h [(.sl a10),(.sl (List.take (tn ((lenI a10)-0)) (List.drop (tn 0) (gl r3))))])).bind (fun r4=>(some [(.bool (gb r4))])))else none)))else(some [(.bool Bool.false)]))))else(some [(.bool Bool.false)]))))else(some [(.bool Bool.false)])))):=(callI_run rfl (by kernel_rfl)).trans (by kernel_rfl)
theorem ZAT (a0:ByteArray):callI tE Z6v [.str a0]=(((callI tE Z8B [(.str a0),(.int 33)])).bind (fun r0=>(bif(!(eqI (lenI (gl r0)) 2))then(some [(.sl []),(.int 0),(.sl []),(.sl []),(.sl []),(.sl []),(.int 0),(.int 0),(.int 0),(.int 0),(.sl []),(.bool Bool.false)])else(bif(inR 0 (lenI (gl r0)))then(((callI tE Z8L [(.str (gs (at' (gl r0) (tn 0))))])).bind (fun r1=>(bif(inR 1 (lenI (gl r0)))then(((callI tE Z6y [(.str (gs (at' (gl r0) (tn 1))))])).bind (fun r2=>(bif(!(gb (tk 10 r1)))then(some [(.sl []),(.int 0),(.sl []),(.sl []),(.sl []),(.sl []),(.int 0),(.int 0),(.int 0),(.int 0),(.sl []),(.bool Bool.false)])else(bif(!(gb (tk 1 r2)))then(some [(.sl []),(.int 0),(.sl []),(.sl []),(.sl []),(.sl []),(.int 0),(.int 0),(.int 0),(.int 0),(.sl []),(.bool Bool.false)])else(((callI tE Z6C [(.sl (gl r1)),(.int (gn (tk 1 r1))),(.sl (gl (tk 2 r1))),(.sl (gl (tk 3 r1))),(.sl (gl (tk 4 r1))),(.sl (gl (tk 5 r1))),(.int (gn (tk 6 r1))),(.int (gn (tk 7 r1))),(.int (gn (tk 8 r1))),(.int (gn (tk 9 r1))),(.sl (gl r2))])).bind (fun r3=>(bif(!(gb r3))then(some [(.sl []),(.int 0),(.sl []),(.sl []),(.sl []),(.sl []),(.int 0),(.int 0),(.int 0),(.int 0),(.sl []),(.bool Bool.false)])else(some [(.sl (gl r1)),(.int (gn (tk 1 r1))),(.sl (gl (tk 2 r1))),(.sl (gl (tk 3 r1))),(.sl (gl (tk 4 r1))),(.sl (gl (tk 5 r1))),(.int (gn (tk 6 r1))),(.int (gn (tk 7 r1))),(.int (gn (tk 8 r1))),(.int (gn (tk 9 r1))),(.sl (gl r2)),(.bool Bool.true)]))))))))else none)))else none)))):=(callI_run rfl (by kernel_rfl)).trans (by kernel_rfl)
theorem ZAL (a0:Rows) (a1:Int) (a2 a3 a4 a5:Rows) (a6 a7 a8 a9:Int) (a10:Rows):callI tE Z5y [.sl a0,.int a1,.sl a2,.sl a3,.sl a4,.sl a5,.int a6,.int a7,.int a8,.int a9,.sl a10]=(((callI tE Z6C [(.sl a0),(.int a1),(.sl a2),(.sl a3),(.sl a4),(.sl a5),(.int a6),(.int a7),(.int a8),(.int a9),(.sl a10)])).bind (fun r0=>(bif(!(gb r0))then(some [(.str (S []))])else(((callI tE Z7P [(.sl a0),(.int a1),(.sl a2),(.sl a3),(.sl a4),(.sl a5),(.int a6),(.int a7),(.int a8),(.int a9)])).bind (fun r1=>(bif(fitS (gs r1) (S [33]))then(((callI tE Z7J [(.sl a10)])).bind (fun r2=>(bif(fitS ((gs r1)++(S [33])) (gs r2))then(some [(.str (((gs r1)++(S [33]))++(gs r2)))])else none)))else none)))))):=(callI_run rfl (by kernel_rfl)).trans (by kernel_rfl)
theorem ZAw (a0:Rows) (a1:Int) (a2 a3 a4 a5:Rows) (a6 a7 a8 a9:Int):callI tE Z80 [.sl a0,.int a1,.sl a2,.sl a3,.sl a4,.sl a5,.int a6,.int a7,.int a8,.int a9]=(((callI tE Z63 [(.sl a0),(.int a1),(.sl a2),(.sl a3),(.sl a4),(.sl a5),(.int a6),(.int a7),(.int a8),(.int a9)])).bind (fun r0=>(bif(!(gb r0))then(some [(.int 0)])else(bif(eqI a8 3)then(some [(.int (w64 ((lenI a0)-a6)))])else(bif(eqI a8 4)then(some [(.int (w64 ((lenI a0)-a6)))])else(some [(.int (lenI a0))])))))):=(callI_run rfl (by kernel_rfl)).trans (by kernel_rfl)
theorem ZA9 (a0:Rows) (a1:Int) (a2 a3 a4 a5:Rows) (a6 a7 a8 a9:Int) (a10:Rows):callI tE Z6a [.sl a0,.int a1,.sl a2,.sl a3,.sl a4,.sl a5,.int a6,.int a7,.int a8,.int a9,.sl a10]=(((callI tE Z63 [(.sl a0),(.int a1),(.sl a2),(.sl a3),(.sl a4),(.sl a5),(.int a6),(.int a7),(.int a8),(.int a9)])).bind (fun r0=>(bif(!(gb r0))then(some [(.bool Bool.false)])else(((callI tE Z5i [(.sl a10)])).bind (fun r1=>(bif(!(gb r1))then(some [(.bool Bool.false)])else(((callI tE Z80 [(.sl a0),(.int a1),(.sl a2),(.sl a3),(.sl a4),(.sl a5),(.int a6),(.int a7),(.int a8),(.int a9)])).bind (fun r2=>(bif(!(eqI (w64 ((lenI a10)+(gn r2))) (lenI a0)))then(some [(.bool Bool.false)])else(((callI tE Z6W [(.sl a0)])).bind (fun r3=>(bif((leI 0 (lenI a10))&&(leI (lenI a10) (lenI (gl r3))))then(((callI tE Z6H [(.sl a10),(.sl (List.take (tn ((lenI a10)-0)) (List.drop (tn 0) (gl r3))))])).bind (fun r4=>(some [(.bool (gb r4))])))else none)))))))))))):=(callI_run rfl (by kernel_rfl)).trans (by kernel_rfl)
theorem ZAM (a0:Rows) (a1:Int) (a2 a3 a4 a5:Rows) (a6 a7 a8 a9:Int) (a10:Rows):callI tE Z6h [.sl a0,.int a1,.sl a2,.sl a3,.sl a4,.sl a5,.int a6,.int a7,.int a8,.int a9,.sl a10]=(((callI tE Z6a [(.sl a0),(.int a1),(.sl a2),(.sl a3),(.sl a4),(.sl a5),(.int a6),(.int a7),(.int a8),(.int a9),(.sl a10)])).bind (fun r0=>(bif(!(gb r0))then(some [(.str (S []))])else(((callI tE Z6P [(.sl a0),(.int a1),(.sl a2),(.sl a3),(.sl a4),(.sl a5),(.int a6),(.int a7),(.int a8),(.int a9)])).bind (fun r1=>(bif(fitS (gs r1) (S [33]))then(((callI tE Z5n [(.sl a10)])).bind (fun r2=>(bif(fitS ((gs r1)++(S [33])) (gs r2))then(some [(.str (((gs r1)++(S [33]))++(gs r2)))])else none)))else none)))))):=(callI_run rfl (by kernel_rfl)).trans (by kernel_rfl)
theorem ZAU (a0:ByteArray):callI tE Z7W [.str a0]=(((callI tE Z71 [(.str a0),(.int 33)])).bind (fun r0=>(bif(!(eqI (lenI (gl r0)) 2))then(some [(.sl []),(.int 0),(.sl []),(.sl []),(.sl []),(.sl []),(.int 0),(.int 0),(.int 0),(.int 0),(.sl []),(.bool Bool.false)])else(bif(inR 0 (lenI (gl r0)))then(((callI tE Z7a [(.str (gs (at' (gl r0) (tn 0))))])).bind (fun r1=>(bif(inR 1 (lenI (gl r0)))then(((callI tE Z5x [(.str (gs (at' (gl r0) (tn 1))))])).bind (fun r2=>(((callI tE Z6h [(.sl (gl r1)),(.int (gn (tk 1 r1))),(.sl (gl (tk 2 r1))),(.sl (gl (tk 3 r1))),(.sl (gl (tk 4 r1))),(.sl (gl (tk 5 r1))),(.int (gn (tk 6 r1))),(.int (gn (tk 7 r1))),(.int (gn (tk 8 r1))),(.int (gn (tk 9 r1))),(.sl (gl r2))])).bind (fun r3=>(bif(!(eqS (gs r3) a0))then(some [(.sl []),(.int 0),(.sl []),(.sl []),(.sl []),(.sl []),(.int 0),(.int 0),(.int 0),(.int 0),(.sl []),(.bool Bool.false)])else(some [(.sl (gl r1)),(.int (gn (tk 1 r1))),(.sl (gl (tk 2 r1))),(.sl (gl (tk 3 r1))),(.sl (gl (tk 4 r1))),(.sl (gl (tk 5 r1))),(.int (gn (tk 6 r1))),(.int (gn (tk 7 r1))),(.int (gn (tk 8 r1))),(.int (gn (tk 9 r1))),(.sl (gl r2)),(.bool Bool.true)]))))))else none)))else none)))):=(callI_run rfl (by kernel_rfl)).trans (by kernel_rfl)
noncomputable def Z7G (x0 x1:Rows) (x2:Int):Option (List Dat):=loopK tE Z7b 0 ⟨[(0,(.ro 277 Bool.false x0)),(1,(.ro 277 Bool.false x1)),(5,(.i .i64 x2))],[]⟩
theorem Z8V (x0 x1:Rows) (x2:Int):Z7G x0 x1 x2=(bif(ltI x2 (lenI x0))then(bif(inR x2 (lenI x0))then(bif(inR x2 (lenI x1))then(((callI tE Z6H [(.sl (gl (at' x0 (tn x2)))),(.sl (gl (at' x1 (tn x2))))])).bind (fun r0=>(bif(!(gb r0))then(some [(.bool Bool.false)])else(Z7G x0 x1 (w64 (x2+1))))))else none)else none)else(some [(.bool Bool.true)])):=(loopK_run (by kernel_rfl)).trans (by kernel_rfl)
theorem ZBV (a0 a1:Rows):callI tE Z7b [.sl a0,.sl a1]=(bif(!(eqI (lenI a0) (lenI a1)))then(some [(.bool Bool.false)])else(Z7G a0 a1 0)):=(callI_run rfl (by kernel_rfl)).trans (by kernel_rfl)
theorem ZBB (a0:Rows) (a1:Int) (a2 a3 a4 a5:Rows) (a6 a7 a8 a9:Int) (a10:Rows) (a11:Int) (a12 a13 a14 a15:Rows) (a16 a17 a18 a19:Int):callI tE Z8A [.sl a0,.int a1,.sl a2,.sl a3,.sl a4,.sl a5,.int a6,.int a7,.int a8,.int a9,.sl a10,.int a11,.sl a12,.sl a13,.sl a14,.sl a15,.int a16,.int a17,.int a18,.int a19]=(((callI tE Z6H [(.sl a0),(.sl a10)])).bind (fun r0=>(bif(gb r0)then(bif(eqI a1 a11)then(((callI tE Z6H [(.sl a2),(.sl a12)])).bind (fun r1=>(bif(gb r1)then(((callI tE Z6H [(.sl a3),(.sl a13)])).bind (fun r2=>(bif(gb r2)then(((callI tE Z6H [(.sl a4),(.sl a14)])).bind (fun r3=>(bif(gb r3)then(((callI tE Z7b [(.sl a5),(.sl a15)])).bind (fun r4=>(bif(gb r4)then(bif(eqI a6 a16)then(bif(eqI a7 a17)then(bif(eqI a8 a18)then(some [(.bool (eqI a9 a19))])else(some [(.bool Bool.false)]))else(some [(.bool Bool.false)]))else(some [(.bool Bool.false)]))else(some [(.bool Bool.false)]))))else(some [(.bool Bool.false)]))))else(some [(.bool Bool.false)]))))else(some [(.bool Bool.false)]))))else(some [(.bool Bool.false)]))else(some [(.bool Bool.false)])))):=(callI_run rfl (by kernel_rfl)).trans (by kernel_rfl)
theorem ZAx (a0:Bool) (a1:ByteArray):callI tE Z6J [.bool a0,.str a1]=(((callI tE Z6y [(.str a1)])).bind (fun r0=>(bif a0 then(some [(.sl (gl r0)),(.bool (gb (tk 1 r0)))])else(some [(.sl (gl r0)),(.bool Bool.false)])))):=(callI_run rfl (by kernel_rfl)).trans (by kernel_rfl)
theorem ZAy (a0:Bool) (a1:ByteArray):callI tE Z65 [.bool a0,.str a1]=(((callI tE Z6t [(.str a1)])).bind (fun r0=>(bif a0 then(some [(.int (gn r0)),(.bool (gb (tk 1 r0)))])else(some [(.int (gn r0)),(.bool Bool.false)])))):=(callI_run rfl (by kernel_rfl)).trans (by kernel_rfl)
set_option maxRecDepth 10000
theorem ZGY (x:List Rw) (hx:x.length≤1099511627776):∃y,y.Perm x∧Srt y∧callI tE Z6r [.sl (x.map Rw.e)]=some [.sl (y.map Rw.e)]:=by
 obtain⟨y,y1,y2,y3⟩:=ZFx x (by omega)
 refine⟨y,y1,y2,?_⟩
 rw[ZCZ,ZIM x hx]
 simp only[gA,y3]
theorem ZHb (l u v w1 w2:List Rw) (c:Rw) (i k:Nat) (hl:l=u++c::v) (hi:u.length=i) (hk:w1.length=k) (hw:(w1++w2).length≤1099511627776) (hi2:i<1152921504606846976):
  (bif(inR (i:Int) (lenI (l.map Rw.e)))then(bif((leI 0 (k:Int))&&(leI (k:Int) (lenI ((w1++w2).map Rw.e))))then(bif(fitM (1+(len (List.take (tn ((lenI ((w1++w2).map Rw.e))-(k:Int))) (List.drop (tn (k:Int)) ((w1++w2).map Rw.e))))) 24)then(bif((leI 0 (k:Int))&&(leI (k:Int) (lenI ((w1++w2).map Rw.e))))then(bif(fitM (0+(len (List.take (tn ((k:Int)-0)) (List.drop (tn 0) ((w1++w2).map Rw.e))))) 24)then(bif(fitM (Nat.succ ((len (List.take (tn ((k:Int)-0)) (List.drop (tn 0) ((w1++w2).map Rw.e))))+(len (List.take (tn ((lenI ((w1++w2).map Rw.e))-(k:Int))) (List.drop (tn (k:Int)) ((w1++w2).map Rw.e)))))) 24)then
   (Z6D (l.map Rw.e) (w64 ((i:Int)+1)) (List.append (List.take (tn ((k:Int)-0)) (List.drop (tn 0) ((w1++w2).map Rw.e))) ([(.int (gn (at' (l.map Rw.e) (tn (i:Int))))),(.int (gn (tk 1 (at' (l.map Rw.e) (tn (i:Int)))))),(.int (gn (tk 2 (at' (l.map Rw.e) (tn (i:Int))))))]::(List.take (tn ((lenI ((w1++w2).map Rw.e))-(k:Int))) (List.drop (tn (k:Int)) ((w1++w2).map Rw.e))))))else none)else none)else none)else none)else none)else none)=
  Z6D (l.map Rw.e) ((i+1:Nat):Int) ((w1++c::w2).map Rw.e):=by
 have hc:at' (l.map Rw.e) i=c.e:=ZC0 hl hi
 have hll:i<l.length:=by rw[hl,←hi];simp
 simp only[List.length_append]at hw
 have e1:List.take (tn ((k:Int)-0)) (List.drop (tn 0) ((w1++w2).map Rw.e))=w1.map Rw.e:=by
  show List.take ((k:Int)-0).toNat (List.drop 0 ((w1++w2).map Rw.e))=_
  rw[show((k:Int)-0).toNat=k by omega,List.drop_zero,List.map_append,←hk]
  simp
 have e2:List.take (tn ((lenI ((w1++w2).map Rw.e))-(k:Int))) (List.drop (tn (k:Int)) ((w1++w2).map Rw.e))=w2.map Rw.e:=by
  rw[Z5L]
  show List.take (((w1++w2).length:Int)-(k:Int)).toNat (List.drop k ((w1++w2).map Rw.e))=_
  rw[show(((w1++w2).length:Int)-(k:Int)).toNat=w2.length by simp;omega,List.map_append,←hk]
  simp[List.take_of_length_le]
 rw[ZAr hll,e1,e2,Z5o,Z5o,show leI (k:Int) (lenI ((w1++w2).map Rw.e))=true by rw[Z5L];exact leT (by simp;omega),leT (show(0:Int)≤(k:Int)by omega),show fitM (1+w2.length) 24=true from Z9X (by omega),show fitM (0+w1.length) 24=true from Z9X (by omega),show fitM (Nat.succ (w1.length+w2.length)) 24=true from Z9X (by omega),Z8X (by omega)]
 simp only[cond_true,Bool.and_self,Z8q,hc,gk,gv,gw]
 congr 1
 simp[ZJ3]
theorem ss1 (l u v:List Rw) (c:Rw) (i:Nat) (hl:l=u++c::v) (hi:u.length=i) (hi2:i<1152921504606846976):∀(n:Nat) (w1 w2:List Rw) (k:Nat),w1.length=n→k=n→Srt (w1++w2)→(∀y∈w2,Rw.le c y)→(w1++w2).length≤1099511627776→
  ∃w,w.Perm ((w1++w2)++[c])∧Srt w∧Z7t (l.map Rw.e) (i:Nat) (k:Nat) ((w1++w2).map Rw.e)=Z6D (l.map Rw.e) ((i+1:Nat):Int) (w.map Rw.e):=by
 have hll:i<l.length:=by rw[hl,←hi];simp
 have hc:nth l i=c:=by rw[hl,←hi,Z6N _ _ (Nat.le_refl _)];simp[nth]
 have pm:∀w1 w2:List Rw,(w1++c::w2).Perm ((w1++w2)++[c]):=fun w1 w2=>List.perm_middle.trans (by simpa using(List.perm_append_comm (l₁:=[c]) (l₂:=w1++w2)))
 intro n
 induction n with
 |zero=>
  intro w1 w2 k hn hk hs hw hlen
  have:w1=[]:=List.length_eq_zero_iff.mp hn
  subst this
  refine⟨c::w2,pm [] w2,List.pairwise_cons.mpr ⟨hw,by simpa using hs⟩,?_⟩
  rw[Z9B,ltF (by omega),cond_false]
  exact ZHb l u v [] w2 c i k hl hi (by simp;omega) hlen hi2
 |succ n ih=>
  intro w1 w2 k hn hk hs hw hlen
  obtain⟨w1,d,rfl⟩:=snoc_of (n:=n) (l:=w1) hn
  have hlen':=hlen
  simp only[List.length_append,List.length_cons,List.length_nil]at hlen' hn
  have i1:inR ((k-1:Nat):Int) (lenI ((w1++[d]++w2).map Rw.e))=true:=ZAr (by simp;omega)
  have i2:inR (i:Int) (lenI (l.map Rw.e))=true:=ZAr hll
  have hd:nth (w1++[d]++w2) (k-1)=d:=by
   rw[Z7e (w1++[d]) w2 (by simp;omega),Z6N w1 _ (by omega),show k-1-w1.length=0 by omega]
   simp[nth]
  have a1:at' ((w1++[d]++w2).map Rw.e) (k-1)=d.e:=by rw[ZFe (by simp;omega),hd]
  have a2:at' (l.map Rw.e) i=c.e:=by rw[ZFe hll,hc]
  rw[Z9B,ltT (by omega),cond_true,Z9p (by omega) (by omega),i1,cond_true]
  rw[show(bif inR (i:Int) (lenI (l.map Rw.e))then _ else none:Option (List Dat))=_ from by rw[i2,cond_true]]
  simp only[Z8q,a1,a2,gk,gv,gw]
  rw[ZAG]
  simp only[gA]
  rw[ZFN]
  by_cases hcd:Rw.lt c d
  ·rw[decide_eq_true hcd,cond_true]
   have hs':Srt (w1++d::w2):=by simpa using hs
   obtain⟨w,q1,q2,q3⟩:=ih w1 (d::w2) (k-1) (by omega) (by omega) hs' (fun y hy=>by
    rcases List.mem_cons.mp hy with rfl|hy
    ·exact Rw.lt_le hcd
    ·exact hw y hy) (by simp;omega)
   refine⟨w,by simpa using q1,q2,?_⟩
   rw[←q3]
   simp
  ·rw[decide_eq_false hcd,cond_false]
   refine⟨(w1++[d])++c::w2,pm _ _,?_,?_⟩
   ·obtain⟨s1,s2,s3⟩:=List.pairwise_append.mp hs
    refine List.pairwise_append.mpr ⟨s1,List.pairwise_cons.mpr ⟨hw,s2⟩,fun x hx y hy=>?_⟩
    rcases List.mem_cons.mp hy with rfl|hy
    ·obtain⟨t1,t2,t3⟩:=List.pairwise_append.mp s1
     rcases List.mem_append.mp hx with hx|hx
     ·exact Rw.le_tr (t3 x hx d (by simp)) hcd
     ·simp at hx;subst hx;exact hcd
    ·exact s3 x hx y hy
   ·have:=ZHb l u v (w1++[d]) w2 c i k hl hi (by simp;omega) hlen hi2
    simp only[Z8q,a2,gk,gv,gw,i2,cond_true]at this⊢
    exact this
theorem ss0 (l:List Rw) (hll:l.length≤1099511627770):∀(v u w:List Rw) (i:Nat),l=u++v→u.length=i→w.Perm u→Srt w→∃y,y.Perm l∧Srt y∧Z6D (l.map Rw.e) (i:Nat) (w.map Rw.e)=some [.sl (y.map Rw.e)]
 |[],u,w,i,hl,hi,hw,hs=>by
  rw[List.append_nil]at hl
  refine⟨w,hl▸hw,hs,?_⟩
  rw[Z9A,Z5L,ltF (by rw[hl];omega),cond_false]
 |c::v,u,w,i,hl,hi,hw,hs=>by
  have hwl:=hw.length_eq
  have hlen:l.length=u.length+(v.length+1):=by rw[hl];simp
  obtain⟨w',q1,q2,q3⟩:=ss1 l u v c i hl hi (by omega) w.length w [] w.length rfl rfl (by simpa using hs) (fun y hy=>by cases hy) (by simp;omega)
  simp only[List.append_nil]at q1 q3
  obtain⟨y,y1,y2,y3⟩:=ss0 l hll v (u++[c]) w' (i+1) (by simpa using hl) (by simp;omega) (q1.trans (List.Perm.append_right [c] hw)) q2
  refine⟨y,y1,y2,?_⟩
  rw[Z9A,Z5L,ltT (by omega),cond_true,Z5L,q3]
  exact y3
theorem ZFf (x:List Rw) (hx:x.length≤1099511627770):∃y,y.Perm x∧Srt y∧callI tE Z6r [.sl (x.map Rw.e)]=some [.sl (y.map Rw.e)]∧callI tE Z6W [.sl (x.map Rw.e)]=some [.sl (y.map Rw.e)]:=by
 obtain⟨y,y1,y2,y3⟩:=ZGY x (by omega)
 obtain⟨z,z1,z2,z3⟩:=ss0 x hx x [] [] 0 rfl rfl (List.Perm.refl _) List.Pairwise.nil
 have:z=y:=Z7x (z1.trans y1.symm) z2 y2
 subst this
 refine⟨z,y1,y2,y3,?_⟩
 rw[ZCW]
 exact z3
def ins (c:Rw):List Rw→List Rw
 |[]=>[c]
 |d::l=>if Rw.lt c d then c::d::l else d::ins c l
def ZAN:List Rw→List Rw
 |[]=>[]
 |c::l=>ins c (ZAN l)
theorem ZE0 (c:Rw):∀l,(ins c l).Perm (c::l)
 |[]=>List.Perm.refl _
 |d::l=>by
  unfold ins
  split
  ·exact List.Perm.refl _
  ·exact((ZE0 c l).cons d).trans (List.Perm.swap c d l)
theorem ZGZ (c:Rw):∀{l:List Rw},Srt l→Srt (ins c l)
 |[],_=>List.pairwise_singleton _ _
 |d::l,h=>by
  unfold ins
  obtain⟨h1,h2⟩:=List.pairwise_cons.mp h
  split
  ·rename_i hc
   refine List.pairwise_cons.mpr ⟨fun y hy=>?_,h⟩
   rcases List.mem_cons.mp hy with rfl|hy
   ·exact Rw.lt_le hc
   ·exact Rw.le_tr (Rw.lt_le hc) (h1 y hy)
  ·rename_i hc
   refine List.pairwise_cons.mpr ⟨fun y hy=>?_,ZGZ c h2⟩
   rcases List.mem_cons.mp ((ZE0 c l).mem_iff.mp hy)with rfl|hy
   ·exact hc
   ·exact h1 y hy
theorem Z7V:∀l,(ZAN l).Perm l
 |[]=>List.Perm.refl _
 |c::l=>(ZE0 c _).trans ((Z7V l).cons c)
theorem ZAA:∀l,Srt (ZAN l)
 |[]=>List.Pairwise.nil
 |c::l=>ZGZ c (ZAA l)
theorem ZI1 (x:List Rw) (hx:x.length≤1099511627770):callI tE Z6r [.sl (x.map Rw.e)]=some [.sl ((ZAN x).map Rw.e)]:=by
 obtain⟨y,y1,y2,y3,_⟩:=ZFf x hx
 rw[y3,Z7x (y1.trans (Z7V x).symm) y2 (ZAA x)]
theorem ZI2 (x:List Rw) (hx:x.length≤1099511627770):callI tE Z6W [.sl (x.map Rw.e)]=some [.sl ((ZAN x).map Rw.e)]:=by
 obtain⟨y,y1,y2,_,y3⟩:=ZFf x hx
 rw[y3,Z7x (y1.trans (Z7V x).symm) y2 (ZAA x)]
theorem Z87 (l:List Rw):(ZAN l).length=l.length:=(Z7V l).length_eq
theorem ZHc (l:List Rw) (n:Nat):List.take (tn ((n:Int)-0)) (List.drop (tn 0) (l.map Rw.e))=(l.take n).map Rw.e:=by
 show List.take ((n:Int)-0).toNat (List.drop 0 (l.map Rw.e))=_
 rw[show((n:Int)-0).toNat=n by omega,List.drop_zero,List.map_take]
theorem ZBW {α:Type} {l:List α} {n:Nat} (h:n<l.length):∃u a v,l=u++a::v∧u.length=n:=
 ⟨l.take n,l[n],l.drop (n+1),by
  have:=List.take_append_drop n l
  rw[List.drop_eq_getElem_cons h]at this
  exact this.symm,by simp;omega⟩
theorem ZIf {α:Type} (u v:List α) (a d:α):(u++a::v).getD u.length d=a:=by simp[List.getD_eq_getElem?_getD]
theorem ZE1 (r:Rw) (p:List Rw):List.take (tn (lenI ((r::p).map Rw.e)-1)) (List.drop (tn 1) ((r::p).map Rw.e))=p.map Rw.e:=by
 rw[Z5L]
 show List.take ((((r::p).length:Nat):Int)-1).toNat (List.drop 1 (Rw.e r::p.map Rw.e))=_
 simp[List.take_of_length_le]
theorem Z8W {l:List (List Rw)} {a:List Rw} (h:a∈l):a.length≤szL List.length l:=ZG9 h
theorem ZDg (l:List (List Rw)) (a:List Rw):List.append (l.map rsE) [[Dat.sl (a.map Rw.e)]]=(l++[a]).map rsE:=by simp[rsE]
def Xc.B (x:Xc):Prop:=x.sz≤1073741824
theorem Xc.B.p {x:Xc} (h:x.B):szL List.length x.pend≤1073741824∧szL List.length x.que≤1073741824∧szL List.length x.got≤1073741824:=by
 simp only[Xc.B,Xc.sz]at h;omega
theorem ZGa (l:List (List Rw)) (h:szL List.length l≤1073741824):callI tE Z7I [.sl (l.map rsE)]=some [.sl (l.flatten.map Rw.e)]:=by
 have hl:=Z7l List.length l
 have hfl:∀m:List (List Rw),m.flatten.length≤szL List.length m:=fun m=>by
  induction m with
  |nil=>simp
  |cons a m ih=>simp only[List.flatten_cons,List.length_append,szL];omega
 rw[ZD7]
 have:=Z6i (l:=l) (L:=fun(s:List Rw) i=>Z6T (l.map rsE) (lenI (l.map rsE)) i (s.map Rw.e)) (F:=fun _ _=>some [.sl (l.flatten.map Rw.e)]) (I:=fun s u _=>s=u.flatten) (by omega) (fun u a v s e hI=>by
  have h1:=hfl (u++[a])
  have h2:szL List.length (u++[a])≤szL List.length l:=by have:=ZCg List.length (u++[a]) v;rw[e,show u++a::v=(u++[a])++v by simp,this];omega
  refine .inl ⟨(u++[a]).flatten,?_,rfl,rfl⟩
  show Z6T _ _ _ _=Z6T _ _ _ _
  subst e
  rw[Z9G,hI]
  simp only[ZEF,ZEP,Z8q,ZDt,cond_true,rsE,gA,Z5o,ZAo]
  have h3:(u++[a]).flatten.length=u.flatten.length+a.length:=by rw[List.flatten_append,List.length_append];simp
  rw[show fitM (u.flatten.length+a.length) 24=true from Z9X (by omega)]
  simp) (fun s hs=>by
  show Z6T _ _ _ _=_
  rw[Z9G,ZDu,cond_false,hs]) [] rfl
 exact this
def Xc.B2 (x:Xc):Prop:=x.sz≤1073741800
theorem Xc.B2.b {x:Xc} (h:x.B2):x.B:=by simp only[Xc.B2,Xc.B]at*;omega
theorem ZGb {i:Int} {n:Nat} (hn:n≤1073741824):win i 0 (w64 ((n:Int)-1))=decide (0≤i∧i<n):=by
 rw[Z5a ⟨by omega,by omega⟩,Bool.eq_iff_iff,Z8c,decide_eq_true_eq]
 constructor<;>(intro h;omega)
theorem ZBr (r:Rw) (p:List Rw):at' ((r::p).map Rw.e) (tn 0)=r.e:=rfl
theorem ZIJ (r:Rw) (p:List Rw):inR 0 (lenI ((r::p).map Rw.e))=true:=by rw[Z5L];exact ZCF (by omega) (by(first|omega|(simp only[List.length_append,List.length_cons,List.length_nil,List.length_map,List.length_take,List.length_drop,List.length_replicate,Z7w]at* <;>omega)))
theorem ZJ4 (r:Rw) (p:List Rw):leI 1 (lenI ((r::p).map Rw.e))=true:=by rw[Z5L];exact leT (by(first|omega|(simp only[List.length_append,List.length_cons,List.length_nil,List.length_map,List.length_take,List.length_drop,List.length_replicate,Z7w]at* <;>omega)))
theorem ZIK (r:Rw) (p:List Rw):eqI (lenI ((r::p).map Rw.e)) 0=false:=by rw[Z5L];exact eqF (by(first|omega|(simp only[List.length_append,List.length_cons,List.length_nil,List.length_map,List.length_take,List.length_drop,List.length_replicate,Z7w]at* <;>omega)))
theorem ZI3 (q:List Rw) (r:Rw):List.append (q.map Rw.e) [[Dat.int r.k,.int r.v,.int r.w]]=(q++[r]).map Rw.e:=by simp[Rw.e]
def isS:List Rw→Bool
 |[]=>true
 |a::l=>(match l with
  |[]=>true
  |b::_=> !decide (Rw.lt b a))&&isS l
end Go.Proofs.YtnihikajdbcoaaaGreat.Vai
