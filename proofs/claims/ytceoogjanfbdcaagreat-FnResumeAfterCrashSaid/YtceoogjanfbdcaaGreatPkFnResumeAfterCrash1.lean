/- What the law of this claim leans on; no condition. -/
import Derived.Test.YtceoogjanfbdcaaGreatEnv
import Derived.Test.YtceoogjanfbdcaaGreatVaiD
namespace Go.Proofs.YtceoogjanfbdcaaGreat.Vai
open Go
set_option linter.unusedSimpArgs false
set_option linter.unusedVariables false
set_option linter.unnecessarySimpa false
abbrev Rows:=List (List Dat)
abbrev ZFc:FuncId:=13
abbrev ZA1:FuncId:=59
abbrev Z7u:FuncId:=152
abbrev Z6H:FuncId:=76
abbrev Z64:FuncId:=62
abbrev ZAy:FuncId:=151
abbrev Z7v:FuncId:=75
abbrev Z7w:FuncId:=77
abbrev ZBv:FuncId:=135
abbrev ZBX:FuncId:=60
abbrev Z6p:FuncId:=61
abbrev Z6u:FuncId:=14
abbrev Z7q:FuncId:=80
abbrev Z6S:FuncId:=65
abbrev Z76:FuncId:=224
abbrev Z9K:FuncId:=177
abbrev Z60:FuncId:=99
abbrev Z5O:FuncId:=211
abbrev Z87:FuncId:=196
abbrev Z8w:FuncId:=197
abbrev Z77:FuncId:=120
abbrev ZA2:FuncId:=227
abbrev Z5R:FuncId:=179
abbrev Z8U:FuncId:=171
abbrev Z7x:FuncId:=170
abbrev ZAz:FuncId:=172
abbrev Z8M:FuncId:=173
abbrev Z74:FuncId:=136
abbrev Z5d:FuncId:=241
abbrev Z5k:FuncId:=270
abbrev Z6A:FuncId:=258
abbrev Za:FuncId:=242
abbrev Z6B:FuncId:=226
abbrev Z78:FuncId:=178
abbrev Z79:FuncId:=101
abbrev Z88:FuncId:=174
abbrev Z7h:FuncId:=175
abbrev Z7I:FuncId:=176
abbrev Z5t:FuncId:=98
abbrev Z8r:FuncId:=100
abbrev Z6s:FuncId:=30
abbrev Z8Z:FuncId:=158
abbrev Z8D:FuncId:=209
abbrev Z5Z:FuncId:=139
abbrev ZAF:FuncId:=225
abbrev Z7A:FuncId:=159
abbrev Z7i:FuncId:=90
abbrev Z8a:FuncId:=160
abbrev Z7y:FuncId:=89
abbrev Z70:FuncId:=26
abbrev Z92:FuncId:=63
abbrev Z9v:FuncId:=137
abbrev Z89:FuncId:=64
abbrev Z7j:FuncId:=140
abbrev Z6I:FuncId:=155
abbrev Z6q:FuncId:=239
abbrev Z9L:FuncId:=208
abbrev Z7J:FuncId:=138
abbrev Z7z:FuncId:=66
abbrev Z93:FuncId:=240
abbrev Z9M:FuncId:=210
abbrev Z66:FuncId:=212
abbrev Z67:FuncId:=213
abbrev Z7r:FuncId:=214
abbrev Z5a:FuncId:=215
abbrev Z8b:FuncId:=141
abbrev Z7K:FuncId:=67
abbrev Z7d:FuncId:=15
abbrev Z6v:FuncId:=71
abbrev Z7k:FuncId:=169
abbrev Z5l:FuncId:=96
abbrev Z94:FuncId:=69
abbrev Z8A:FuncId:=70
abbrev Z5N:FuncId:=217
abbrev Z8c:FuncId:=218
abbrev Z8d:FuncId:=143
abbrev Z5W:FuncId:=162
abbrev ZAV:FuncId:=216
abbrev Z7L:FuncId:=142
abbrev Z80:FuncId:=72
abbrev Z5j:FuncId:=84
abbrev Z6J:FuncId:=21
abbrev Z81:FuncId:=83
abbrev Z6T:FuncId:=150
abbrev Z5r:FuncId:=147
abbrev Z6b:FuncId:=195
abbrev Z7B:FuncId:=119
abbrev Z8V:FuncId:=165
abbrev Z82:FuncId:=164
abbrev Z6t:FuncId:=166
abbrev Z6w:FuncId:=167
abbrev Z7M:FuncId:=168
abbrev Z6C:FuncId:=95
abbrev Z8s:FuncId:=97
abbrev Z7l:FuncId:=29
abbrev Z8B:FuncId:=220
abbrev Z5s:FuncId:=145
abbrev Z8e:FuncId:=219
abbrev Z6g:FuncId:=144
abbrev Z6U:FuncId:=73
abbrev Z9w:FuncId:=221
abbrev ZB9:FuncId:=146
abbrev Z8f:FuncId:=222
abbrev ZBA:FuncId:=223
abbrev ZAW:FuncId:=148
abbrev Z6R:FuncId:=149
abbrev Z8g:FuncId:=74
abbrev Z6K:FuncId:=16
abbrev ZAe:FuncId:=78
abbrev Z8W:FuncId:=17
abbrev Z9B:FuncId:=86
abbrev ZAf:FuncId:=157
abbrev Z7H:FuncId:=88
abbrev Z95:FuncId:=156
abbrev Z9N:FuncId:=87
abbrev Z8F:FuncId:=25
abbrev Z9h:FuncId:=79
abbrev Z8h:FuncId:=18
abbrev Z7N:FuncId:=92
abbrev ZAg:FuncId:=163
abbrev Z65:FuncId:=94
abbrev Z8N:FuncId:=93
abbrev Z8G:FuncId:=28
abbrev Z9i:FuncId:=82
abbrev Z8i:FuncId:=19
abbrev Z7m:FuncId:=20
abbrev ZAh:FuncId:=22
abbrev ZER:FuncId:=23
abbrev Z7e:FuncId:=3
abbrev Z8X:FuncId:=68
abbrev ZAi:FuncId:=81
abbrev Z6Y:FuncId:=153
abbrev Z6D:FuncId:=154
set_option maxRecDepth 100000
theorem ZIL (a0:Rows):callI tE ZFc [.sl a0]=(some [(.bool (ltI 1048576 (lenI a0)))]):=(callI_run rfl (by kernel_rfl)).trans (by kernel_rfl)
noncomputable def Z9x (x0:Rows) (x1 x2:Int):Option (List Dat):=loopK tE ZA1 0 ⟨[(0,(.ro 5 Bool.false x0)),(3,(.i .i64 x1)),(4,(.i .i64 x2))],[]⟩
theorem ZBF (x0:Rows) (x1 x2:Int):Z9x x0 x1 x2=(bif(ltI x2 (lenI x0))then(bif(ltI x2 4000)then(bif(inR x2 (lenI x0))then(Z9x x0 (Go.bits Go.BinOp.and .i64 (w64 ((w64 ((w64 (x1*131))+(w64 (gn (at' x0 (tn x2))))))+7)) 1073741823) (w64 (x2+1)))else none)else(some [(.sl x0),(.int 0),(.int x1)]))else(some [(.sl x0),(.int 0),(.int x1)])):=(loopK_run (by kernel_rfl)).trans (by kernel_rfl)
theorem ZGT (a0:Rows):callI tE ZA1 [.sl a0]=(Z9x a0 (w64 (10101+(lenI a0))) 0):=(callI_run rfl (by kernel_rfl)).trans (by kernel_rfl)
theorem ZFx (a0:Rows) (a1 a2:Int):callI tE Z7u [.sl a0,.int a1,.int a2]=(bif(ltI a1 (lenI a0))then(bif(inR a1 (lenI a0))then(some [(.int (Go.bits Go.BinOp.and .i64 (w64 ((Go.bits Go.BinOp.and .i64 (Go.bits Go.BinOp.xor .i64 ((w64 ((w64 (a2*6364136223846793005))+1442695040888963407))/(Int.pow 2 (ite ((tn 33)≤(Go.IntKind.bits .i64)) (tn 33) 64))) ((w64 ((w64 (a2*6364136223846793005))+1442695040888963407))/(Int.pow 2 (ite ((tn 45)≤(Go.IntKind.bits .i64)) (tn 45) 64)))) 255)+(w64 (gn (at' a0 (tn a1)))))) 255)),(.sl a0),(.int (w64 (a1+1))),(.int (w64 ((w64 (a2*6364136223846793005))+1442695040888963407)))])else none)else(some [(.int (Go.bits Go.BinOp.and .i64 (Go.bits Go.BinOp.xor .i64 ((w64 ((w64 (a2*6364136223846793005))+1442695040888963407))/(Int.pow 2 (ite ((tn 33)≤(Go.IntKind.bits .i64)) (tn 33) 64))) ((w64 ((w64 (a2*6364136223846793005))+1442695040888963407))/(Int.pow 2 (ite ((tn 45)≤(Go.IntKind.bits .i64)) (tn 45) 64)))) 255)),(.sl a0),(.int a1),(.int (w64 ((w64 (a2*6364136223846793005))+1442695040888963407)))])):=(callI_run rfl (by kernel_rfl)).trans (by kernel_rfl)
theorem ZFQ (a0:Rows) (a1 a2 a3:Int):callI tE Z6H [.sl a0,.int a1,.int a2,.int a3]=(bif(leI a3 0)then(some [(.int 0),(.sl a0),(.int a1),(.int a2)])else(bif(leI a3 256)then(((callI tE Z7u [(.sl a0),(.int a1),(.int a2)])).bind (fun r0=>(bif(!(eqI a3 0))then(some [(.int (Int.tmod (gn r0) a3)),(.sl (gl (List.drop 1 r0))),(.int (gn (tk 1 (List.drop 1 r0)))),(.int (gn (tk 2 (List.drop 1 r0))))])else none)))else(((callI tE Z7u [(.sl a0),(.int a1),(.int a2)])).bind (fun r0=>(((callI tE Z7u [(.sl (gl (List.drop 1 r0))),(.int (gn (tk 1 (List.drop 1 r0)))),(.int (gn (tk 2 (List.drop 1 r0))))])).bind (fun r1=>(((callI tE Z7u [(.sl (gl (List.drop 1 r1))),(.int (gn (tk 1 (List.drop 1 r1)))),(.int (gn (tk 2 (List.drop 1 r1))))])).bind (fun r2=>(((callI tE Z7u [(.sl (gl (List.drop 1 r2))),(.int (gn (tk 1 (List.drop 1 r2)))),(.int (gn (tk 2 (List.drop 1 r2))))])).bind (fun r3=>(bif(!(eqI a3 0))then(some [(.int (Int.tmod (w64 ((w64 ((w64 ((w64 ((gn r0)*16777216))+(w64 ((gn r1)*65536))))+(w64 ((gn r2)*256))))+(gn r3))) a3)),(.sl (gl (List.drop 1 r3))),(.int (gn (tk 1 (List.drop 1 r3)))),(.int (gn (tk 2 (List.drop 1 r3))))])else none))))))))))):=(callI_run rfl (by kernel_rfl)).trans (by kernel_rfl)
theorem ZDx (a0:Rows) (a1 a2:Int) (a3:Rows):callI tE Z64 [.sl a0,.int a1,.int a2,.sl a3]=(((callI tE Z6H [(.sl a0),(.int a1),(.int a2),(.int (lenI a3))])).bind (fun r0=>(bif(inR (gn r0) (lenI a3))then(some [(.int (gn (at' a3 (tn (gn r0))))),(.sl (gl (List.drop 1 r0))),(.int (gn (tk 1 (List.drop 1 r0)))),(.int (gn (tk 2 (List.drop 1 r0))))])else none))):=(callI_run rfl (by kernel_rfl)).trans (by kernel_rfl)
theorem ZGU (a0:Rows) (a1 a2 a3:Int):callI tE ZAy [.sl a0,.int a1,.int a2,.int a3]=(((callI tE Z6H [(.sl a0),(.int a1),(.int a2),(.int a3)])).bind (fun r0=>(((callI tE Z6H [(.sl (gl (List.drop 1 r0))),(.int (gn (tk 1 (List.drop 1 r0)))),(.int (gn (tk 2 (List.drop 1 r0)))),(.int 100)])).bind (fun r1=>(((callI tE Z64 [(.sl (gl (List.drop 1 r1))),(.int (gn (tk 1 (List.drop 1 r1)))),(.int (gn (tk 2 (List.drop 1 r1)))),(.sl [[(.int 0)],[(.int 0)],[(.int 1)],[(.int 2)],[(.int 3)]])])).bind (fun r2=>(some [(.int (gn r0)),(.int (gn r1)),(.int (gn r2)),(.sl (gl (List.drop 1 r2))),(.int (gn (tk 1 (List.drop 1 r2)))),(.int (gn (tk 2 (List.drop 1 r2))))]))))))):=(callI_run rfl (by kernel_rfl)).trans (by kernel_rfl)
noncomputable def Z9O (x0 x1 x2:Int) (x3:Rows) (x4 x5:Int) (x6:Rows):Option (List Dat):=loopK tE Z7v 0 ⟨[(0,(.ptr (1000000,0) x0 0)),(5,(.own (500001,0))),(6,(.i .i64 x1)),(7,(.i .i64 x2))],[((1000000,0),(.box 158 [(.ro 5 Bool.false x3),(.i .i64 x4),(.i .i64 x5)])),((500001,0),(.row 105 x6 Bool.true 0 []))]⟩
theorem ZB0 (x0 x1 x2:Int) (x3:Rows) (x4 x5:Int) (x6:Rows):Z9O x0 x1 x2 x3 x4 x5 x6=(bif(ltI 0 x2)then(((callI tE ZAy [(.sl x3),(.int x4),(.int x5),(.int x1)])).bind (fun r0=>(bif(fitM (Nat.succ (len x6)) 24)then(Z9O x0 x1 (w64 (x2-1)) (gl (List.drop 3 r0)) (gn (tk 1 (List.drop 3 r0))) (gn (tk 2 (List.drop 3 r0))) (List.append x6 [[(.int (gn r0)),(.int (gn (tk 1 r0))),(.int (gn (tk 2 r0)))]]))else none)))else(some [(.sl x6),(.sl x3),(.int x4),(.int x5)])):=(loopK_run (by kernel_rfl)).trans (by kernel_rfl)
theorem ZFy (a0:Rows) (a1 a2 a3:Int):callI tE Z7v [.sl a0,.int a1,.int a2,.int a3]=(((callI tE Z64 [(.sl a0),(.int a1),(.int a2),(.sl [[(.int 1)],[(.int 2)],[(.int 4)],[(.int 10)]])])).bind (fun r0=>(((callI tE Z6H [(.sl (gl (List.drop 1 r0))),(.int (gn (tk 1 (List.drop 1 r0)))),(.int (gn (tk 2 (List.drop 1 r0)))),(.int (w64 (a3+1)))])).bind (fun r1=>(Z9O 0 (gn r0) (gn r1) (gl (List.drop 1 r1)) (gn (tk 1 (List.drop 1 r1))) (gn (tk 2 (List.drop 1 r1))) []))))):=(callI_run rfl (by kernel_rfl)).trans (by kernel_rfl)
theorem ZFz (a0:Rows) (a1 a2 a3:Int):callI tE Z7w [.sl a0,.int a1,.int a2,.int a3]=(((callI tE Z6H [(.sl a0),(.int a1),(.int a2),(.int a3)])).bind (fun r0=>(some [(.bool (eqI (gn r0) 0)),(.sl (gl (List.drop 1 r0))),(.int (gn (tk 1 (List.drop 1 r0)))),(.int (gn (tk 2 (List.drop 1 r0))))]))):=(callI_run rfl (by kernel_rfl)).trans (by kernel_rfl)
theorem ZGV (a0:Rows) (a1 a2:Int):callI tE ZBv [.sl a0,.int a1,.int a2]=(((callI tE ZAy [(.sl a0),(.int a1),(.int a2),(.int 10)])).bind (fun r0=>(((callI tE Z6H [(.sl (gl (List.drop 3 r0))),(.int (gn (tk 1 (List.drop 3 r0)))),(.int (gn (tk 2 (List.drop 3 r0)))),(.int 8)])).bind (fun r1=>(bif(eqI (gn r1) 0)then(((callI tE Z64 [(.sl (gl (List.drop 1 r1))),(.int (gn (tk 1 (List.drop 1 r1)))),(.int (gn (tk 2 (List.drop 1 r1)))),(.sl [[(.int (-1))],[(.int 10)]])])).bind (fun r2=>(some [(.int (gn r2)),(.int (gn (tk 1 r0))),(.int (gn (tk 2 r0))),(.sl (gl (List.drop 1 r2))),(.int (gn (tk 1 (List.drop 1 r2)))),(.int (gn (tk 2 (List.drop 1 r2))))])))else(bif(eqI (gn r1) 1)then(((callI tE Z64 [(.sl (gl (List.drop 1 r1))),(.int (gn (tk 1 (List.drop 1 r1)))),(.int (gn (tk 2 (List.drop 1 r1)))),(.sl [[(.int (-1))],[(.int 100)],[(.int 99)]])])).bind (fun r2=>(some [(.int (gn r0)),(.int (gn r2)),(.int (gn (tk 2 r0))),(.sl (gl (List.drop 1 r2))),(.int (gn (tk 1 (List.drop 1 r2)))),(.int (gn (tk 2 (List.drop 1 r2))))])))else(bif(eqI (gn r1) 2)then(((callI tE Z64 [(.sl (gl (List.drop 1 r1))),(.int (gn (tk 1 (List.drop 1 r1)))),(.int (gn (tk 2 (List.drop 1 r1)))),(.sl [[(.int (-1))],[(.int 4)]])])).bind (fun r2=>(some [(.int (gn r0)),(.int (gn (tk 1 r0))),(.int (gn r2)),(.sl (gl (List.drop 1 r2))),(.int (gn (tk 1 (List.drop 1 r2)))),(.int (gn (tk 2 (List.drop 1 r2))))])))else(some [(.int (gn r0)),(.int (gn (tk 1 r0))),(.int (gn (tk 2 r0))),(.sl (gl (List.drop 1 r1))),(.int (gn (tk 1 (List.drop 1 r1)))),(.int (gn (tk 2 (List.drop 1 r1))))])))))))):=(callI_run rfl (by kernel_rfl)).trans (by kernel_rfl)
theorem ZG0 (a0:Rows) (a1 a2 a3:Int):callI tE ZBX [.sl a0,.int a1,.int a2,.int a3]=(((callI tE Z7v [(.sl a0),(.int a1),(.int a2),(.int a3)])).bind (fun r0=>(((callI tE Z7w [(.sl (gl (List.drop 1 r0))),(.int (gn (tk 1 (List.drop 1 r0)))),(.int (gn (tk 2 (List.drop 1 r0)))),(.int 14)])).bind (fun r1=>(bif(gb r1)then(((callI tE ZBv [(.sl (gl (List.drop 1 r1))),(.int (gn (tk 1 (List.drop 1 r1)))),(.int (gn (tk 2 (List.drop 1 r1))))])).bind (fun r2=>(bif(fitM (Nat.succ (len (gl r0))) 24)then(some [(.sl (List.append (gl r0) [[(.int (gn r2)),(.int (gn (tk 1 r2))),(.int (gn (tk 2 r2)))]])),(.sl (gl (List.drop 3 r2))),(.int (gn (tk 1 (List.drop 3 r2)))),(.int (gn (tk 2 (List.drop 3 r2))))])else none)))else(some [(.sl (gl r0)),(.sl (gl (List.drop 1 r1))),(.int (gn (tk 1 (List.drop 1 r1)))),(.int (gn (tk 2 (List.drop 1 r1))))])))))):=(callI_run rfl (by kernel_rfl)).trans (by kernel_rfl)
noncomputable def Z96 (x0 x1:Int) (x2:Rows) (x3 x4:Int) (x5:Rows):Option (List Dat):=loopK tE Z6p 0 ⟨[(0,(.ptr (1000000,0) x0 0)),(3,(.own (500001,0))),(4,(.i .i64 x1))],[((1000000,0),(.box 158 [(.ro 5 Bool.false x2),(.i .i64 x3),(.i .i64 x4)])),((500001,0),(.row 3 x5 Bool.true 0 []))]⟩
theorem ZAj (x0 x1:Int) (x2:Rows) (x3 x4:Int) (x5:Rows):Z96 x0 x1 x2 x3 x4 x5=(bif(ltI 0 x1)then(((callI tE Z64 [(.sl x2),(.int x3),(.int x4),(.sl [[(.int 0)],[(.int 0)],[(.int 1)],[(.int 4)],[(.int 12)],[(.int 40)]])])).bind (fun r0=>(bif(fitM (Nat.succ (len x5)) 8)then(Z96 x0 (w64 (x1-1)) (gl (List.drop 1 r0)) (gn (tk 1 (List.drop 1 r0))) (gn (tk 2 (List.drop 1 r0))) (List.append x5 [[(.int (w64 (8+(gn r0))))]]))else none)))else(((callI tE Z7w [(.sl x2),(.int x3),(.int x4),(.int 14)])).bind (fun r0=>(bif(gb r0)then(((callI tE Z64 [(.sl (gl (List.drop 1 r0))),(.int (gn (tk 1 (List.drop 1 r0)))),(.int (gn (tk 2 (List.drop 1 r0)))),(.sl [[(.int 7)],[(.int 61)]])])).bind (fun r1=>(bif(inR 0 (lenI x5))then(some [(.sl (updR x5 (tn 0) 0 [(.int (gn r1))])),(.sl (gl (List.drop 1 r1))),(.int (gn (tk 1 (List.drop 1 r1)))),(.int (gn (tk 2 (List.drop 1 r1))))])else none)))else(some [(.sl x5),(.sl (gl (List.drop 1 r0))),(.int (gn (tk 1 (List.drop 1 r0)))),(.int (gn (tk 2 (List.drop 1 r0))))]))))):=(loopK_run (by kernel_rfl)).trans (by kernel_rfl)
theorem ZFR (a0:Rows) (a1 a2:Int):callI tE Z6p [.sl a0,.int a1,.int a2]=(((callI tE Z6H [(.sl a0),(.int a1),(.int a2),(.int 4)])).bind (fun r0=>(Z96 0 (w64 (1+(gn r0))) (gl (List.drop 1 r0)) (gn (tk 1 (List.drop 1 r0))) (gn (tk 2 (List.drop 1 r0))) []))):=(callI_run rfl (by kernel_rfl)).trans (by kernel_rfl)
theorem ZAG (a0:Rows):callI tE Z6u [.sl a0]=(((callI tE ZA1 [(.sl a0)])).bind (fun r0=>(((callI tE ZBX [(.sl (gl r0)),(.int (gn (tk 1 r0))),(.int (gn (tk 2 r0))),(.int 7)])).bind (fun r1=>(((callI tE Z6p [(.sl (gl (List.drop 1 r1))),(.int (gn (tk 1 (List.drop 1 r1)))),(.int (gn (tk 2 (List.drop 1 r1))))])).bind (fun r2=>(((callI tE Z64 [(.sl (gl (List.drop 1 r2))),(.int (gn (tk 1 (List.drop 1 r2)))),(.int (gn (tk 2 (List.drop 1 r2)))),(.sl [[(.int 1)],[(.int 2)],[(.int 5)],[(.int 10)],[(.int 100)],[(.int 0)],[(.int 101)]])])).bind (fun r3=>(some [(.sl (gl r1)),(.sl (gl r2)),(.int (gn r3))]))))))))):=(callI_run rfl (by kernel_rfl)).trans (by kernel_rfl)
theorem ZBw (a0:Rows):callI tE Z8W [.sl a0]=(((callI tE ZA1 [(.sl a0)])).bind (fun r0=>(((callI tE Z7v [(.sl (gl r0)),(.int (gn (tk 1 r0))),(.int (gn (tk 2 r0))),(.int 6)])).bind (fun r1=>(((callI tE Z6p [(.sl (gl (List.drop 1 r1))),(.int (gn (tk 1 (List.drop 1 r1)))),(.int (gn (tk 2 (List.drop 1 r1))))])).bind (fun r2=>(((callI tE Z6H [(.sl (gl (List.drop 1 r2))),(.int (gn (tk 1 (List.drop 1 r2)))),(.int (gn (tk 2 (List.drop 1 r2)))),(.int 9)])).bind (fun r3=>(((callI tE Z6K [(.sl (gl r1)),(.sl (gl r2)),(.int (w64 (1+(gn r3))))])).bind (fun r4=>(((callI tE Z7w [(.sl (gl (List.drop 1 r3))),(.int (gn (tk 1 (List.drop 1 r3)))),(.int (gn (tk 2 (List.drop 1 r3)))),(.int 4)])).bind (fun r5=>(bif(!(gb r5))then(((callI tE Z6H [(.sl (gl (List.drop 1 r5))),(.int (gn (tk 1 (List.drop 1 r5)))),(.int (gn (tk 2 (List.drop 1 r5)))),(.int (w64 ((szI (gs r4))+1)))])).bind (fun r6=>(((callI tE ZAe [(.str (gs r4)),(.int (gn r6))])).bind (fun r7=>(((callI tE Z7w [(.sl (gl (List.drop 1 r6))),(.int (gn (tk 1 (List.drop 1 r6)))),(.int (gn (tk 2 (List.drop 1 r6)))),(.int 10)])).bind (fun r8=>(bif(gb r8)then(((callI tE Z7v [(.sl (gl (List.drop 1 r8))),(.int (gn (tk 1 (List.drop 1 r8)))),(.int (gn (tk 2 (List.drop 1 r8)))),(.int 4)])).bind (fun r9=>(((callI tE Z6p [(.sl (gl (List.drop 1 r9))),(.int (gn (tk 1 (List.drop 1 r9)))),(.int (gn (tk 2 (List.drop 1 r9))))])).bind (fun r10=>(some [(.str (gs r7)),(.sl (gl r9)),(.sl (gl r10))])))))else(((callI tE Z6p [(.sl (gl (List.drop 1 r8))),(.int (gn (tk 1 (List.drop 1 r8)))),(.int (gn (tk 2 (List.drop 1 r8))))])).bind (fun r9=>(some [(.str (gs r7)),(.sl (gl r1)),(.sl (gl r9))]))))))))))else(((callI tE Z7w [(.sl (gl (List.drop 1 r5))),(.int (gn (tk 1 (List.drop 1 r5)))),(.int (gn (tk 2 (List.drop 1 r5)))),(.int 10)])).bind (fun r6=>(bif(gb r6)then(((callI tE Z7v [(.sl (gl (List.drop 1 r6))),(.int (gn (tk 1 (List.drop 1 r6)))),(.int (gn (tk 2 (List.drop 1 r6)))),(.int 4)])).bind (fun r7=>(((callI tE Z6p [(.sl (gl (List.drop 1 r7))),(.int (gn (tk 1 (List.drop 1 r7)))),(.int (gn (tk 2 (List.drop 1 r7))))])).bind (fun r8=>(some [(.str (gs r4)),(.sl (gl r7)),(.sl (gl r8))])))))else(((callI tE Z6p [(.sl (gl (List.drop 1 r6))),(.int (gn (tk 1 (List.drop 1 r6)))),(.int (gn (tk 2 (List.drop 1 r6))))])).bind (fun r7=>(some [(.str (gs r4)),(.sl (gl r1)),(.sl (gl r7))]))))))))))))))))))):=(callI_run rfl (by kernel_rfl)).trans (by kernel_rfl)
noncomputable def Z8j (x0 x1:Rows) (x2:Int):Option (List Dat):=loopK tE Z7m 0 ⟨[(0,(.ro 105 Bool.false x0)),(1,(.ro 105 Bool.false x1)),(5,(.i .i64 x2))],[]⟩
theorem ZAN (x0 x1:Rows) (x2:Int):Z8j x0 x1 x2=(bif(ltI x2 (lenI x0))then(bif(inR x2 (lenI x0))then(bif(inR x2 (lenI x1))then(bif(!((eqI (gn (at' x0 (tn x2))) (gn (at' x1 (tn x2))))&&((eqI (gn (tk 1 (at' x0 (tn x2)))) (gn (tk 1 (at' x1 (tn x2)))))&&((eqI (gn (tk 2 (at' x0 (tn x2)))) (gn (tk 2 (at' x1 (tn x2)))))&&Bool.true))))then(some [(.bool Bool.false)])else(Z8j x0 x1 (w64 (x2+1))))else none)else none)else(some [(.bool Bool.true)])):=(loopK_run (by kernel_rfl)).trans (by kernel_rfl)
theorem ZES (a0 a1:Rows):callI tE Z7m [.sl a0,.sl a1]=(bif(!(eqI (lenI a0) (lenI a1)))then(some [(.bool Bool.false)])else(Z8j a0 a1 0)):=(callI_run rfl (by kernel_rfl)).trans (by kernel_rfl)
theorem ZIj (a0:Rows) (a1:Int):callI tE ZER [.sl a0,.int a1]=(bif(ltI a1 (lenI a0))then(bif(inR a1 (lenI a0))then(some [(.int (w64 (gn (at' a0 (tn a1)))))])else none)else(some [(.int (Int.tmod (w64 ((w64 (a1*37))+(w64 ((lenI a0)*11)))) 256))])):=(callI_run rfl (by kernel_rfl)).trans (by kernel_rfl)
noncomputable def Z9y (x0 x1:Rows) (x2 x3:Int):Option (List Dat):=loopK tE Z7q 0 ⟨[(0,(.ro 105 Bool.false x0)),(1,(.ro 105 Bool.false x1)),(12,(.i .i64 x2)),(13,(.i .i64 x3))],[]⟩
theorem ZBG (x0 x1:Rows) (x2 x3:Int):Z9y x0 x1 x2 x3=(bif(ltI x3 x2)then(bif(inR x3 (lenI x0))then(bif(inR x3 (lenI x1))then(bif(!((eqI (gn (at' x0 (tn x3))) (gn (at' x1 (tn x3))))&&((eqI (gn (tk 1 (at' x0 (tn x3)))) (gn (tk 1 (at' x1 (tn x3)))))&&((eqI (gn (tk 2 (at' x0 (tn x3)))) (gn (tk 2 (at' x1 (tn x3)))))&&Bool.true))))then(some [(.bool Bool.false)])else(Z9y x0 x1 x2 (w64 (x3+1))))else none)else none)else(some [(.bool Bool.true)])):=(loopK_run (by kernel_rfl)).trans (by kernel_rfl)
theorem ZGW (a0 a1:Rows):callI tE Z7q [.sl a0,.sl a1]=(bif(!(eqI (lenI a0) (lenI a1)))then(some [(.bool Bool.false)])else(Z9y a0 a1 (lenI a0) 0)):=(callI_run rfl (by kernel_rfl)).trans (by kernel_rfl)
theorem ZG1 (a0 a1 a2:Int):callI tE Z6S [.int a0,.int a1,.int a2]=(bif(leI a1 a0)then(some [(.bool (leI a0 a2))])else(some [(.bool Bool.false)])):=(callI_run rfl (by kernel_rfl)).trans (by kernel_rfl)
theorem ZDG (a0 a1 a2:Int):callI tE Z76 [.int a0,.int a1,.int a2]=(((callI tE Z6S [(.int a0),(.int 0),(.int 9)])).bind (fun r0=>(bif(gb r0)then(((callI tE Z6S [(.int a1),(.int 0),(.int 99)])).bind (fun r1=>(bif(gb r1)then(((callI tE Z6S [(.int a2),(.int 0),(.int 3)])).bind (fun r2=>(some [(.bool (gb r2))])))else(some [(.bool Bool.false)]))))else(some [(.bool Bool.false)])))):=(callI_run rfl (by kernel_rfl)).trans (by kernel_rfl)
noncomputable def Z8k (x0:Rows) (x1 x2:Int):Option (List Dat):=loopK tE Z9K 0 ⟨[(5,(.ro 105 Bool.false x0)),(6,(.i .i64 x1)),(7,(.i .i64 x2))],[]⟩
theorem ZAO (x0:Rows) (x1 x2:Int):Z8k x0 x1 x2=(bif(ltI x2 x1)then(bif(inR x2 (lenI x0))then(((callI tE Z76 [(.int (gn (at' x0 (tn x2)))),(.int (gn (tk 1 (at' x0 (tn x2))))),(.int (gn (tk 2 (at' x0 (tn x2)))))])).bind (fun r0=>(bif(!(gb r0))then(some [(.bool Bool.false)])else(Z8k x0 x1 (w64 (x2+1))))))else none)else(some [(.bool Bool.true)])):=(loopK_run (by kernel_rfl)).trans (by kernel_rfl)
theorem ZET (a0:Rows):callI tE Z9K [.sl a0]=(Z8k a0 (lenI a0) 0):=(callI_run rfl (by kernel_rfl)).trans (by kernel_rfl)
theorem ZCU (a0:Rows):callI tE Z60 [.sl a0]=(bif(leI (lenI a0) 24)then(((callI tE Z9K [(.sl a0)])).bind (fun r0=>(some [(.bool (gb r0))])))else(some [(.bool Bool.false)])):=(callI_run rfl (by kernel_rfl)).trans (by kernel_rfl)
theorem ZFS (a0 a1 a2:Int):callI tE Z5O [.int a0,.int a1,.int a2]=(((callI tE Z76 [(.int a0),(.int a1),(.int a2)])).bind (fun r0=>(bif(!(gb r0))then(some [(.int 0)])else(some [(.int (w64 (1+a2)))])))):=(callI_run rfl (by kernel_rfl)).trans (by kernel_rfl)
noncomputable def Z7O (x0:Int) (x1:Rows) (x2 x3:Int):Option (List Dat):=loopK tE Z87 0 ⟨[(3,(.i .i64 x0)),(6,(.ro 105 Bool.false x1)),(7,(.i .i64 x2)),(8,(.i .i64 x3))],[]⟩
theorem ZA3 (x0:Int) (x1:Rows) (x2 x3:Int):Z7O x0 x1 x2 x3=(bif(ltI x3 x2)then(bif(inR x3 (lenI x1))then(((callI tE Z5O [(.int (gn (at' x1 (tn x3)))),(.int (gn (tk 1 (at' x1 (tn x3))))),(.int (gn (tk 2 (at' x1 (tn x3)))))])).bind (fun r0=>(Z7O (w64 (x0+(gn r0))) x1 x2 (w64 (x3+1)))))else none)else(some [(.int x0)])):=(loopK_run (by kernel_rfl)).trans (by kernel_rfl)
theorem ZDy (a0:Rows):callI tE Z87 [.sl a0]=(Z7O 0 a0 (lenI a0) 0):=(callI_run rfl (by kernel_rfl)).trans (by kernel_rfl)
theorem ZGX (a0 a1:Int):callI tE ZA2 [.int a0,.int a1]=(bif(ltI a0 a1)then(some [(.int (-1))])else(bif(ltI a1 a0)then(some [(.int 1)])else(some [(.int 0)]))):=(callI_run rfl (by kernel_rfl)).trans (by kernel_rfl)
theorem ZCm (a0 a1 a2 a3 a4 a5:Int):callI tE Z5R [.int a0,.int a1,.int a2,.int a3,.int a4,.int a5]=(((callI tE ZA2 [(.int a0),(.int a3)])).bind (fun r0=>(bif(!(eqI (gn r0) 0))then(some [(.int (gn r0))])else(((callI tE ZA2 [(.int a1),(.int a4)])).bind (fun r1=>(bif(!(eqI (gn r1) 0))then(some [(.int (gn r1))])else(((callI tE ZA2 [(.int a2),(.int a5)])).bind (fun r2=>(some [(.int (gn r2))]))))))))):=(callI_run rfl (by kernel_rfl)).trans (by kernel_rfl)
noncomputable def Z8l (x0:Rows) (x1:Int):Option (List Dat):=loopK tE Z8U 0 ⟨[(0,(.ro 105 Bool.false x0)),(3,(.i .i64 x1))],[]⟩
theorem Z8t (x0:Rows) (x1:Int):Z8l x0 x1=(bif(ltI x1 (lenI x0))then(bif(inR x1 (lenI x0))then(bif(inR (w64 (x1-1)) (lenI x0))then(((callI tE Z5R [(.int (gn (at' x0 (tn x1)))),(.int (gn (tk 1 (at' x0 (tn x1))))),(.int (gn (tk 2 (at' x0 (tn x1))))),(.int (gn (at' x0 (tn (w64 (x1-1)))))),(.int (gn (tk 1 (at' x0 (tn (w64 (x1-1))))))),(.int (gn (tk 2 (at' x0 (tn (w64 (x1-1)))))))])).bind (fun r0=>(bif(ltI (gn r0) 0)then(some [(.bool Bool.false)])else(Z8l x0 (w64 (x1+1))))))else none)else none)else(some [(.bool Bool.true)])):=(loopK_run (by kernel_rfl)).trans (by kernel_rfl)
theorem ZEU (a0:Rows):callI tE Z8U [.sl a0]=(Z8l a0 1):=(callI_run rfl (by kernel_rfl)).trans (by kernel_rfl)
theorem ZGY (a0:Rows):callI tE Z74 [.sl a0]=(bif(fitM (0+(len a0)) 24)then(some [(.sl a0)])else none):=(callI_run rfl (by kernel_rfl)).trans (by kernel_rfl)
theorem ZEV (a0:Rows):callI tE Z79 [.sl a0]=(((callI tE Z74 [(.sl a0)])).bind (fun r0=>(((callI tE Z78 [(.sl (gl r0))])).bind (fun r1=>(some [(.sl (gl r1))]))))):=(callI_run rfl (by kernel_rfl)).trans (by kernel_rfl)
theorem ZDz (a0 a1:Rows):callI tE Z88 [.sl a0,.sl a1]=(bif(eqI (lenI a0) (lenI a1))then(((callI tE Z79 [(.sl a0)])).bind (fun r0=>(((callI tE Z79 [(.sl a1)])).bind (fun r1=>(((callI tE Z7q [(.sl (gl r0)),(.sl (gl r1))])).bind (fun r2=>(some [(.bool (gb r2))])))))))else(some [(.bool Bool.false)])):=(callI_run rfl (by kernel_rfl)).trans (by kernel_rfl)
noncomputable def Z6r (x0 x1:ByteArray) (x2:Rows) (x3 x4:Int):Option (List Dat):=loopK tE Z8Z 0 ⟨[(1,(.s x0)),(5,(.s x1)),(8,(.ro 9 Bool.false x2)),(9,(.i .i64 x3)),(10,(.i .i64 x4))],[]⟩
theorem ZB1 (x0 x1:ByteArray) (x2:Rows) (x3 x4:Int):Z6r x0 x1 x2 x3 x4=(bif(ltI x4 x3)then(bif(inR x4 (lenI x2))then(bif(ltI 0 x4)then(bif(fitS x1 x0)then(bif(fitS (x1++x0) (gs (at' x2 (tn x4))))then(Z6r x0 ((x1++x0)++(gs (at' x2 (tn x4)))) x2 x3 (w64 (x4+1)))else none)else none)else(bif(fitS x1 (gs (at' x2 (tn x4))))then(Z6r x0 (x1++(gs (at' x2 (tn x4)))) x2 x3 (w64 (x4+1)))else none))else none)else(some [(.str x1)])):=(loopK_run (by kernel_rfl)).trans (by kernel_rfl)
theorem ZG2 (a0:Rows) (a1:ByteArray):callI tE Z8Z [.sl a0,.str a1]=(Z6r a1 (S []) a0 (lenI a0) 0):=(callI_run rfl (by kernel_rfl)).trans (by kernel_rfl)
theorem ZCQ (a0:Int):callI tE Z8D [.int a0]=(bif(ltI a0 10)then(some [(.str (strOf [[(.int (Go.IntKind.wrap .u8 (Go.IntKind.wrap .u64 (48+a0))))]]))])else(((callI tE Z8D [(.int (Go.IntKind.wrap .u64 (Int.tdiv a0 10)))])).bind (fun r0=>(bif(fitS (gs r0) (strOf [[(.int (Go.IntKind.wrap .u8 (Go.IntKind.wrap .u64 (48+(Int.tmod a0 10)))))]]))then(some [(.str ((gs r0)++(strOf [[(.int (Go.IntKind.wrap .u8 (Go.IntKind.wrap .u64 (48+(Int.tmod a0 10)))))]])))])else none)))):=(callI_run rfl (by kernel_rfl)).trans (by kernel_rfl)
theorem ZE0 (a0:Int):callI tE Z5Z [.int a0]=(bif(ltI a0 0)then(((callI tE Z8D [(.int (Go.IntKind.wrap .u64 (0-(Go.IntKind.wrap .u64 a0))))])).bind (fun r0=>(bif(fitS (S [45]) (gs r0))then(some [(.str ((S [45])++(gs r0)))])else none)))else(((callI tE Z8D [(.int (Go.IntKind.wrap .u64 a0))])).bind (fun r0=>(some [(.str (gs r0))])))):=(callI_run rfl (by kernel_rfl)).trans (by kernel_rfl)
theorem ZE1 (a0 a1 a2:Int):callI tE ZAF [.int a0,.int a1,.int a2]=(((callI tE Z76 [(.int a0),(.int a1),(.int a2)])).bind (fun r0=>(bif(!(gb r0))then(some [(.str (S []))])else(((callI tE Z5Z [(.int a0)])).bind (fun r1=>(bif(fitS (gs r1) (S [46]))then(((callI tE Z5Z [(.int a1)])).bind (fun r2=>(bif(fitS ((gs r1)++(S [46])) (gs r2))then(bif(fitS (((gs r1)++(S [46]))++(gs r2)) (S [46]))then(((callI tE Z5Z [(.int a2)])).bind (fun r3=>(bif(fitS ((((gs r1)++(S [46]))++(gs r2))++(S [46])) (gs r3))then(some [(.str (((((gs r1)++(S [46]))++(gs r2))++(S [46]))++(gs r3)))])else none)))else none)else none)))else none)))))):=(callI_run rfl (by kernel_rfl)).trans (by kernel_rfl)
noncomputable def Z6h (x0:Rows) (x1 x2:Int) (x3:Rows):Option (List Dat):=loopK tE Z7A 0 ⟨[(3,(.own (500000,0))),(7,(.ro 105 Bool.false x0)),(8,(.i .i64 x1)),(9,(.i .i64 x2))],[((500000,0),(.row 9 x3 Bool.true 0 []))]⟩
theorem ZAP (x0:Rows) (x1 x2:Int) (x3:Rows):Z6h x0 x1 x2 x3=(bif(ltI x2 x1)then(bif(inR x2 (lenI x0))then(((callI tE ZAF [(.int (gn (at' x0 (tn x2)))),(.int (gn (tk 1 (at' x0 (tn x2))))),(.int (gn (tk 2 (at' x0 (tn x2)))))])).bind (fun r0=>(bif(fitM (Nat.succ (len x3)) 16)then(Z6h x0 x1 (w64 (x2+1)) (List.append x3 [[(.str (gs r0))]]))else none)))else none)else(((callI tE Z8Z [(.sl x3),(.str (S [32]))])).bind (fun r0=>(some [(.str (gs r0))])))):=(loopK_run (by kernel_rfl)).trans (by kernel_rfl)
theorem ZEW (a0:Rows):callI tE Z7A [.sl a0]=(Z6h a0 (lenI a0) 0 []):=(callI_run rfl (by kernel_rfl)).trans (by kernel_rfl)
theorem ZDH (a0:Rows):callI tE Z7i [.sl a0]=(((callI tE Z60 [(.sl a0)])).bind (fun r0=>(bif(!(gb r0))then(some [(.str (S []))])else(((callI tE Z7A [(.sl a0)])).bind (fun r1=>(some [(.str (gs r1))])))))):=(callI_run rfl (by kernel_rfl)).trans (by kernel_rfl)
noncomputable def Z7C (x0:ByteArray) (x1 x2 x3:Int):Option (List Dat):=loopK tE Z7j 0 ⟨[(0,(.s x0)),(3,(.i .i64 x1)),(6,(.i .i64 x2)),(7,(.i .i64 x3))],[]⟩
theorem Z9c (x0:ByteArray) (x1 x2 x3:Int):Z7C x0 x1 x2 x3=(bif(ltI x3 x2)then(bif(inR x3 (szI x0))then(Z7C x0 (Int.tmod (w64 ((w64 ((w64 (37*x1))+(w64 (byteAt x0 x3))))+1)) 65521) x2 (w64 (x3+1)))else none)else(some [(.int x1)])):=(loopK_run (by kernel_rfl)).trans (by kernel_rfl)
theorem ZDI (a0:ByteArray):callI tE Z7j [.str a0]=(Z7C a0 11 (szI a0) 0):=(callI_run rfl (by kernel_rfl)).trans (by kernel_rfl)
noncomputable def Z5g (x0 x1:ByteArray) (x2 x3 x4:Int):Option (List Dat):=loopK tE Z6I 0 ⟨[(0,(.s x0)),(4,(.s x1)),(5,(.i .i64 x2)),(27,(.i .i64 x3)),(28,(.i .i64 x4))],[]⟩
theorem ZAQ (x0 x1:ByteArray) (x2 x3 x4:Int):Z5g x0 x1 x2 x3 x4=(bif(ltI x4 x3)then(bif(inR x4 (szI x1))then(bif(ltI (byteAt x1 x4) 48)then(some [(.int 0),(.bool Bool.false)])else(bif(inR x4 (szI x1))then(bif(ltI 57 (byteAt x1 x4))then(some [(.int 0),(.bool Bool.false)])else(bif(inR x4 (szI x1))then(Z5g x0 x1 (w64 ((w64 (10*x2))+(w64 (Go.IntKind.wrap .u8 ((byteAt x1 x4)-48))))) x3 (w64 (x4+1)))else none))else none))else none)else(bif(ltI (szI x1) (szI x0))then(((callI tE Z5Z [(.int (w64 (0-x2)))])).bind (fun r0=>(bif(!(eqS (gs r0) x0))then(some [(.int 0),(.bool Bool.false)])else(some [(.int (w64 (0-x2))),(.bool Bool.true)]))))else(((callI tE Z5Z [(.int x2)])).bind (fun r0=>(bif(!(eqS (gs r0) x0))then(some [(.int 0),(.bool Bool.false)])else(some [(.int x2),(.bool Bool.true)])))))):=(loopK_run (by kernel_rfl)).trans (by kernel_rfl)
theorem ZEX (a0:ByteArray):callI tE Z6I [.str a0]=(bif(ltI 0 (szI a0))then(bif(inR 0 (szI a0))then(bif(eqI (byteAt a0 0) 45)then(bif((leI 0 1)&&(leI 1 (szI a0)))then(bif(ltI (szI (ext a0 (tn 1) (ByteArray.size a0))) 1)then(some [(.int 0),(.bool Bool.false)])else(bif(ltI 9 (szI (ext a0 (tn 1) (ByteArray.size a0))))then(some [(.int 0),(.bool Bool.false)])else(Z5g a0 (ext a0 (tn 1) (ByteArray.size a0)) 0 (szI (ext a0 (tn 1) (ByteArray.size a0))) 0)))else none)else(bif(ltI (szI a0) 1)then(some [(.int 0),(.bool Bool.false)])else(bif(ltI 9 (szI a0))then(some [(.int 0),(.bool Bool.false)])else(Z5g a0 a0 0 (szI a0) 0))))else none)else(bif(ltI (szI a0) 1)then(some [(.int 0),(.bool Bool.false)])else(bif(ltI 9 (szI a0))then(some [(.int 0),(.bool Bool.false)])else(Z5g a0 a0 0 (szI a0) 0)))):=(callI_run rfl (by kernel_rfl)).trans (by kernel_rfl)
theorem ZH9 (a0 a1 a2:Int):callI tE Z6v [.int a0,.int a1,.int a2]=(bif(leI a1 a0)then(some [(.bool (leI a0 a2))])else(some [(.bool Bool.false)])):=(callI_run rfl (by kernel_rfl)).trans (by kernel_rfl)
theorem ZDJ (a0 a1 a2:Int):callI tE Z7k [.int a0,.int a1,.int a2]=(((callI tE Z6v [(.int a0),(.int 0),(.int 9)])).bind (fun r0=>(bif(gb r0)then(((callI tE Z6v [(.int a1),(.int 0),(.int 99)])).bind (fun r1=>(bif(gb r1)then(((callI tE Z6v [(.int a2),(.int 0),(.int 3)])).bind (fun r2=>(some [(.bool (gb r2))])))else(some [(.bool Bool.false)]))))else(some [(.bool Bool.false)])))):=(callI_run rfl (by kernel_rfl)).trans (by kernel_rfl)
noncomputable def Z7P (x0:Rows) (x1:Int):Option (List Dat):=loopK tE Z5l 0 ⟨[(0,(.ro 105 Bool.false x0)),(3,(.i .i64 x1))],[]⟩
theorem Z9C (x0:Rows) (x1:Int):Z7P x0 x1=(bif(ltI x1 (lenI x0))then(bif(inR x1 (lenI x0))then(((callI tE Z7k [(.int (gn (at' x0 (tn x1)))),(.int (gn (tk 1 (at' x0 (tn x1))))),(.int (gn (tk 2 (at' x0 (tn x1)))))])).bind (fun r0=>(bif(!(gb r0))then(some [(.bool Bool.false)])else(Z7P x0 (w64 (x1+1))))))else none)else(some [(.bool (leI (lenI x0) 24))])):=(loopK_run (by kernel_rfl)).trans (by kernel_rfl)
theorem ZCV (a0:Rows):callI tE Z5l [.sl a0]=(Z7P a0 0):=(callI_run rfl (by kernel_rfl)).trans (by kernel_rfl)
noncomputable def Z7Q (x0:Int) (x1:ByteArray) (x2:Bool):Option (List Dat):=loopK tE Z5N 0 ⟨[(0,(.i .i64 x0)),(3,(.s x1)),(4,(.b x2))],[]⟩
theorem ZBx (x0:Int) (x1:ByteArray) (x2:Bool):Z7Q x0 x1 x2=(bif(!(eqI x0 0))then(bif(ltI (Int.tmod x0 10) 0)then(bif(fitS (strOf [[(.int (Go.IntKind.wrap .u8 (w64 (48+(w64 (0-(Int.tmod x0 10)))))))]]) x1)then(Z7Q (w64 (Int.tdiv x0 10)) ((strOf [[(.int (Go.IntKind.wrap .u8 (w64 (48+(w64 (0-(Int.tmod x0 10)))))))]])++x1) x2)else none)else(bif(fitS (strOf [[(.int (Go.IntKind.wrap .u8 (w64 (48+(Int.tmod x0 10)))))]]) x1)then(Z7Q (w64 (Int.tdiv x0 10)) ((strOf [[(.int (Go.IntKind.wrap .u8 (w64 (48+(Int.tmod x0 10)))))]])++x1) x2)else none))else(bif x2 then(bif(fitS (S [45]) x1)then(some [(.str ((S [45])++x1))])else none)else(some [(.str x1)]))):=(loopK_run (by kernel_rfl)).trans (by kernel_rfl)
theorem ZE2 (a0:Int):callI tE Z5N [.int a0]=(bif(eqI a0 0)then(some [(.str (S [48]))])else(Z7Q a0 (S []) (ltI a0 0))):=(callI_run rfl (by kernel_rfl)).trans (by kernel_rfl)
noncomputable def Z7D (x0:ByteArray) (x1 x2:Int):Option (List Dat):=loopK tE Z8c 0 ⟨[(0,(.s x0)),(3,(.i .i64 x1)),(4,(.i .i64 x2))],[]⟩
theorem Z9d (x0:ByteArray) (x1 x2:Int):Z7D x0 x1 x2=(bif(ltI x2 (szI x0))then(bif(inR x2 (szI x0))then(Z7D x0 (Int.tmod (w64 ((w64 ((w64 (x1*37))+(w64 (byteAt x0 x2))))+1)) 65521) (w64 (x2+1)))else none)else(some [(.int x1)])):=(loopK_run (by kernel_rfl)).trans (by kernel_rfl)
theorem ZDK (a0:ByteArray):callI tE Z8c [.str a0]=(Z7D a0 11 0):=(callI_run rfl (by kernel_rfl)).trans (by kernel_rfl)
noncomputable def Z5h (x0:ByteArray) (x1 x2 x3:Int):Option (List Dat):=loopK tE Z5W 0 ⟨[(0,(.s x0)),(4,(.i .i64 x1)),(5,(.i .i64 x2)),(6,(.i .i64 x3))],[]⟩
theorem ZAR (x0:ByteArray) (x1 x2 x3:Int):Z5h x0 x1 x2 x3=(bif(ltI x3 (szI x0))then(bif(ltI x3 11)then(bif(inR x3 (szI x0))then(bif(leI 48 (byteAt x0 x3))then(bif(inR x3 (szI x0))then(bif(leI (byteAt x0 x3) 57)then(bif(inR x3 (szI x0))then(Z5h x0 (w64 ((w64 (x1*10))+(w64 (Go.IntKind.wrap .u8 ((byteAt x0 x3)-48))))) (w64 (x2+1)) (w64 (x3+1)))else none)else(Z5h x0 x1 x2 (w64 (x3+1))))else none)else(Z5h x0 x1 x2 (w64 (x3+1))))else none)else(bif(ltI 0 (szI x0))then(bif(inR 0 (szI x0))then(bif(eqI (byteAt x0 0) 45)then(bif(ltI 9 x2)then(some [(.int 0),(.bool Bool.false)])else(bif(ltI 10 (szI x0))then(some [(.int 0),(.bool Bool.false)])else(((callI tE Z5N [(.int (w64 (0-x1)))])).bind (fun r0=>(bif(!(eqS (gs r0) x0))then(some [(.int 0),(.bool Bool.false)])else(some [(.int (w64 (0-x1))),(.bool Bool.true)]))))))else(bif(ltI 9 x2)then(some [(.int 0),(.bool Bool.false)])else(bif(ltI 10 (szI x0))then(some [(.int 0),(.bool Bool.false)])else(((callI tE Z5N [(.int x1)])).bind (fun r0=>(bif(!(eqS (gs r0) x0))then(some [(.int 0),(.bool Bool.false)])else(some [(.int x1),(.bool Bool.true)])))))))else none)else(bif(ltI 9 x2)then(some [(.int 0),(.bool Bool.false)])else(bif(ltI 10 (szI x0))then(some [(.int 0),(.bool Bool.false)])else(((callI tE Z5N [(.int x1)])).bind (fun r0=>(bif(!(eqS (gs r0) x0))then(some [(.int 0),(.bool Bool.false)])else(some [(.int x1),(.bool Bool.true)]))))))))else(bif(ltI 0 (szI x0))then(bif(inR 0 (szI x0))then(bif(eqI (byteAt x0 0) 45)then(bif(ltI 9 x2)then(some [(.int 0),(.bool Bool.false)])else(bif(ltI 10 (szI x0))then(some [(.int 0),(.bool Bool.false)])else(((callI tE Z5N [(.int (w64 (0-x1)))])).bind (fun r0=>(bif(!(eqS (gs r0) x0))then(some [(.int 0),(.bool Bool.false)])else(some [(.int (w64 (0-x1))),(.bool Bool.true)]))))))else(bif(ltI 9 x2)then(some [(.int 0),(.bool Bool.false)])else(bif(ltI 10 (szI x0))then(some [(.int 0),(.bool Bool.false)])else(((callI tE Z5N [(.int x1)])).bind (fun r0=>(bif(!(eqS (gs r0) x0))then(some [(.int 0),(.bool Bool.false)])else(some [(.int x1),(.bool Bool.true)])))))))else none)else(bif(ltI 9 x2)then(some [(.int 0),(.bool Bool.false)])else(bif(ltI 10 (szI x0))then(some [(.int 0),(.bool Bool.false)])else(((callI tE Z5N [(.int x1)])).bind (fun r0=>(bif(!(eqS (gs r0) x0))then(some [(.int 0),(.bool Bool.false)])else(some [(.int x1),(.bool Bool.true)])))))))):=(loopK_run (by kernel_rfl)).trans (by kernel_rfl)
theorem ZEY (a0:ByteArray):callI tE Z5W [.str a0]=(Z5h a0 0 0 0):=(callI_run rfl (by kernel_rfl)).trans (by kernel_rfl)
noncomputable def Z6Z (x0:Int) (x1 x2:Rows):Option (List Dat):=loopK tE Z5j 0 ⟨[(5,(.own (500000,0))),(6,(.own (500001,0))),(7,(.i .i64 x0))],[((500000,0),(.row 3 x1 Bool.true 0 [])),((500001,0),(.row 3 x2 Bool.true 0 []))]⟩
theorem Z9P (x0:Int) (x1 x2:Rows):Z6Z x0 x1 x2=(bif(ltI x0 3)then(bif(inR x0 (lenI x1))then(bif(inR x0 (lenI x2))then(bif(ltI (gn (at' x1 (tn x0))) (gn (at' x2 (tn x0))))then(some [(.int (-1))])else(bif(inR x0 (lenI x1))then(bif(inR x0 (lenI x2))then(bif(ltI (gn (at' x2 (tn x0))) (gn (at' x1 (tn x0))))then(some [(.int 1)])else(Z6Z (w64 (x0+1)) x1 x2))else none)else none))else none)else none)else(some [(.int 0)])):=(loopK_run (by kernel_rfl)).trans (by kernel_rfl)
theorem ZCn (a0 a1 a2 a3 a4 a5:Int):callI tE Z5j [.int a0,.int a1,.int a2,.int a3,.int a4,.int a5]=(Z6Z 0 [[(.int a0)],[(.int a1)],[(.int a2)]] [[(.int a3)],[(.int a4)],[(.int a5)]]):=(callI_run rfl (by kernel_rfl)).trans (by kernel_rfl)
noncomputable def Z6O (x0:Rows) (x1:Int) (x2:Rows):Option (List Dat):=loopK tE Z6J 0 ⟨[(0,(.ro 105 Bool.false x0)),(3,(.own (500000,0))),(4,(.i .i64 x1))],[((500000,0),(.row 105 x2 Bool.true 0 []))]⟩
noncomputable def Z8m (x0:Rows) (x1 x2:Int) (x3:Rows):Option (List Dat):=loopK tE Z6J 1 ⟨[(0,(.ro 105 Bool.false x0)),(3,(.own (500000,0))),(4,(.i .i64 x1)),(5,(.i .i64 x2))],[((500000,0),(.row 105 x3 Bool.true 0 []))]⟩
theorem ZAS (x0:Rows) (x1:Int) (x2:Rows):Z6O x0 x1 x2=(bif(ltI x1 (lenI x0))then(Z8m x0 x1 (lenI x2) x2)else(some [(.sl x2)])):=(loopK_run (by kernel_rfl)).trans (by kernel_rfl)
theorem ZAT (x0:Rows) (x1 x2:Int) (x3:Rows):Z8m x0 x1 x2 x3=(bif(ltI 0 x2)then(bif(inR (w64 (x2-1)) (lenI x3))then(bif(inR x1 (lenI x0))then(((callI tE Z5j [(.int (gn (at' x3 (tn (w64 (x2-1)))))),(.int (gn (tk 1 (at' x3 (tn (w64 (x2-1))))))),(.int (gn (tk 2 (at' x3 (tn (w64 (x2-1))))))),(.int (gn (at' x0 (tn x1)))),(.int (gn (tk 1 (at' x0 (tn x1))))),(.int (gn (tk 2 (at' x0 (tn x1)))))])).bind (fun r0=>(bif(ltI 0 (gn r0))then(Z8m x0 x1 (w64 (x2-1)) x3)else(bif(inR x1 (lenI x0))then(bif((leI 0 x2)&&(leI x2 (lenI x3)))then(bif(fitM (1+(len (List.take (tn ((lenI x3)-x2)) (List.drop (tn x2) x3)))) 24)then(bif((leI 0 x2)&&(leI x2 (lenI x3)))then(bif(fitM (0+(len (List.take (tn (x2-0)) (List.drop (tn 0) x3)))) 24)then(bif(fitM (Nat.succ ((len (List.take (tn (x2-0)) (List.drop (tn 0) x3)))+(len (List.take (tn ((lenI x3)-x2)) (List.drop (tn x2) x3))))) 24)then(Z6O x0 (w64 (x1+1)) (List.append (List.take (tn (x2-0)) (List.drop (tn 0) x3)) ([(.int (gn (at' x0 (tn x1)))),(.int (gn (tk 1 (at' x0 (tn x1))))),(.int (gn (tk 2 (at' x0 (tn x1)))))]::(List.take (tn ((lenI x3)-x2)) (List.drop (tn x2) x3)))))else none)else none)else none)else none)else none)else none))))else none)else none)else(bif(inR x1 (lenI x0))then(bif((leI 0 x2)&&(leI x2 (lenI x3)))then(bif(fitM (1+(len (List.take (tn ((lenI x3)-x2)) (List.drop (tn x2) x3)))) 24)then(bif((leI 0 x2)&&(leI x2 (lenI x3)))then(bif(fitM (0+(len (List.take (tn (x2-0)) (List.drop (tn 0) x3)))) 24)then(bif(fitM (Nat.succ ((len (List.take (tn (x2-0)) (List.drop (tn 0) x3)))+(len (List.take (tn ((lenI x3)-x2)) (List.drop (tn x2) x3))))) 24)then(Z6O x0 (w64 (x1+1)) (List.append (List.take (tn (x2-0)) (List.drop (tn 0) x3)) ([(.int (gn (at' x0 (tn x1)))),(.int (gn (tk 1 (at' x0 (tn x1))))),(.int (gn (tk 2 (at' x0 (tn x1)))))]::(List.take (tn ((lenI x3)-x2)) (List.drop (tn x2) x3)))))else none)else none)else none)else none)else none)else none)):=(loopK_run (by kernel_rfl)).trans (by kernel_rfl)
theorem ZEZ (a0:Rows):callI tE Z6J [.sl a0]=(Z6O a0 0 []):=(callI_run rfl (by kernel_rfl)).trans (by kernel_rfl)
noncomputable def Z9Q (x0 x1:Rows) (x2:Int):Option (List Dat):=loopK tE Z81 0 ⟨[(0,(.ro 105 Bool.false x0)),(1,(.ro 105 Bool.false x1)),(5,(.i .i64 x2))],[]⟩
theorem ZB2 (x0 x1:Rows) (x2:Int):Z9Q x0 x1 x2=(bif(ltI x2 (lenI x0))then(bif(inR x2 (lenI x0))then(bif(inR x2 (lenI x1))then(bif(!((eqI (gn (at' x0 (tn x2))) (gn (at' x1 (tn x2))))&&((eqI (gn (tk 1 (at' x0 (tn x2)))) (gn (tk 1 (at' x1 (tn x2)))))&&((eqI (gn (tk 2 (at' x0 (tn x2)))) (gn (tk 2 (at' x1 (tn x2)))))&&Bool.true))))then(some [(.bool Bool.false)])else(Z9Q x0 x1 (w64 (x2+1))))else none)else none)else(some [(.bool Bool.true)])):=(loopK_run (by kernel_rfl)).trans (by kernel_rfl)
theorem ZG3 (a0 a1:Rows):callI tE Z81 [.sl a0,.sl a1]=(bif(!(eqI (lenI a0) (lenI a1)))then(some [(.bool Bool.false)])else(Z9Q a0 a1 0)):=(callI_run rfl (by kernel_rfl)).trans (by kernel_rfl)
theorem ZFT (a0 a1 a2:Int):callI tE Z5r [.int a0,.int a1,.int a2]=(((callI tE Z7k [(.int a0),(.int a1),(.int a2)])).bind (fun r0=>(bif(!(gb r0))then(some [(.int 0)])else(some [(.int (w64 (1+a2)))])))):=(callI_run rfl (by kernel_rfl)).trans (by kernel_rfl)
noncomputable def Z7R (x0:Rows) (x1 x2:Int):Option (List Dat):=loopK tE Z6b 0 ⟨[(0,(.ro 105 Bool.false x0)),(3,(.i .i64 x1)),(4,(.i .i64 x2))],[]⟩
theorem ZA4 (x0:Rows) (x1 x2:Int):Z7R x0 x1 x2=(bif(ltI x2 (lenI x0))then(bif(inR x2 (lenI x0))then(((callI tE Z5r [(.int (gn (at' x0 (tn x2)))),(.int (gn (tk 1 (at' x0 (tn x2))))),(.int (gn (tk 2 (at' x0 (tn x2)))))])).bind (fun r0=>(Z7R x0 (w64 (x1+(gn r0))) (w64 (x2+1)))))else none)else(some [(.int x1)])):=(loopK_run (by kernel_rfl)).trans (by kernel_rfl)
theorem ZE3 (a0:Rows):callI tE Z6b [.sl a0]=(Z7R a0 0 0):=(callI_run rfl (by kernel_rfl)).trans (by kernel_rfl)
noncomputable def Z8n (x0:Rows) (x1:Int):Option (List Dat):=loopK tE Z8V 0 ⟨[(0,(.ro 105 Bool.false x0)),(3,(.i .i64 x1))],[]⟩
theorem Z8u (x0:Rows) (x1:Int):Z8n x0 x1=(bif(ltI x1 (lenI x0))then(bif(inR (w64 (x1-1)) (lenI x0))then(bif(inR x1 (lenI x0))then(((callI tE Z5j [(.int (gn (at' x0 (tn (w64 (x1-1)))))),(.int (gn (tk 1 (at' x0 (tn (w64 (x1-1))))))),(.int (gn (tk 2 (at' x0 (tn (w64 (x1-1))))))),(.int (gn (at' x0 (tn x1)))),(.int (gn (tk 1 (at' x0 (tn x1))))),(.int (gn (tk 2 (at' x0 (tn x1)))))])).bind (fun r0=>(bif(ltI 0 (gn r0))then(some [(.bool Bool.false)])else(Z8n x0 (w64 (x1+1))))))else none)else none)else(some [(.bool Bool.true)])):=(loopK_run (by kernel_rfl)).trans (by kernel_rfl)
theorem ZEa (a0:Rows):callI tE Z8V [.sl a0]=(Z8n a0 1):=(callI_run rfl (by kernel_rfl)).trans (by kernel_rfl)
noncomputable def Z8O (x0:Int) (x1 x2:Rows):Option (List Dat):=loopK tE Z6w 0 ⟨[(5,(.own (500000,0))),(6,(.own (500001,0))),(7,(.i .i64 x0))],[((500000,0),(.row 105 x1 Bool.true 0 [])),((500001,0),(.row 105 x2 Bool.true 0 []))]⟩
theorem ZA5 (x0:Int) (x1 x2:Rows):Z8O x0 x1 x2=(bif(ltI x0 (lenI x1))then(bif(inR x0 (lenI x1))then(bif(inR x0 (lenI x2))then(bif(!((eqI (gn (at' x1 (tn x0))) (gn (at' x2 (tn x0))))&&((eqI (gn (tk 1 (at' x1 (tn x0)))) (gn (tk 1 (at' x2 (tn x0)))))&&((eqI (gn (tk 2 (at' x1 (tn x0)))) (gn (tk 2 (at' x2 (tn x0)))))&&Bool.true))))then(some [(.bool Bool.false)])else(Z8O (w64 (x0+1)) x1 x2))else none)else none)else(some [(.bool Bool.true)])):=(loopK_run (by kernel_rfl)).trans (by kernel_rfl)
theorem ZE4 (a0 a1:Rows):callI tE Z6w [.sl a0,.sl a1]=(((callI tE Z6J [(.sl a0)])).bind (fun r0=>(((callI tE Z6J [(.sl a1)])).bind (fun r1=>(bif(!(eqI (lenI (gl r0)) (lenI (gl r1))))then(some [(.bool Bool.false)])else(Z8O 0 (gl r0) (gl r1))))))):=(callI_run rfl (by kernel_rfl)).trans (by kernel_rfl)
theorem ZE5 (a0 a1 a2:Int):callI tE Z8B [.int a0,.int a1,.int a2]=(((callI tE Z7k [(.int a0),(.int a1),(.int a2)])).bind (fun r0=>(bif(!(gb r0))then(some [(.str (S []))])else(((callI tE Z5N [(.int a0)])).bind (fun r1=>(bif(fitS (gs r1) (S [46]))then(((callI tE Z5N [(.int a1)])).bind (fun r2=>(bif(fitS ((gs r1)++(S [46])) (gs r2))then(bif(fitS (((gs r1)++(S [46]))++(gs r2)) (S [46]))then(((callI tE Z5N [(.int a2)])).bind (fun r3=>(bif(fitS ((((gs r1)++(S [46]))++(gs r2))++(S [46])) (gs r3))then(some [(.str (((((gs r1)++(S [46]))++(gs r2))++(S [46]))++(gs r3)))])else none)))else none)else none)))else none)))))):=(callI_run rfl (by kernel_rfl)).trans (by kernel_rfl)
noncomputable def Z61 (x0:Rows) (x1:ByteArray) (x2:Int):Option (List Dat):=loopK tE Z5s 0 ⟨[(0,(.ro 105 Bool.false x0)),(3,(.s x1)),(4,(.i .i64 x2))],[]⟩
theorem Z8H (x0:Rows) (x1:ByteArray) (x2:Int):Z61 x0 x1 x2=(bif(ltI x2 (lenI x0))then(((callI tE Z5l [(.sl x0)])).bind (fun r0=>(bif(gb r0)then(bif(ltI 0 x2)then(bif(fitS x1 (S [32]))then(bif(inR x2 (lenI x0))then(((callI tE Z8B [(.int (gn (at' x0 (tn x2)))),(.int (gn (tk 1 (at' x0 (tn x2))))),(.int (gn (tk 2 (at' x0 (tn x2)))))])).bind (fun r1=>(bif(fitS (x1++(S [32])) (gs r1))then(Z61 x0 ((x1++(S [32]))++(gs r1)) (w64 (x2+1)))else none)))else none)else none)else(bif(inR x2 (lenI x0))then(((callI tE Z8B [(.int (gn (at' x0 (tn x2)))),(.int (gn (tk 1 (at' x0 (tn x2))))),(.int (gn (tk 2 (at' x0 (tn x2)))))])).bind (fun r1=>(bif(fitS x1 (gs r1))then(Z61 x0 (x1++(gs r1)) (w64 (x2+1)))else none)))else none))else(some [(.str x1)]))))else(some [(.str x1)])):=(loopK_run (by kernel_rfl)).trans (by kernel_rfl)
theorem ZDL (a0:Rows):callI tE Z5s [.sl a0]=(Z61 a0 (S []) 0):=(callI_run rfl (by kernel_rfl)).trans (by kernel_rfl)
noncomputable def Z7s (x0:ByteArray) (x1 x2 x3 x4:Int) (x5:Rows):Option (List Dat):=loopK tE Z9B 0 ⟨[(0,(.s x0)),(1,(.i .u8 x1)),(5,(.own (500000,0))),(6,(.i .i64 x2)),(10,(.i .i64 x3)),(11,(.i .i64 x4))],[((500000,0),(.row 9 x5 Bool.true 0 []))]⟩
theorem ZBy (x0:ByteArray) (x1 x2 x3 x4:Int) (x5:Rows):Z7s x0 x1 x2 x3 x4 x5=(bif(ltI x4 x3)then(bif(inR x4 (szI x0))then(bif(eqI (byteAt x0 x4) x1)then(bif(in3 x2 x4 (szI x0))then(bif(fitM (Nat.succ (len x5)) 16)then(Z7s x0 x1 (w64 (x4+1)) x3 (w64 (x4+1)) (List.append x5 [[(.str (ext x0 (tn x2) (tn x4)))]]))else none)else none)else(Z7s x0 x1 x2 x3 (w64 (x4+1)) x5))else none)else(bif((leI 0 x2)&&(leI x2 (szI x0)))then(bif(fitM (Nat.succ (len x5)) 16)then(some [(.sl (List.append x5 [[(.str (ext x0 (tn x2) (ByteArray.size x0)))]]))])else none)else none)):=(loopK_run (by kernel_rfl)).trans (by kernel_rfl)
theorem ZIM (a0:ByteArray) (a1:Int):callI tE Z9B [.str a0,.int a1]=(Z7s a0 a1 0 (szI a0) 0 []):=(callI_run rfl (by kernel_rfl)).trans (by kernel_rfl)
theorem ZEb (a0:ByteArray):callI tE ZAf [.str a0]=(((callI tE Z9B [(.str a0),(.int 46)])).bind (fun r0=>(bif(!(eqI (lenI (gl r0)) 3))then(some [(.int 0),(.int 0),(.int 0),(.bool Bool.false)])else(bif(inR 0 (lenI (gl r0)))then(((callI tE Z6I [(.str (gs (at' (gl r0) (tn 0))))])).bind (fun r1=>(bif(inR 1 (lenI (gl r0)))then(((callI tE Z6I [(.str (gs (at' (gl r0) (tn 1))))])).bind (fun r2=>(bif(inR 2 (lenI (gl r0)))then(((callI tE Z6I [(.str (gs (at' (gl r0) (tn 2))))])).bind (fun r3=>(bif(!(gb (tk 1 r1)))then(some [(.int 0),(.int 0),(.int 0),(.bool Bool.false)])else(bif(!(gb (tk 1 r2)))then(some [(.int 0),(.int 0),(.int 0),(.bool Bool.false)])else(bif(!(gb (tk 1 r3)))then(some [(.int 0),(.int 0),(.int 0),(.bool Bool.false)])else(((callI tE Z76 [(.int (gn r1)),(.int (gn r2)),(.int (gn r3))])).bind (fun r4=>(bif(!(gb r4))then(some [(.int 0),(.int 0),(.int 0),(.bool Bool.false)])else(some [(.int (gn r1)),(.int (gn r2)),(.int (gn r3)),(.bool Bool.true)])))))))))else none)))else none)))else none)))):=(callI_run rfl (by kernel_rfl)).trans (by kernel_rfl)
noncomputable def Z5u (x0 x1:Int) (x2 x3:Rows):Option (List Dat):=loopK tE Z7H 0 ⟨[(4,(.own (500000,0))),(13,(.own (500001,0))),(14,(.i .i64 x0)),(15,(.i .i64 x1))],[((500000,0),(.row 105 x2 Bool.true 0 [])),((500001,0),(.row 9 x3 Bool.true 0 []))]⟩
theorem ZA6 (x0 x1:Int) (x2 x3:Rows):Z5u x0 x1 x2 x3=(bif(ltI x1 x0)then(bif(inR x1 (lenI x3))then(((callI tE ZAf [(.str (gs (at' x3 (tn x1))))])).bind (fun r0=>(bif(!(gb (tk 3 r0)))then(some [(.sl []),(.bool Bool.false)])else(bif(fitM (Nat.succ (len x2)) 24)then(Z5u x0 (w64 (x1+1)) (List.append x2 [[(.int (gn r0)),(.int (gn (tk 1 r0))),(.int (gn (tk 2 r0)))]]) x3)else none))))else none)else(((callI tE Z60 [(.sl x2)])).bind (fun r0=>(bif(!(gb r0))then(some [(.sl []),(.bool Bool.false)])else(some [(.sl x2),(.bool Bool.true)]))))):=(loopK_run (by kernel_rfl)).trans (by kernel_rfl)
theorem ZE6 (a0:ByteArray):callI tE Z7H [.str a0]=(bif(eqS a0 (S []))then(some [(.sl []),(.bool Bool.true)])else(((callI tE Z9B [(.str a0),(.int 32)])).bind (fun r0=>(Z5u (lenI (gl r0)) 0 [] (gl r0))))):=(callI_run rfl (by kernel_rfl)).trans (by kernel_rfl)
noncomputable def Z75 (x0:ByteArray) (x1 x2 x3:Int) (x4:Rows):Option (List Dat):=loopK tE Z7N 0 ⟨[(0,(.s x0)),(1,(.i .u8 x1)),(5,(.own (500000,0))),(6,(.i .i64 x2)),(7,(.i .i64 x3))],[((500000,0),(.row 9 x4 Bool.true 0 []))]⟩
theorem ZBH (x0:ByteArray) (x1 x2 x3:Int) (x4:Rows):Z75 x0 x1 x2 x3 x4=(bif(ltI x3 (szI x0))then(bif(inR x3 (szI x0))then(bif(eqI (byteAt x0 x3) x1)then(bif(in3 x2 x3 (szI x0))then(bif(fitM (Nat.succ (len x4)) 16)then(Z75 x0 x1 (w64 (x3+1)) (w64 (x3+1)) (List.append x4 [[(.str (ext x0 (tn x2) (tn x3)))]]))else none)else none)else(Z75 x0 x1 x2 (w64 (x3+1)) x4))else none)else(bif((leI 0 x2)&&(leI x2 (szI x0)))then(bif(fitM (Nat.succ (len x4)) 16)then(some [(.sl (List.append x4 [[(.str (ext x0 (tn x2) (ByteArray.size x0)))]]))])else none)else none)):=(loopK_run (by kernel_rfl)).trans (by kernel_rfl)
theorem ZGZ (a0:ByteArray) (a1:Int):callI tE Z7N [.str a0,.int a1]=(Z75 a0 a1 0 0 []):=(callI_run rfl (by kernel_rfl)).trans (by kernel_rfl)
theorem ZEc (a0:ByteArray):callI tE ZAg [.str a0]=(((callI tE Z7N [(.str a0),(.int 46)])).bind (fun r0=>(bif(!(eqI (lenI (gl r0)) 3))then(some [(.int 0),(.int 0),(.int 0),(.bool Bool.false)])else(bif(inR 0 (lenI (gl r0)))then(((callI tE Z5W [(.str (gs (at' (gl r0) (tn 0))))])).bind (fun r1=>(bif(inR 1 (lenI (gl r0)))then(((callI tE Z5W [(.str (gs (at' (gl r0) (tn 1))))])).bind (fun r2=>(bif(inR 2 (lenI (gl r0)))then(((callI tE Z5W [(.str (gs (at' (gl r0) (tn 2))))])).bind (fun r3=>(((callI tE Z8B [(.int (gn r1)),(.int (gn r2)),(.int (gn r3))])).bind (fun r4=>(bif(!(eqS (gs r4) a0))then(some [(.int 0),(.int 0),(.int 0),(.bool Bool.false)])else(some [(.int (gn r1)),(.int (gn r2)),(.int (gn r3)),(.bool Bool.true)]))))))else none)))else none)))else none)))):=(callI_run rfl (by kernel_rfl)).trans (by kernel_rfl)
noncomputable def Z5v (x0:ByteArray) (x1:Int) (x2 x3:Rows):Option (List Dat):=loopK tE Z65 0 ⟨[(0,(.s x0)),(4,(.own (500000,0))),(5,(.own (500001,0))),(6,(.i .i64 x1))],[((500000,0),(.row 105 x2 Bool.true 0 [])),((500001,0),(.row 9 x3 Bool.true 0 []))]⟩
theorem Z8Y (x0:ByteArray) (x1:Int) (x2 x3:Rows):Z5v x0 x1 x2 x3=(bif(ltI x1 (lenI x3))then(bif(!(eqS x0 (S [])))then(bif(inR x1 (lenI x3))then(((callI tE ZAg [(.str (gs (at' x3 (tn x1))))])).bind (fun r0=>(bif(!(gb (tk 3 r0)))then(some [(.sl []),(.bool Bool.false)])else(bif(fitM (Nat.succ (len x2)) 24)then(Z5v x0 (w64 (x1+1)) (List.append x2 [[(.int (gn r0)),(.int (gn (tk 1 r0))),(.int (gn (tk 2 r0)))]]) x3)else none))))else none)else(((callI tE Z5l [(.sl x2)])).bind (fun r0=>(bif(!(gb r0))then(some [(.sl []),(.bool Bool.false)])else(some [(.sl x2),(.bool Bool.true)])))))else(((callI tE Z5l [(.sl x2)])).bind (fun r0=>(bif(!(gb r0))then(some [(.sl []),(.bool Bool.false)])else(some [(.sl x2),(.bool Bool.true)]))))):=(loopK_run (by kernel_rfl)).trans (by kernel_rfl)
theorem ZE7 (a0:ByteArray):callI tE Z65 [.str a0]=(((callI tE Z7N [(.str a0),(.int 32)])).bind (fun r0=>(Z5v a0 0 [] (gl r0)))):=(callI_run rfl (by kernel_rfl)).trans (by kernel_rfl)
theorem ZLC (n:Int) (r:List Dat):gn (.int n::r)=n:=rfl
theorem ZMS (b:Bool) (r:List Dat):gb (.bool b::r)=b:=rfl
theorem ZJr (s:ByteArray) (r:List Dat):gs (.str s::r)=s:=rfl
theorem ZMT (l:Rows) (r:List Dat):gl (.sl l::r)=l:=rfl
theorem ZMU (l:List Dat):tk 0 l=l:=rfl
theorem ZMV (k:Nat) (a:Dat) (l:List Dat):tk (k+1) (a::l)=tk k l:=rfl
theorem ZFd {α β:Type} (a:α) (f:α→Option β):(some a).bind f=f a:=rfl
theorem gA:(∀(n:Int) (r:List Dat),gn (.int n::r)=n)∧(∀(b:Bool) (r:List Dat),gb (.bool b::r)=b)∧(∀(s:ByteArray) (r:List Dat),gs (.str s::r)=s)∧(∀(l:Rows) (r:List Dat),gl (.sl l::r)=l)∧(∀l:List Dat,tk 0 l=l)∧(∀(k:Nat) (a:Dat) (l:List Dat),tk (k+1) (a::l)=tk k l)∧(∀{α β:Type} (a:α) (f:α→Option β),(some a).bind f=f a)∧(∀{α:Type} (k:Nat) (a:α) (l:List α),List.drop (k+1) (a::l)=List.drop k l)∧(∀{α:Type} (l:List α),List.drop 0 l=l)∧(∀{α:Type} (a d:α) (l:List α),(a::l).headD d=a)∧(∀{α:Type} (a d:α) (l:List α),(a::l).getD 0 d=a)∧∀{α:Type} (k:Nat) (a d:α) (l:List α),(a::l).getD (k+1) d=l.getD k d:=
 ⟨ZLC,ZMS,ZJr,ZMT,ZMU,ZMV,ZFd,fun _ _ _=>rfl,fun _=>rfl,fun _ _ _=>rfl,fun _ _ _=>rfl,fun _ _ _ _=>rfl⟩
theorem ltT {a b:Int} (h:a<b):ltI a b=true:=by simpa[ltI]using h
theorem ltF {a b:Int} (h:b≤a):ltI a b=false:=by simpa[ltI]using h
theorem leT {a b:Int} (h:a≤b):leI a b=true:=by simpa[leI]using h
theorem leF {a b:Int} (h:b<a):leI a b=false:=by simpa[leI]using h
theorem eqT {a b:Int} (h:a=b):eqI a b=true:=by simpa[eqI]using h
theorem eqF {a b:Int} (h:a≠b):eqI a b=false:=by simpa[eqI]using h
theorem ZJs (a:Int):eqI a a=true:=by simp[eqI]
theorem ZIk (a:Bool):eqBo a a=true:=by simp[eqBo]
theorem ZLs {a b:Nat} (h:a≤b):leN a b=true:=by simpa[leN]using h
theorem Z97 {n b:Nat} (h:n*b≤70368744177664):fitM n b=true:=ZLs h
theorem ZDl {i n:Int} (h:0≤i) (h2:i<n):inR i n=true:=by simp[inR,leT h,ltT h2]
theorem ZKj {i j n:Int} (h:0≤i) (h2:i≤j) (h3:j≤n):in3 i j n=true:=by simp[in3,leT h,leT h2,leT h3]
theorem Z86 (i:Nat):tn (i:Int)=i:=rfl
theorem Z5Q {n:Int} (h: -9223372036854775808≤n∧n≤9223372036854775807):w64 n=n:=wrap64 ⟨h.1,by omega⟩
theorem Z7n {i:Nat} (h:i<9223372036854775807):w64 ((i:Int)+1)=((i+1:Nat):Int):=by
 rw[Z5Q ⟨by omega,by omega⟩];omega
theorem ZIl {α:Type} (b:Bool) (x y:α):(bif !b then x else y)=bif b then y else x:=by cases b<;>rfl
theorem ZFe (p q:Rows) (r:List Dat):at' (p++r::q) p.length=r:=by
 simp[List.getD_eq_getElem?_getD]
theorem ZHe (p q:Rows) (r:List Dat):ltI (p.length:Int) (lenI (p++r::q))=true:=ltT (by show(p.length:Int)<((p++r::q).length:Int);simp only[List.length_append,List.length_cons];omega)
theorem ZGa (p q:Rows) (r:List Dat):inR (p.length:Int) (lenI (p++r::q))=true:=ZDl (by omega) (by show(p.length:Int)<((p++r::q).length:Int);simp only[List.length_append,List.length_cons];omega)
theorem ZHf (p:Rows):ltI (p.length:Int) (lenI p)=false:=ltF (Int.le_refl _)
theorem ZKk (p q:Rows) (r:List Dat) (c:Nat) (ds:List Dat):updR (p++r::q) p.length c ds=p++setRange r c ds::q:=by
 unfold updR
 rw[show(p++r::q).getD p.length []=r from ZFe p q r,List.set_append_right _ _ (Nat.le_refl _)]
 simp
theorem ZJt (p:Rows) (r:List Dat):(p++[r]).length=p.length+1:=by simp
theorem ZKK {α:Type} (p q:List α) (r:α):p++r::q=(p++[r])++q:=by simp
section
variable {α β:Type} {e:α→List Dat}
theorem ZEG (u v:List α) (a:α):at' ((u++a::v).map e) u.length=e a:=by
 simp[List.getD_eq_getElem?_getD]
theorem ZFO (u v:List α) (a:α):ltI (u.length:Int) (lenI ((u++a::v).map e))=true:=ltT (by show(u.length:Int)<(((u++a::v).map e).length:Int);simp only[List.length_append,List.length_cons,List.length_map];omega)
theorem ZFP (u v:List α) (a:α):inR (u.length:Int) (lenI ((u++a::v).map e))=true:=ZDl (by omega) (by show(u.length:Int)<(((u++a::v).map e).length:Int);simp only[List.length_append,List.length_cons,List.length_map];omega)
theorem ZEd (l:List α):ltI (l.length:Int) (lenI (l.map e))=false:=ltF (by simp)
theorem ZLx (u v:List α) (a:α) (c:Nat) (ds:List Dat):updR ((u++a::v).map e) u.length c ds=u.map e++setRange (e a) c ds::v.map e:=by
 have:=ZKk (u.map e) (v.map e) (e a) c ds
 simpa using this
theorem Z6d {σ:Type} {L:σ→Int→Option β} {F:σ→List α→Option β} {I:σ→List α→List α→Prop} {l:List α} (hn:l.length<9223372036854775807)
  (hs:∀(u:List α) (a:α) (v:List α) (s:σ),l=u++a::v→I s u (a::v)→(∃s',L s u.length=L s' (w64 (u.length+1))∧I s' (u++[a]) v∧F s (a::v)=F s' v)∨L s u.length=F s (a::v))
  (he:∀s,I s l []→L s l.length=F s []) (s:σ) (h0:I s [] l):L s 0=F s l:=by
 have key:∀(v u:List α) (s:σ),l=u++v→I s u v→L s (u.length:Nat)=F s v:=by
  intro v
  induction v with
  |nil=>
   intro u s h hI
   rw[List.append_nil]at h
   subst h
   exact he s hI
  |cons a v ih=>
   intro u s h hI
   have hl:u.length<l.length:=by rw[h];simp
   rcases hs u a v s h hI with ⟨s',h1,h2,h3⟩|h1
   ·rw[h1,Z7n (by omega),h3]
    have:=ih (u++[a]) s' (by rw[h];simp) h2
    rw[List.length_append]at this
    exact this
   ·exact h1
 exact key l [] s rfl h0
theorem ZCC {L:Int→Option β} {p:α→Bool} {no yes:Option β} {l:List α} (hn:l.length<9223372036854775807)
  (hs:∀(u:List α) (a:α) (v:List α),l=u++a::v→L u.length=bif p a then L (w64 (u.length+1))else no) (he:L l.length=yes):L 0=bif l.all p then yes else no:=
 Z6d (σ:=Unit) (L:=fun _=>L) (F:=fun _ v=>bif v.all p then yes else no) (I:=fun _ _ _=>True) hn (fun u a v _ h _=>by
  have:=hs u a v h
  cases hp:p a
  ·exact .inr (by rw[this,hp];simp[hp])
  ·exact .inl ⟨(),by rw[this,hp];rfl,trivial,by simp[hp]⟩) (fun _ _=>by simpa using he) () trivial
end
def szL {α:Type} (f:α→Nat):List α→Nat
 |[]=>0
 |a::l=>1+f a+szL f l
theorem Z8I {α:Type} (f:α→Nat):∀l:List α,l.length≤szL f l
 |[]=>Nat.le_refl _
 |a::l=>by have:=Z8I f l;simp only[List.length_cons,szL];omega
theorem ZIm {α:Type} {f:α→Nat}:∀{l:List α} {a:α},a∈l→f a≤szL f l
 |b::l,a,h=>by
  rcases List.mem_cons.mp h with rfl|h
  ·simp only[szL];omega
  ·have:=ZIm (f:=f) h;simp only[szL];omega
theorem ZEe {α:Type} (f:α→Nat) (u v:List α):szL f (u++v)=szL f u+szL f v:=by
 induction u with
 |nil=>simp[szL]
 |cons a u ih=>simp only[List.cons_append,szL,ih];omega
section
variable {α:Type} {e:α→List Dat} {f:α→Int→α} {c g:α→Nat}
theorem ZEf [DecidableEq α] {L:Rows→Rows→Int→Option (List Dat)} {P:α→Prop} (hs:∀(p q p' q':Rows) (a b:α),P a→p.length=p'.length→p.length<4611686018427387904→L (p++e a::q) (p'++e b::q') p.length=bif decide (a=b)then L (p++e a::q) (p'++e b::q') (w64 (p.length+1))else some [.bool false])
  (he:∀p p',p.length=p'.length→L p p' p.length=some [.bool true]):∀(l l':List α) (p p':Rows),p.length=p'.length→l.length=l'.length→(∀a∈l,P a)→p.length+l.length<4611686018427387904→
   L (p++l.map e) (p'++l'.map e) p.length=some [.bool (decide (l=l'))]
 |[],[],p,p',h,_,_,_=>by simpa using he p p' h
 |[],_::_,_,_,_,h,_,_=>by simp at h
 |_::_,[],_,_,_,h,_,_=>by simp at h
 |a::l,b::l',p,p',h,hl,hP,h3=>by
  simp only[List.length_cons]at h3 hl
  rw[List.map_cons,List.map_cons,hs p (l.map e) p' (l'.map e) a b (hP a (by simp)) h (by omega)]
  by_cases hab:a=b
  ·rw[decide_eq_true hab,cond_true,Z7n (by omega),ZKK,ZKK p']
   have ih:=ZEf hs he l l' (p++[e a]) (p'++[e b]) (by simp[h]) (by omega) (fun b hb=>hP b (by simp[hb])) (by simp;omega)
   rw[ZJt]at ih
   rw[ih]
   simp[hab]
  ·rw[decide_eq_false hab,cond_false]
   simp[hab]
end
def ZAv (n:Int):List Dat:=[.int n]
def boE (b:Bool):List Dat:=[.bool b]
def c1 {α:Type} (_:α):Nat:=1
structure Rw where
 k:Int
 v:Int
 w:Int
 deriving DecidableEq
def Rw.e (x:Rw):List Dat:=[.int x.k,.int x.v,.int x.w]
def rsE (l:List Rw):List Dat:=[.sl (l.map Rw.e)]
structure Pr where
 l:Rw
 r:Rw
 m:Bool
 deriving DecidableEq
def Pr.e (x:Pr):List Dat:=[.int x.l.k,.int x.l.v,.int x.l.w,.int x.r.k,.int x.r.v,.int x.r.w,.bool x.m]
structure Gr where
 key:Int
 cnt:Int
 sum:Int
 lo:Int
 hi:Int
 deriving DecidableEq
def Gr.e (x:Gr):List Dat:=[.int x.key,.int x.cnt,.int x.sum,.int x.lo,.int x.hi]
structure Cl where
 id:Int
 req:Int
 prio:Int
 deriving DecidableEq
def Cl.e (x:Cl):List Dat:=[.int x.id,.int x.req,.int x.prio]
structure Tk where
 kind:Int
 left:List Rw
 right:List Rw
 mat:List Bool
 level:Int
 deriving DecidableEq
def Tk.e (x:Tk):List Dat:=[.int x.kind,.sl (x.left.map Rw.e),.sl (x.right.map Rw.e),.sl (x.mat.map boE),.int x.level]
def Tk.sz (x:Tk):Nat:=x.left.length+(x.right.length+(x.mat.length))
structure Gt where
 rows:List Rw
 level:Int
 deriving DecidableEq
def Gt.e (x:Gt):List Dat:=[.sl (x.rows.map Rw.e),.int x.level]
def Gt.sz (x:Gt):Nat:=x.rows.length
structure So where
 inp:List Rw
 pos:Int
 heap:List Rw
 dfd:List Rw
 out:List Rw
 runs:List (List Rw)
 lp:Int
 rp:Int
 ph:Int
 wr:Int
 deriving DecidableEq
def So.e (x:So):List Dat:=[.sl (x.inp.map Rw.e),.int x.pos,.sl (x.heap.map Rw.e),.sl (x.dfd.map Rw.e),.sl (x.out.map Rw.e),.sl (x.runs.map rsE),.int x.lp,.int x.rp,.int x.ph,.int x.wr]
def So.sz (x:So):Nat:=x.inp.length+(x.heap.length+(x.dfd.length+(x.out.length+(szL List.length x.runs))))
structure Jn where
 pend:List Tk
 wr:Int
 parts:Int
 deriving DecidableEq
def Jn.e (x:Jn):List Dat:=[.sl (x.pend.map Tk.e),.int x.wr,.int x.parts]
def Jn.sz (x:Jn):Nat:=szL Tk.sz x.pend
structure Ag where
 pend:List Gt
 wr:Int
 early:Bool
 deriving DecidableEq
def Ag.e (x:Ag):List Dat:=[.sl (x.pend.map Gt.e),.int x.wr,.bool x.early]
def Ag.sz (x:Ag):Nat:=szL Gt.sz x.pend
structure Opr where
 kind:Int
 so:So
 jn:Jn
 ag:Ag
 deriving DecidableEq
def Opr.e (x:Opr):List Dat:=[.int x.kind,.sl (x.so.inp.map Rw.e),.int x.so.pos,.sl (x.so.heap.map Rw.e),.sl (x.so.dfd.map Rw.e),.sl (x.so.out.map Rw.e),.sl (x.so.runs.map rsE),.int x.so.lp,.int x.so.rp,.int x.so.ph,.int x.so.wr,.sl (x.jn.pend.map Tk.e),.int x.jn.wr,.int x.jn.parts,.sl (x.ag.pend.map Gt.e),.int x.ag.wr,.bool x.ag.early]
def Opr.sz (x:Opr):Nat:=So.sz x.so+(Jn.sz x.jn+(Ag.sz x.ag))
structure Ou where
 rows:List Rw
 pairs:List Pr
 groups:List Gr
 deriving DecidableEq
def Ou.e (x:Ou):List Dat:=[.sl (x.rows.map Rw.e),.sl (x.pairs.map Pr.e),.sl (x.groups.map Gr.e)]
def Ou.sz (x:Ou):Nat:=x.rows.length+(x.pairs.length+(x.groups.length))
structure Sl where
 id:Int
 op:Opr
 out:Ou
 done:Bool
 deriving DecidableEq
def Sl.e (x:Sl):List Dat:=[.int x.id,.int x.op.kind,.sl (x.op.so.inp.map Rw.e),.int x.op.so.pos,.sl (x.op.so.heap.map Rw.e),.sl (x.op.so.dfd.map Rw.e),.sl (x.op.so.out.map Rw.e),.sl (x.op.so.runs.map rsE),.int x.op.so.lp,.int x.op.so.rp,.int x.op.so.ph,.int x.op.so.wr,.sl (x.op.jn.pend.map Tk.e),.int x.op.jn.wr,.int x.op.jn.parts,.sl (x.op.ag.pend.map Gt.e),.int x.op.ag.wr,.bool x.op.ag.early,.sl (x.out.rows.map Rw.e),.sl (x.out.pairs.map Pr.e),.sl (x.out.groups.map Gr.e),.bool x.done]
def Sl.sz (x:Sl):Nat:=Opr.sz x.op+(Ou.sz x.out)
structure Br where
 pool:Int
 next:Int
 act:List Cl
 wait:List Cl
 deriving DecidableEq
def Br.e (x:Br):List Dat:=[.int x.pool,.int x.next,.sl (x.act.map Cl.e),.sl (x.wait.map Cl.e)]
def Br.sz (x:Br):Nat:=x.act.length+(x.wait.length)
structure Sy where
 br:Br
 slots:List Sl
 round:Int
 deriving DecidableEq
def Sy.e (x:Sy):List Dat:=[.int x.br.pool,.int x.br.next,.sl (x.br.act.map Cl.e),.sl (x.br.wait.map Cl.e),.sl (x.slots.map Sl.e),.int x.round]
def Sy.sz (x:Sy):Nat:=Br.sz x.br+(szL Sl.sz x.slots)
structure Xc where
 pend:List (List Rw)
 que:List (List Rw)
 got:List (List Rw)
 cap:Int
 deriving DecidableEq
def Xc.e (x:Xc):List Dat:=[.sl (x.pend.map rsE),.sl (x.que.map rsE),.sl (x.got.map rsE),.int x.cap]
def Xc.sz (x:Xc):Nat:=szL List.length x.pend+(szL List.length x.que+(szL List.length x.got))
structure Ck where
 so:So
 em:List Rw
 deriving DecidableEq
def Ck.e (x:Ck):List Dat:=[.sl (x.so.inp.map Rw.e),.int x.so.pos,.sl (x.so.heap.map Rw.e),.sl (x.so.dfd.map Rw.e),.sl (x.so.out.map Rw.e),.sl (x.so.runs.map rsE),.int x.so.lp,.int x.so.rp,.int x.so.ph,.int x.so.wr,.sl (x.em.map Rw.e)]
def Ck.sz (x:Ck):Nat:=So.sz x.so+(x.em.length)
theorem ZG4 {p p':Rows} (h:p.length=p'.length) (q:Rows) (r:List Dat):inR (p.length:Int) (lenI (p'++r::q))=true:=by rw[h];exact ZGa p' q r
theorem ZG5 {p p':Rows} (h:p.length=p'.length) (q:Rows) (r:List Dat):at' (p'++r::q) p.length=r:=by rw[h];exact ZFe p' q r
theorem Z5L {α:Type} (e:α→List Dat) (l:List α):lenI (l.map e)=(l.length:Int):=by show((l.map e).length:Int)=_;rw[List.length_map]
theorem ZGb {α:Type} {e:α→List Dat} {l l':List α} (h:l.length=l'.length):eqI (lenI (l.map e)) (lenI (l'.map e))=true:=eqT (by rw[Z5L,Z5L,h])
theorem ZGc {α:Type} {e:α→List Dat} {l l':List α} (h:¬l.length=l'.length):eqI (lenI (l.map e)) (lenI (l'.map e))=false:=eqF (by rw[Z5L,Z5L];omega)
theorem ZKl (a b:ByteArray):eqS a b=decide (a=b):=by
 unfold eqS
 by_cases h:a=b
 ·subst h;simp
 ·rw[decide_eq_false h]
  have:a.toList≠b.toList:=fun hh=>h (by rw[ByteArray.toList_eq,ByteArray.toList_eq]at hh;exact ByteArray.ext (Array.toList_inj.mp hh))
  simpa using this
theorem ZJu (a:ByteArray):eqS a a=true:=by simp[eqS]
set_option maxRecDepth 10000
theorem ZIn (b:Bool):(bif b then some [Dat.bool true]else some [.bool false])=some [.bool b]:=by cases b<;>rfl
theorem Z5b {α:Type} (e:α→List Dat) (l:List α):len (l.map e)=l.length:=by show(l.map e).length=_;simp
theorem ZBz {α:Type} (e:α→List Dat) (l:List α) (a:α):List.append (l.map e) [e a]=(l++[a]).map e:=by simp
theorem Z9z {α:Type} (e:α→List Dat) (l m:List α):List.append (l.map e) (m.map e)=(l++m).map e:=by simp
def win (n a b:Int):Bool:=leI a n&&leI n b
theorem ZBI (n a b:Int):callI tE Z6S [.int n,.int a,.int b]=some [.bool (win n a b)]:=by
 rw[ZG1];unfold win;cases leI a n<;>rfl
theorem ZCW (n a b:Int):callI tE Z6v [.int n,.int a,.int b]=some [.bool (win n a b)]:=by
 rw[ZH9];unfold win;cases leI a n<;>rfl
theorem Z98 {n a b:Int}:win n a b=true↔a≤n∧n≤b:=by simp[win,leI]
def Rw.ok (r:Rw):Bool:=win r.k 0 9&&(win r.v 0 99&&win r.w 0 3)
theorem Rw.ok_iff {r:Rw}:r.ok=true↔(0≤r.k∧r.k≤9)∧(0≤r.v∧r.v≤99)∧0≤r.w∧r.w≤3:=by simp[Rw.ok,Z98]
theorem ZCo (r:Rw):callI tE Z76 [.int r.k,.int r.v,.int r.w]=some [.bool r.ok]:=by
 simp only[ZDG,ZBI,gA]
 unfold Rw.ok
 cases win r.k 0 9<;>cases win r.v 0 99<;>rfl
theorem ZEg (r:Rw):callI tE Z7k [.int r.k,.int r.v,.int r.w]=some [.bool r.ok]:=by
 simp only[ZDJ,ZCW,gA]
 unfold Rw.ok
 cases win r.k 0 9<;>cases win r.v 0 99<;>rfl
theorem ZIo (l:List Rw) (h:l.length<4611686018427387904):callI tE Z9K [.sl (l.map Rw.e)]=some [.bool (l.all Rw.ok)]:=by
 rw[ZET]
 have:=ZCC (l:=l) (L:=Z8k (l.map Rw.e) (lenI (l.map Rw.e))) (p:=Rw.ok) (no:=some [.bool false]) (yes:=some [.bool true]) (by omega) (fun u a v e=>by
  subst e
  rw[ZAO]
  simp only[ZFO,ZFP,Z86,ZEG,cond_true,gA,Rw.e,ZCo,ZIl]) (by rw[ZAO,ZEd,cond_false])
 exact this.trans (ZIn _)
def aok (l:List Rw):Bool:=leI l.length 24&&l.all Rw.ok
theorem ZBJ (l:List Rw):callI tE Z60 [.sl (l.map Rw.e)]=some [.bool (aok l)]:=by
 rw[ZCU,Z5L]
 unfold aok
 by_cases h:(l.length:Int)≤24
 ·rw[leT h,ZIo l (by omega)];rfl
 ·rw[leF (by omega)];rfl
theorem ZA7 (l:List Rw) (h:l.length<4611686018427387904):callI tE Z5l [.sl (l.map Rw.e)]=some [.bool (aok l)]:=by
 rw[ZCV]
 have:=ZCC (l:=l) (L:=Z7P (l.map Rw.e)) (p:=Rw.ok) (no:=some [.bool false]) (yes:=some [.bool (leI l.length 24)]) (by omega) (fun u a v e=>by
  subst e
  rw[Z9C]
  simp only[ZFO,ZFP,Z86,ZEG,cond_true,gA,Rw.e,ZEg,ZIl]) (by rw[Z9C,ZEd,cond_false,Z5L])
 refine this.trans ?_
 unfold aok
 cases l.all Rw.ok<;>simp
theorem Z6V {l:List Rw} (h:aok l=true):l.length≤24:=by
 simp only[aok,leI,Bool.and_eq_true,decide_eq_true_eq]at h;omega
theorem ZEh {l:List Rw} (h:aok l=true):∀r∈l,r.ok=true:=by
 simp only[aok,Bool.and_eq_true]at h;exact List.all_eq_true.mp h.2
theorem ZIp {l:List Rw}:aok l=true↔l.length≤24∧∀r∈l,r.ok=true:=by
 simp only[aok,leI,Bool.and_eq_true,decide_eq_true_eq,List.all_eq_true]
 constructor
 ·rintro ⟨h1,h2⟩;exact⟨by omega,h2⟩
 ·rintro ⟨h1,h2⟩;exact⟨by omega,h2⟩
theorem ZDm (l:List Rw) (h:l.length≤1099511627776):callI tE Z74 [.sl (l.map Rw.e)]=some [.sl (l.map Rw.e)]:=by
 rw[ZGY,Z5b,Z97 (by omega)];rfl
def Rw.cost (r:Rw):Nat:=if r.ok then 1+r.w.toNat else 0
def Z8v (l:List Rw):Nat:=(l.map Rw.cost).sum
theorem ZBY (r:Rw):r.cost≤4:=by
 unfold Rw.cost
 split
 ·rename_i h;have:=Rw.ok_iff.mp h;omega
 ·omega
theorem ZBK:Z8v []=0:=rfl
theorem ZBL (a:Rw) (l:List Rw):Z8v (a::l)=a.cost+Z8v l:=by simp[Z8v]
theorem ZEi (l m:List Rw):Z8v (l++m)=Z8v l+Z8v m:=by simp[Z8v]
theorem ZCp (l:List Rw):Z8v l≤4*l.length:=by
 induction l with
 |nil=>exact Nat.le_refl _
 |cons a l ih=>have:=ZBY a;rw[ZBL,List.length_cons];omega
theorem ZHg (r:Rw):(bif !r.ok then some [Dat.int 0]else some [.int (w64 (1+r.w))])=some [.int (r.cost:Nat)]:=by
 unfold Rw.cost
 cases h:r.ok
 ·rfl
 ·have:=Rw.ok_iff.mp h
  rw[Z5Q ⟨by omega,by omega⟩]
  simp only[Bool.not_true,cond_false,if_true]
  congr 3;omega
theorem ZBZ (r:Rw):callI tE Z5O [.int r.k,.int r.v,.int r.w]=some [.int (r.cost:Nat)]:=by
 simp only[ZFS,ZCo,gA,ZHg]
theorem ZCD (r:Rw):callI tE Z5r [.int r.k,.int r.v,.int r.w]=some [.int (r.cost:Nat)]:=by
 simp only[ZFT,ZEg,gA,ZHg]
theorem ZIq {u:List Rw} {a:Rw} {n:Int} (hu:u.length<1152921504606846976) (h:n=(Z8v u:Nat)):w64 (n+(a.cost:Nat))=((Z8v (u++[a]):Nat):Int):=by
 have h1:=ZCp u
 have h2:=ZBY a
 subst h
 rw[Z5Q ⟨by omega,by omega⟩,ZEi,ZBL,ZBK];omega
theorem ZFf (l:List Rw) (h:l.length<1152921504606846976):callI tE Z87 [.sl (l.map Rw.e)]=some [.int (Z8v l:Nat)]:=by
 rw[ZDy]
 have:=Z6d (l:=l) (L:=fun s=>Z7O s (l.map Rw.e) (lenI (l.map Rw.e))) (F:=fun _ _=>some [Dat.int (Z8v l:Nat)]) (I:=fun s u _=>s=(Z8v u:Nat)) (by omega) (fun u a v s e hI=>.inl ⟨(Z8v (u++[a]):Nat),by
  subst e
  have hu:u.length<1152921504606846976:=by simp at h;omega
  show Z7O _ _ _ _=_
  rw[ZA3]
  simp only[ZFO,ZFP,Z86,ZEG,cond_true,gA,Rw.e,ZBZ,ZIq hu hI],rfl,rfl⟩) (fun s hs=>by rw[ZA3,ZEd,cond_false,hs]) 0 rfl
 exact this
theorem ZBM (l:List Rw) (h:l.length<1152921504606846976):callI tE Z6b [.sl (l.map Rw.e)]=some [.int (Z8v l:Nat)]:=by
 rw[ZE3]
 have:=Z6d (l:=l) (L:=fun s=>Z7R (l.map Rw.e) s) (F:=fun _ _=>some [Dat.int (Z8v l:Nat)]) (I:=fun s u _=>s=(Z8v u:Nat)) (by omega) (fun u a v s e hI=>.inl ⟨(Z8v (u++[a]):Nat),by
  subst e
  have hu:u.length<1152921504606846976:=by simp at h;omega
  show Z7R _ _ _=_
  rw[ZA4]
  simp only[ZFO,ZFP,Z86,ZEG,cond_true,gA,Rw.e,ZCD,ZIq hu hI],rfl,rfl⟩) (fun s hs=>by rw[ZA4,ZEd,cond_false,hs]) 0 rfl
 exact this
def ord (a b:Int):Int:=if a<b then-1 else if b<a then 1 else 0
def ZIf (a b:Rw):Int:=if ord a.k b.k≠0 then ord a.k b.k else if ord a.v b.v≠0 then ord a.v b.v else ord a.w b.w
theorem ZJv (a b:Int):callI tE ZA2 [.int a,.int b]=some [.int (ord a b)]:=by
 rw[ZGX]
 unfold ord
 by_cases h:a<b
 ·rw[ltT h,if_pos h];rfl
 ·rw[ltF (by omega),if_neg h]
  by_cases h2:b<a
  ·rw[ltT h2,if_pos h2];rfl
  ·rw[ltF (by omega),if_neg h2];rfl
theorem ZCE (a b:Rw):callI tE Z5R [.int a.k,.int a.v,.int a.w,.int b.k,.int b.v,.int b.w]=some [.int (ZIf a b)]:=by
 simp only[ZCm,ZJv,gA,ZIl]
 unfold ZIf
 by_cases h:ord a.k b.k=0
 ·rw[eqT h,if_neg (by simpa using h)]
  by_cases h2:ord a.v b.v=0
  ·rw[eqT h2,if_neg (by simpa using h2)];rfl
  ·rw[eqF h2,if_pos h2];rfl
 ·rw[eqF h,if_pos h];rfl
theorem ZBa (a b:Rw):callI tE Z5j [.int a.k,.int a.v,.int a.w,.int b.k,.int b.v,.int b.w]=some [.int (ZIf a b)]:=by
 have step:∀(i:Nat) (x y:Int) (rest:Option (List Dat)),i<3→gn (at' [[Dat.int a.k],[.int a.v],[.int a.w]] i)=x→gn (at' [[Dat.int b.k],[.int b.v],[.int b.w]] i)=y→Z6Z (w64 ((i:Int)+1)) [[.int a.k],[.int a.v],[.int a.w]] [[.int b.k],[.int b.v],[.int b.w]]=rest→
   Z6Z (i:Int) [[.int a.k],[.int a.v],[.int a.w]] [[.int b.k],[.int b.v],[.int b.w]]=if ord x y≠0 then some [.int (ord x y)]else rest:=fun i x y rest hi hx hy hr=>by
  rw[Z9P,ltT (by omega),ZDl (by omega) (show(i:Int)<lenI [[Dat.int a.k],[.int a.v],[.int a.w]]by show(i:Int)<3;omega),ZDl (by omega) (show(i:Int)<lenI [[Dat.int b.k],[.int b.v],[.int b.w]]by show(i:Int)<3;omega),Z86,hx,hy,hr]
  unfold ord
  by_cases h:x<y
  ·rw[ltT h];simp[h]
  ·rw[ltF (by omega)]
   by_cases h2:y<x
   ·rw[ltT h2];simp[h,h2]
   ·rw[ltF (by omega)];simp[h,h2]
 rw[ZCn]
 have e3:Z6Z (w64 (((2:Nat):Int)+1)) [[.int a.k],[.int a.v],[.int a.w]] [[.int b.k],[.int b.v],[.int b.w]]=some [.int 0]:=by
  rw[Z9P];rfl
 have e2:=step 2 a.w b.w _ (by omega) rfl rfl e3
 have e1:=step 1 a.v b.v _ (by omega) rfl rfl e2
 have e0:=step 0 a.k b.k _ (by omega) rfl rfl e1
 refine e0.trans ?_
 unfold ZIf
 by_cases h:ord a.k b.k=0<;>by_cases h2:ord a.v b.v=0<;>by_cases h3:ord a.w b.w=0<;>simp[h,h2,h3]
theorem ZGd {a b:Int}:ord a b=0↔a=b:=by
 unfold ord
 split
 ·omega
 ·split<;>omega
theorem ZHA {a b:Int}:ord a b<0↔a<b:=by
 unfold ord
 split
 ·omega
 ·split<;>omega
theorem ZHB {a b:Int}:0<ord a b↔b<a:=by
 unfold ord
 split
 ·omega
 ·split<;>omega
def Rw.lt (a b:Rw):Prop:=a.k<b.k∨a.k=b.k∧(a.v<b.v∨a.v=b.v∧a.w<b.w)
instance (a b:Rw):Decidable (Rw.lt a b):=by unfold Rw.lt;infer_instance
theorem ZKm {a b:Rw}:ZIf a b<0↔Rw.lt a b:=by
 unfold ZIf Rw.lt
 by_cases h:ord a.k b.k=0
 ·have:=ZGd.mp h
  rw[if_neg (by simpa using h)]
  by_cases h2:ord a.v b.v=0
  ·have:=ZGd.mp h2
   rw[if_neg (by simpa using h2),ZHA];omega
  ·have h3:=mt ZGd.mpr h2
   rw[if_pos h2,ZHA];omega
 ·have h3:=mt ZGd.mpr h
  rw[if_pos h,ZHA];omega
theorem ZIr {a b:Rw}:0<ZIf a b↔Rw.lt b a:=by
 unfold ZIf Rw.lt
 by_cases h:ord a.k b.k=0
 ·have:=ZGd.mp h
  rw[if_neg (by simpa using h)]
  by_cases h2:ord a.v b.v=0
  ·have:=ZGd.mp h2
   rw[if_neg (by simpa using h2),ZHB];omega
  ·have h3:=mt ZGd.mpr h2
   rw[if_pos h2,ZHB];omega
 ·have h3:=mt ZGd.mpr h
  rw[if_pos h,ZHB];omega
theorem Rw.eq_of {a b:Rw} (h1:a.k=b.k) (h2:a.v=b.v) (h3:a.w=b.w):a=b:=by cases a;cases b;simp_all
theorem Rw.lt_or {a b:Rw}:Rw.lt a b∨a=b∨Rw.lt b a:=by
 unfold Rw.lt
 by_cases h1:a.k=b.k<;>by_cases h2:a.v=b.v<;>by_cases h3:a.w=b.w
 ·exact .inr (.inl (Rw.eq_of h1 h2 h3))
 all_goals omega
theorem Rw.lt_irr (a:Rw):¬Rw.lt a a:=by unfold Rw.lt;omega
theorem Rw.lt_tr {a b c:Rw} (h:Rw.lt a b) (h2:Rw.lt b c):Rw.lt a c:=by unfold Rw.lt at*;omega
def Rw.le (a b:Rw):Prop:=¬Rw.lt b a
instance (a b:Rw):Decidable (Rw.le a b):=by unfold Rw.le;infer_instance
theorem Rw.le_rfl (a:Rw):Rw.le a a:=Rw.lt_irr a
theorem Rw.le_tr {a b c:Rw} (h:Rw.le a b) (h2:Rw.le b c):Rw.le a c:=by
 intro h3
 rcases Rw.lt_or (a:=a) (b:=b)with q|q|q
 ·exact h2 (Rw.lt_tr h3 q)
 ·subst q;exact h2 h3
 ·exact h q
theorem Rw.le_antisymm {a b:Rw} (h:Rw.le a b) (h2:Rw.le b a):a=b:=by
 rcases Rw.lt_or (a:=a) (b:=b)with q|q|q
 ·exact absurd q h2
 ·exact q
 ·exact absurd q h
theorem Rw.le_total (a b:Rw):Rw.le a b∨Rw.le b a:=by
 rcases Rw.lt_or (a:=a) (b:=b)with q|q|q
 ·exact .inl fun h=>Rw.lt_irr a (Rw.lt_tr q h)
 ·subst q;exact .inl (Rw.le_rfl a)
 ·exact .inr fun h=>Rw.lt_irr a (Rw.lt_tr h q)
theorem Rw.lt_le {a b:Rw} (h:Rw.lt a b):Rw.le a b:=fun h2=>Rw.lt_irr a (Rw.lt_tr h h2)
theorem ZAk (a b:Rw):ltI (ZIf a b) 0=decide (Rw.lt a b):=by
 simp only[ltI,ZKm]
theorem ZHh (a b:Rw):ltI 0 (ZIf a b)=decide (Rw.lt b a):=by
 simp only[ltI,ZIr]
theorem ZG6 (a b:Rw):leI (ZIf a b) 0=decide (Rw.le a b):=by
 have:=ZIr (a:=a) (b:=b)
 simp only[leI,Rw.le]
 congr 1
 exact propext ⟨fun h h2=>by have:=this.mpr h2;omega,fun h=>by have:=mt this.mp h;omega⟩
theorem ZHi (a b:Rw):(eqI a.k b.k&&(eqI a.v b.v&&(eqI a.w b.w&&Bool.true)))=decide (a=b):=by
 have e:decide (a=b)=(decide (a.k=b.k)&&(decide (a.v=b.v)&&decide (a.w=b.w))):=by
  cases a;cases b
  simp only[Rw.mk.injEq,Bool.decide_and]
 simp only[e,eqI,Bool.and_true]
theorem ZGe (l l':List Rw) (h:l.length≤1152921504606846976):callI tE Z7q [.sl (l.map Rw.e),.sl (l'.map Rw.e)]=some [.bool (decide (l=l'))]:=by
 rw[ZGW]
 by_cases hll:l.length=l'.length
 ·rw[ZGb hll,Bool.not_true,cond_false]
  have:=ZEf (L:=fun x y i=>Z9y x y (lenI x) i) (e:=Rw.e) (P:=fun _=>True) (fun p q p' q' a b _ hpl hlt=>by
   rw[ZBG]
   simp only[ZHe,ZGa,Z86,ZFe,cond_true,cond_false,gA,ZG4 hpl,ZG5 hpl,Rw.e,ZHi,ZIl]) (fun p p' hpl=>by
   rw[ZBG,ZHf,cond_false]) l l' [] [] rfl hll (fun a ha=>trivial) (by simp;omega)
  simpa using this
 ·rw[ZGc hll,Bool.not_false,cond_true,decide_eq_false (fun e=>hll (by rw[e]))]
theorem ZHj (l l':List Rw) (h:l.length≤1152921504606846976):callI tE Z81 [.sl (l.map Rw.e),.sl (l'.map Rw.e)]=some [.bool (decide (l=l'))]:=by
 rw[ZG3]
 by_cases hll:l.length=l'.length
 ·rw[ZGb hll,Bool.not_true,cond_false]
  have:=ZEf (L:=Z9Q) (e:=Rw.e) (P:=fun _=>True) (fun p q p' q' a b _ hpl hlt=>by
   rw[ZB2]
   simp only[ZHe,ZGa,Z86,ZFe,cond_true,cond_false,gA,ZG4 hpl,ZG5 hpl,Rw.e,ZHi,ZIl]) (fun p p' hpl=>by
   rw[ZB2,ZHf,cond_false]) l l' [] [] rfl hll (fun a ha=>trivial) (by simp;omega)
  simpa using this
 ·rw[ZGc hll,Bool.not_false,cond_true,decide_eq_false (fun e=>hll (by rw[e]))]
def Cu (b:Rows) (i:Int):Prop:=0≤i∧i≤b.length∧b.length≤1048576
theorem ZLG (n:Int):Go.bits Go.BinOp.and .i64 n 255=n%256:=by
 have h255:(BitVec.ofInt 64 255).toNat=2^8-1:=by decide
 have key:(BitVec.ofInt 64 n&&&BitVec.ofInt 64 255).toNat=(n%((2^64:Nat):Int)).toNat%2^8:=by
  rw[BitVec.toNat_and,BitVec.toNat_ofInt,h255,Nat.and_two_pow_sub_one_eq_mod]
 show w64 (((BitVec.ofInt 64 n&&&BitVec.ofInt 64 255).toNat:Nat):Int)=n%256
 rw[key,Z5Q ⟨by omega,by omega⟩]
 omega
theorem ZEH (n:Int):0≤Go.bits Go.BinOp.and .i64 n 255∧Go.bits Go.BinOp.and .i64 n 255≤255:=by
 rw[ZLG];omega
theorem ZIs {b:Rows} {i h:Int} (c:Cu b i):∃r i' h',callI tE Z7u [.sl b,.int i,.int h]=some [.int r,.sl b,.int i',.int h']∧Cu b i'∧0≤r∧r≤255:=by
 obtain⟨c1,c2,c3⟩:=c
 rw[ZFx]
 by_cases hi:i<b.length
 ·rw[ltT (show i<lenI b from hi),cond_true,ZDl c1 (show i<lenI b from hi),cond_true]
  exact⟨_,_,_,rfl,⟨by rw[Z5Q ⟨by omega,by omega⟩];omega,by rw[Z5Q ⟨by omega,by omega⟩];omega,c3⟩,(ZEH _).1,(ZEH _).2⟩
 ·rw[ltF (show lenI b≤i by show(b.length:Int)≤i;omega),cond_false]
  exact⟨_,_,_,rfl,⟨c1,c2,c3⟩,(ZEH _).1,(ZEH _).2⟩
theorem ZCq {b:Rows} {i h:Int} (n:Int) (c:Cu b i):∃r i' h',callI tE Z6H [.sl b,.int i,.int h,.int n]=some [.int r,.sl b,.int i',.int h']∧Cu b i'∧0≤r∧(0<n→r<n)∧(n≤0→r=0):=by
 rw[ZFQ]
 by_cases h0:n≤0
 ·rw[leT h0,cond_true]
  exact⟨0,i,h,rfl,c,by omega,by omega,fun _=>rfl⟩
 ·rw[leF (by omega),cond_false]
  by_cases h1:n≤256
  ·rw[leT h1,cond_true]
   obtain⟨r,i1,h1',e1,c1,p1,q1⟩:=ZIs (h:=h) c
   rw[e1]
   simp only[gA]
   rw[eqF (by omega)]
   exact⟨_,_,_,rfl,c1,Int.tmod_nonneg _ p1,fun _=>Int.tmod_lt_of_pos _ (by omega),fun hh=>by omega⟩
  ·rw[leF (by omega),cond_false]
   obtain⟨x,i1,h1',e1,c1,p1,q1⟩:=ZIs (h:=h) c
   obtain⟨y,i2,h2',e2,c2,p2,q2⟩:=ZIs (h:=h1') c1
   obtain⟨z,i3,h3',e3,c3,p3,q3⟩:=ZIs (h:=h2') c2
   obtain⟨w,i4,h4',e4,c4,p4,q4⟩:=ZIs (h:=h3') c3
   simp only[e1,e2,e3,e4,gA]
   rw[eqF (by omega)]
   have a1:w64 (x*16777216)=x*16777216:=Z5Q ⟨by omega,by omega⟩
   have a2:w64 (y*65536)=y*65536:=Z5Q ⟨by omega,by omega⟩
   have a3:w64 (x*16777216+y*65536)=x*16777216+y*65536:=Z5Q ⟨by omega,by omega⟩
   have a4:w64 (z*256)=z*256:=Z5Q ⟨by omega,by omega⟩
   have a5:w64 (x*16777216+y*65536+z*256)=x*16777216+y*65536+z*256:=Z5Q ⟨by omega,by omega⟩
   have a6:w64 (x*16777216+y*65536+z*256+w)=x*16777216+y*65536+z*256+w:=Z5Q ⟨by omega,by omega⟩
   rw[a1,a2,a3,a4,a5,a6]
   exact⟨_,_,_,rfl,c4,Int.tmod_nonneg _ (by omega),fun _=>Int.tmod_lt_of_pos _ (by omega),fun hh=>by omega⟩
theorem ZIt {b:Rows} {i h:Int} (n:Int) (c:Cu b i):∃t i' h',callI tE Z7w [.sl b,.int i,.int h,.int n]=some [.bool t,.sl b,.int i',.int h']∧Cu b i':=by
 obtain⟨r,i1,h1,e1,c1,_⟩:=ZCq (h:=h) n c
 rw[ZFz,e1]
 simp only[gA]
 exact⟨_,_,_,rfl,c1⟩
theorem ZLH {L:Rows} {k:Nat} (h:k<L.length):at' L k∈L:=by
 show L.getD k []∈L
 rw[List.getD_eq_getElem?_getD,List.getElem?_eq_getElem h]
 exact List.getElem_mem h
theorem ZB3 {b:Rows} {i h:Int} (L:Rows) (p:Int→Bool) (hL:0<L.length) (hp:(L.all fun r=>p (gn r))=true) (c:Cu b i):
  ∃r i' h',callI tE Z64 [.sl b,.int i,.int h,.sl L]=some [.int r,.sl b,.int i',.int h']∧Cu b i'∧p r=true:=by
 obtain⟨r,i1,h1,e1,c1,p1,p2,_⟩:=ZCq (h:=h) (lenI L) c
 have hlt:=p2 (show(0:Int)<(L.length:Int)by omega)
 rw[ZDx,e1]
 simp only[gA]
 rw[ZDl p1 hlt,cond_true]
 have hm:tn r<L.length:=by
  have h2:r<(L.length:Int):=hlt
  show r.toNat<L.length
  omega
 exact⟨_,_,_,rfl,c1,List.all_eq_true.mp hp _ (ZLH hm)⟩
def btw (a b x:Int):Bool:=decide (a≤x)&&decide (x≤b)
theorem ZEj {a b x:Int}:btw a b x=true↔a≤x∧x≤b:=by simp[btw]
theorem ZME {b:Rows} {i h:Int} (n:Int) (c:Cu b i) (hn:0<n) (hn2:n≤10):∃(r:Rw) (i' h':Int),callI tE ZAy [.sl b,.int i,.int h,.int n]=some [.int r.k,.int r.v,.int r.w,.sl b,.int i',.int h']∧Cu b i'∧r.ok=true:=by
 obtain⟨x,i1,h1,e1,c1,p1,q1,_⟩:=ZCq (h:=h) n c
 obtain⟨y,i2,h2,e2,c2,p2,q2,_⟩:=ZCq (h:=h1) 100 c1
 obtain⟨z,i3,h3,e3,c3,p3⟩:=ZB3 (h:=h2) [[.int 0],[.int 0],[.int 1],[.int 2],[.int 3]] (btw 0 3) (by decide) rfl c2
 have:=ZEj.mp p3
 have:=q1 hn
 have:=q2 (by omega)
 rw[ZGU]
 simp only[e1,e2,e3,gA]
 exact⟨⟨x,y,z⟩,_,_,rfl,c3,Rw.ok_iff.mpr (show(0≤x∧x≤9)∧(0≤y∧y≤99)∧0≤z∧z≤3 by omega)⟩
theorem ZKL {b:Rows} (keys z:Int) (hk:0<keys) (hk2:keys≤10):∀(n:Nat) (i h:Int) (acc:List Rw),Cu b i→acc.length+n≤100000→(∀r∈acc,r.ok=true)→
  ∃(l:List Rw) (i' h':Int),Z9O z keys n b i h (acc.map Rw.e)=some [.sl (l.map Rw.e),.sl b,.int i',.int h']∧Cu b i'∧(∀r∈l,r.ok=true)∧l.length=acc.length+n
 |0,i,h,acc,c,_,ha=>by
  rw[ZB0,ltF (by omega),cond_false]
  exact⟨acc,i,h,rfl,c,ha,rfl⟩
 |n+1,i,h,acc,c,hl,ha=>by
  obtain⟨r,i1,h1,e1,c1,hr⟩:=ZME (h:=h) keys c hk hk2
  rw[ZB0,ltT (by omega),cond_true,e1]
  simp only[gA,Z5b]
  rw[show fitM (Nat.succ acc.length) 24=true from Z97 (by omega),cond_true,show([[Dat.int r.k,.int r.v,.int r.w]]:Rows)=[r.e]from rfl,ZBz,show w64 (((n+1:Nat):Int)-1)=(n:Int)by rw[Z5Q ⟨by omega,by omega⟩];omega]
  obtain⟨l,i',h',e2,c2,hr2,hl2⟩:=ZKL keys z hk hk2 n i1 h1 (acc++[r]) c1 (by simp;omega) (fun x hx=>by
   simp only[List.mem_append,List.mem_cons,List.not_mem_nil,or_false]at hx
   rcases hx with hx|rfl
   ·exact ha x hx
   ·exact hr)
  exact⟨l,i',h',e2,c2,hr2,by rw[hl2];simp;omega⟩
theorem ZJw {b:Rows} {i h:Int} (most:Int) (c:Cu b i) (hm:0≤most) (hm2:most≤1000):∃(l:List Rw) (i' h':Int),callI tE Z7v [.sl b,.int i,.int h,.int most]=some [.sl (l.map Rw.e),.sl b,.int i',.int h']∧Cu b i'∧(∀r∈l,r.ok=true)∧(l.length:Int)≤most:=by
 obtain⟨k,i1,h1,e1,c1,p1⟩:=ZB3 (h:=h) [[.int 1],[.int 2],[.int 4],[.int 10]] (btw 1 10) (by decide) rfl c
 have:=ZEj.mp p1
 obtain⟨n,i2,h2,e2,c2,p2,q2,_⟩:=ZCq (h:=h1) (most+1) c1
 rw[ZFy,show w64 (most+1)=most+1 from Z5Q ⟨by omega,by omega⟩]
 simp only[e1,e2,gA]
 obtain⟨m,rfl⟩:∃m:Nat,n=m:=⟨n.toNat,by omega⟩
 have:=q2 (by omega)
 obtain⟨l,i',h',e3,c3,hr,hl⟩:=ZKL k 0 (by omega) (by omega) m i2 h2 [] c2 (by simp;omega) (by simp)
 exact⟨l,i',h',e3,c3,hr,by rw[hl];simp;omega⟩
def Rw.sm (r:Rw):Prop:=(-1≤r.k∧r.k≤10)∧(-1≤r.v∧r.v≤100)∧-1≤r.w∧r.w≤4
theorem ZJx {r:Rw} (h:r.ok=true):r.sm:=by
 have:=Rw.ok_iff.mp h
 unfold Rw.sm;omega
theorem ZMW {b:Rows} {i h:Int} (c:Cu b i):∃(r:Rw) (i' h':Int),callI tE ZBv [.sl b,.int i,.int h]=some [.int r.k,.int r.v,.int r.w,.sl b,.int i',.int h']∧Cu b i'∧r.sm:=by
 obtain⟨r,i1,h1,e1,c1,p1⟩:=ZME (h:=h) 10 c (by omega) (by omega)
 obtain⟨x,i2,h2,e2,c2,_⟩:=ZCq (h:=h1) 8 c1
 obtain⟨k,i3,h3,e3,c3,p3⟩:=ZB3 (h:=h2) [[.int (-1)],[.int 10]] (btw (-1) 10) (by decide) rfl c2
 obtain⟨v,i4,h4,e4,c4,p4⟩:=ZB3 (h:=h2) [[.int (-1)],[.int 100],[.int 99]] (btw (-1) 100) (by decide) rfl c2
 obtain⟨w,i5,h5,e5,c5,p5⟩:=ZB3 (h:=h2) [[.int (-1)],[.int 4]] (btw (-1) 4) (by decide) rfl c2
 have:=ZEj.mp p3
 have:=ZEj.mp p4
 have:=ZEj.mp p5
 have hs:=ZJx p1
 unfold Rw.sm at hs
 rw[ZGV]
 simp only[e1,e2,e3,e4,e5,gA]
 cases eqI x 0
 ·cases eqI x 1
  ·cases eqI x 2
   ·exact⟨r,_,_,rfl,c2,ZJx p1⟩
   ·exact⟨⟨r.k,r.v,w⟩,_,_,rfl,c5,show(-1≤r.k∧r.k≤10)∧(-1≤r.v∧r.v≤100)∧-1≤w∧w≤4 by omega⟩
  ·exact⟨⟨r.k,v,r.w⟩,_,_,rfl,c4,show(-1≤r.k∧r.k≤10)∧(-1≤v∧v≤100)∧-1≤r.w∧r.w≤4 by omega⟩
 ·exact⟨⟨k,r.v,r.w⟩,_,_,rfl,c3,show(-1≤k∧k≤10)∧(-1≤r.v∧r.v≤100)∧-1≤r.w∧r.w≤4 by omega⟩
theorem ZLy {b:Rows} {i h:Int} (most:Int) (c:Cu b i) (hm:0≤most) (hm2:most≤1000):∃(l:List Rw) (i' h':Int),callI tE ZBX [.sl b,.int i,.int h,.int most]=some [.sl (l.map Rw.e),.sl b,.int i',.int h']∧Cu b i'∧(∀r∈l,r.sm)∧(l.length:Int)≤most+1:=by
 obtain⟨l,i1,h1,e1,c1,p1,q1⟩:=ZJw (h:=h) most c hm hm2
 obtain⟨t,i2,h2,e2,c2⟩:=ZIt (h:=h1) 14 c1
 obtain⟨r,i3,h3,e3,c3,p3⟩:=ZMW (h:=h2) c2
 rw[ZG0]
 simp only[e1,e2,e3,gA,Z5b]
 cases t
 ·exact⟨l,_,_,rfl,c2,fun r hr=>ZJx (p1 r hr),by omega⟩
 ·rw[cond_true,show fitM (Nat.succ l.length) 24=true from Z97 (by omega),cond_true,show([[Dat.int r.k,.int r.v,.int r.w]]:Rows)=[r.e]from rfl,ZBz]
  refine⟨l++[r],_,_,rfl,c3,fun x hx=>?_,by simp;omega⟩
  simp only[List.mem_append,List.mem_cons,List.not_mem_nil,or_false]at hx
  rcases hx with hx|rfl
  ·exact ZJx (p1 x hx)
  ·exact p3
theorem ZFg (x:Rows) (hx:x.length≤1048576):∀(m n:Nat) (h:Int),n+m=x.length→∃h',Z9x x h n=some [.sl x,.int 0,.int h']
 |0,n,h,hn=>by
  rw[ZBF,ltF (show lenI x≤(n:Int)by show(x.length:Int)≤n;omega)]
  exact⟨_,rfl⟩
 |m+1,n,h,hn=>by
  rw[ZBF,ltT (show(n:Int)<lenI x by show(n:Int)<(x.length:Int);omega),cond_true]
  by_cases h4:(n:Int)<4000
  ·rw[ltT h4,cond_true,ZDl (by omega) (show(n:Int)<lenI x by show(n:Int)<(x.length:Int);omega),cond_true,Z7n (by omega)]
   exact ZFg x hx m (n+1) _ (by omega)
  ·rw[ltF (by omega)]
   exact⟨_,rfl⟩
theorem ZMF (x:Rows) (hx:x.length≤1048576):∃h,callI tE ZA1 [.sl x]=some [.sl x,.int 0,.int h]∧Cu x 0:=by
 obtain⟨h,e⟩:=ZFg x hx x.length 0 (w64 (10101+lenI x)) (by omega)
 exact⟨h,by rw[ZGT];exact e,by unfold Cu;omega⟩
theorem ZCX (l l':List Rw) (h:l.length≤1152921504606846976):callI tE Z7m [.sl (l.map Rw.e),.sl (l'.map Rw.e)]=some [.bool (decide (l=l'))]:=by
 rw[ZES]
 by_cases hll:l.length=l'.length
 ·rw[ZGb hll,Bool.not_true,cond_false]
  have:=ZEf (L:=fun x y i=>Z8j x y i) (e:=Rw.e) (P:=fun _=>True) (fun p q p' q' a b _ hpl hlt=>by
   rw[ZAN]
   simp only[ZHe,ZGa,Z86,ZFe,cond_true,cond_false,gA,ZG4 hpl,ZG5 hpl,Rw.e,ZHi,ZIl]) (fun p p' hpl=>by
   rw[ZAN,ZHf,cond_false]) l l' [] [] rfl hll (fun a ha=>trivial) (by simp;omega)
  simpa using this
 ·rw[ZGc hll,Bool.not_false,cond_true,decide_eq_false (fun e=>hll (by rw[e]))]
theorem ZKn {t:TypeId} {d:Dat} (h:OkD tE (.sl t) d):∃l:Rows,d=.sl l:=by
 cases h
 exact⟨_,rfl⟩
set_option maxRecDepth 100000
noncomputable def Z7o (x0:ByteArray) (x1 x2 x3:Int):Option (List Dat):=loopK tE Z6q 0 ⟨[(0,(.s x0)),(1,(.i .i64 x1)),(2,(.i .u8 x2)),(9,(.i .i64 x3))],[]⟩
theorem Z6z (x0:ByteArray) (x1 x2 x3:Int):Z7o x0 x1 x2 x3=(bif(ltI x1 (szI x0))then(bif(ltI (w64 (x1-x3)) 11)then(bif(inR x1 (szI x0))then(bif(!(eqI (byteAt x0 x1) x2))then(Z7o x0 (w64 (x1+1)) x2 x3)else(bif(leI (szI x0) x1)then(some [(.int 0),(.int 0),(.bool Bool.false)])else(bif(inR x1 (szI x0))then(bif(!(eqI (byteAt x0 x1) x2))then(some [(.int 0),(.int 0),(.bool Bool.false)])else(bif(in3 x3 x1 (szI x0))then(((callI tE Z6I [(.str (ext x0 (tn x3) (tn x1)))])).bind (fun r0=>(bif(gb (tk 1 r0))then(some [(.int (gn r0)),(.int (w64 (x1+1))),(.bool (leI 0 (gn r0)))])else(some [(.int (gn r0)),(.int (w64 (x1+1))),(.bool Bool.false)]))))else none))else none)))else none)else(bif(leI (szI x0) x1)then(some [(.int 0),(.int 0),(.bool Bool.false)])else(bif(inR x1 (szI x0))then(bif(!(eqI (byteAt x0 x1) x2))then(some [(.int 0),(.int 0),(.bool Bool.false)])else(bif(in3 x3 x1 (szI x0))then(((callI tE Z6I [(.str (ext x0 (tn x3) (tn x1)))])).bind (fun r0=>(bif(gb (tk 1 r0))then(some [(.int (gn r0)),(.int (w64 (x1+1))),(.bool (leI 0 (gn r0)))])else(some [(.int (gn r0)),(.int (w64 (x1+1))),(.bool Bool.false)]))))else none))else none)))else(bif(leI (szI x0) x1)then(some [(.int 0),(.int 0),(.bool Bool.false)])else(bif(inR x1 (szI x0))then(bif(!(eqI (byteAt x0 x1) x2))then(some [(.int 0),(.int 0),(.bool Bool.false)])else(bif(in3 x3 x1 (szI x0))then(((callI tE Z6I [(.str (ext x0 (tn x3) (tn x1)))])).bind (fun r0=>(bif(gb (tk 1 r0))then(some [(.int (gn r0)),(.int (w64 (x1+1))),(.bool (leI 0 (gn r0)))])else(some [(.int (gn r0)),(.int (w64 (x1+1))),(.bool Bool.false)]))))else none))else none))):=(loopK_run (by kernel_rfl)).trans (by kernel_rfl)
theorem ZC0 (a0:ByteArray) (a1 a2:Int):callI tE Z6q [.str a0,.int a1,.int a2]=(Z7o a0 a1 a2 a1):=(callI_run rfl (by kernel_rfl)).trans (by kernel_rfl)
theorem ZEk (a0:ByteArray) (a1:Int):callI tE Z9L [.str a0,.int a1]=(((callI tE Z6q [(.str a0),(.int a1),(.int 58)])).bind (fun r0=>(bif(!(gb (tk 2 r0)))then(some [(.str (S [])),(.int 0),(.bool Bool.false)])else(bif(leI (szI a0) (w64 ((gn (tk 1 r0))+(gn r0))))then(some [(.str (S [])),(.int 0),(.bool Bool.false)])else(bif(inR (w64 ((gn (tk 1 r0))+(gn r0))) (szI a0))then(bif(!(eqI (byteAt a0 (w64 ((gn (tk 1 r0))+(gn r0)))) 44))then(some [(.str (S [])),(.int 0),(.bool Bool.false)])else(bif(in3 (gn (tk 1 r0)) (w64 ((gn (tk 1 r0))+(gn r0))) (szI a0))then(((callI tE Z6q [(.str a0),(.int (w64 ((w64 ((gn (tk 1 r0))+(gn r0)))+1))),(.int 59)])).bind (fun r1=>(bif(gb (tk 2 r1))then(((callI tE Z7j [(.str (ext a0 (tn (gn (tk 1 r0))) (tn (w64 ((gn (tk 1 r0))+(gn r0))))))])).bind (fun r2=>(some [(.str (ext a0 (tn (gn (tk 1 r0))) (tn (w64 ((gn (tk 1 r0))+(gn r0)))))),(.int (gn (tk 1 r1))),(.bool (eqI (gn r1) (gn r2)))])))else(some [(.str (ext a0 (tn (gn (tk 1 r0))) (tn (w64 ((gn (tk 1 r0))+(gn r0)))))),(.int (gn (tk 1 r1))),(.bool Bool.false)]))))else none))else none))))):=(callI_run rfl (by kernel_rfl)).trans (by kernel_rfl)
noncomputable def Z7f (x0:ByteArray) (x1:Int) (x2:Rows):Option (List Dat):=loopK tE Z7J 0 ⟨[(0,(.s x0)),(4,(.own (500000,0))),(5,(.i .i64 x1))],[((500000,0),(.row 9 x2 Bool.true 0 []))]⟩
theorem Z83 (x0:ByteArray) (x1:Int) (x2:Rows):Z7f x0 x1 x2=(bif(ltI x1 (szI x0))then(((callI tE Z9L [(.str x0),(.int x1)])).bind (fun r0=>(bif(!(gb (tk 2 r0)))then(some [(.sl x2),(.bool Bool.false)])else(bif(fitM (Nat.succ (len x2)) 16)then(Z7f x0 (gn (tk 1 r0)) (List.append x2 [[(.str (gs r0))]]))else none))))else(some [(.sl x2),(.bool Bool.true)])):=(loopK_run (by kernel_rfl)).trans (by kernel_rfl)
theorem ZCr (a0:ByteArray):callI tE Z7J [.str a0]=(Z7f a0 0 []):=(callI_run rfl (by kernel_rfl)).trans (by kernel_rfl)
theorem ZCY (a0 a1:ByteArray):callI tE Z7z [.str a0,.str a1]=(((callI tE Z7J [(.str a0)])).bind (fun r0=>(((callI tE Z5Z [(.int (szI a1))])).bind (fun r1=>(bif(fitS a0 (gs r1))then(bif(fitS (a0++(gs r1)) (S [58]))then(bif(fitS ((a0++(gs r1))++(S [58])) a1)then(bif(fitS (((a0++(gs r1))++(S [58]))++a1) (S [44]))then(((callI tE Z7j [(.str a1)])).bind (fun r2=>(((callI tE Z5Z [(.int (gn r2))])).bind (fun r3=>(bif(fitS ((((a0++(gs r1))++(S [58]))++a1)++(S [44])) (gs r3))then(bif(fitS (((((a0++(gs r1))++(S [58]))++a1)++(S [44]))++(gs r3)) (S [59]))then(bif(!(gb (tk 1 r0)))then(some [(.str a0),(.bool Bool.false)])else(bif(ltI 20000 (szI ((((((a0++(gs r1))++(S [58]))++a1)++(S [44]))++(gs r3))++(S [59]))))then(some [(.str a0),(.bool Bool.false)])else(some [(.str ((((((a0++(gs r1))++(S [58]))++a1)++(S [44]))++(gs r3))++(S [59]))),(.bool Bool.true)])))else none)else none)))))else none)else none)else none)else none))))):=(callI_run rfl (by kernel_rfl)).trans (by kernel_rfl)
theorem ZG7 (a0:ByteArray):callI tE Z8d [.str a0]=(((callI tE Z5N [(.int (szI a0))])).bind (fun r0=>(bif(fitS (gs r0) (S [58]))then(bif(fitS ((gs r0)++(S [58])) a0)then(bif(fitS (((gs r0)++(S [58]))++a0) (S [44]))then(((callI tE Z8c [(.str a0)])).bind (fun r1=>(((callI tE Z5N [(.int (gn r1))])).bind (fun r2=>(bif(fitS ((((gs r0)++(S [58]))++a0)++(S [44])) (gs r2))then(bif(fitS (((((gs r0)++(S [58]))++a0)++(S [44]))++(gs r2)) (S [59]))then(some [(.str ((((((gs r0)++(S [58]))++a0)++(S [44]))++(gs r2))++(S [59])))])else none)else none)))))else none)else none)else none))):=(callI_run rfl (by kernel_rfl)).trans (by kernel_rfl)
noncomputable def Z9R (x0:ByteArray) (x1 x2:Int):Option (List Dat):=loopK tE ZAV 0 ⟨[(0,(.s x0)),(1,(.i .i64 x1)),(6,(.i .i64 x2))],[]⟩
theorem Z9S (x0:ByteArray) (x1 x2:Int):Z9R x0 x1 x2=(bif(ltI x2 (szI x0))then(bif(inR x2 (szI x0))then(bif(!(eqI (byteAt x0 x2) 58))then(Z9R x0 x1 (w64 (x2+1)))else(bif(in3 x1 x2 (szI x0))then(((callI tE Z5W [(.str (ext x0 (tn x1) (tn x2)))])).bind (fun r0=>(bif(!(gb (tk 1 r0)))then(some [(.str (S [])),(.int (-1))])else(bif(ltI (gn r0) 0)then(some [(.str (S [])),(.int (-1))])else(bif(ltI (szI x0) (w64 ((w64 (x2+1))+(gn r0))))then(some [(.str (S [])),(.int (-1))])else(bif(in3 (w64 (x2+1)) (w64 ((w64 (x2+1))+(gn r0))) (szI x0))then(((callI tE Z8d [(.str (ext x0 (tn (w64 (x2+1))) (tn (w64 ((w64 (x2+1))+(gn r0))))))])).bind (fun r1=>(bif(ltI (szI x0) (w64 (x1+(szI (gs r1)))))then(some [(.str (S [])),(.int (-1))])else(bif(in3 x1 (w64 (x1+(szI (gs r1)))) (szI x0))then(bif(!(eqS (ext x0 (tn x1) (tn (w64 (x1+(szI (gs r1)))))) (gs r1)))then(some [(.str (S [])),(.int (-1))])else(some [(.str (ext x0 (tn (w64 (x2+1))) (tn (w64 ((w64 (x2+1))+(gn r0)))))),(.int (w64 (x1+(szI (gs r1)))))]))else none))))else none))))))else none))else none)else(bif(in3 x1 x2 (szI x0))then(((callI tE Z5W [(.str (ext x0 (tn x1) (tn x2)))])).bind (fun r0=>(bif(!(gb (tk 1 r0)))then(some [(.str (S [])),(.int (-1))])else(bif(ltI (gn r0) 0)then(some [(.str (S [])),(.int (-1))])else(bif(ltI (szI x0) (w64 ((w64 (x2+1))+(gn r0))))then(some [(.str (S [])),(.int (-1))])else(bif(in3 (w64 (x2+1)) (w64 ((w64 (x2+1))+(gn r0))) (szI x0))then(((callI tE Z8d [(.str (ext x0 (tn (w64 (x2+1))) (tn (w64 ((w64 (x2+1))+(gn r0))))))])).bind (fun r1=>(bif(ltI (szI x0) (w64 (x1+(szI (gs r1)))))then(some [(.str (S [])),(.int (-1))])else(bif(in3 x1 (w64 (x1+(szI (gs r1)))) (szI x0))then(bif(!(eqS (ext x0 (tn x1) (tn (w64 (x1+(szI (gs r1)))))) (gs r1)))then(some [(.str (S [])),(.int (-1))])else(some [(.str (ext x0 (tn (w64 (x2+1))) (tn (w64 ((w64 (x2+1))+(gn r0)))))),(.int (w64 (x1+(szI (gs r1)))))]))else none))))else none))))))else none)):=(loopK_run (by kernel_rfl)).trans (by kernel_rfl)
theorem ZG8 (a0:ByteArray) (a1:Int):callI tE ZAV [.str a0,.int a1]=(Z9R a0 a1 a1):=(callI_run rfl (by kernel_rfl)).trans (by kernel_rfl)
noncomputable def Z7g (x0:ByteArray) (x1:Int) (x2:Rows):Option (List Dat):=loopK tE Z7L 0 ⟨[(0,(.s x0)),(4,(.own (500000,0))),(5,(.i .i64 x1))],[((500000,0),(.row 9 x2 Bool.true 0 []))]⟩
theorem Z84 (x0:ByteArray) (x1:Int) (x2:Rows):Z7g x0 x1 x2=(bif(ltI x1 (szI x0))then(((callI tE ZAV [(.str x0),(.int x1)])).bind (fun r0=>(bif(ltI (gn (tk 1 r0)) 0)then(some [(.sl x2),(.bool Bool.false)])else(bif(fitM (Nat.succ (len x2)) 16)then(Z7g x0 (gn (tk 1 r0)) (List.append x2 [[(.str (gs r0))]]))else none))))else(some [(.sl x2),(.bool Bool.true)])):=(loopK_run (by kernel_rfl)).trans (by kernel_rfl)
theorem ZCs (a0:ByteArray):callI tE Z7L [.str a0]=(Z7g a0 0 []):=(callI_run rfl (by kernel_rfl)).trans (by kernel_rfl)
theorem ZCZ (a0 a1:ByteArray):callI tE Z80 [.str a0,.str a1]=(((callI tE Z7L [(.str a0)])).bind (fun r0=>(((callI tE Z8d [(.str a1)])).bind (fun r1=>(bif(!(gb (tk 1 r0)))then(some [(.str a0),(.bool Bool.false)])else(bif(ltI 20000 (w64 ((szI a0)+(szI (gs r1)))))then(some [(.str a0),(.bool Bool.false)])else(bif(fitS a0 (gs r1))then(some [(.str (a0++(gs r1))),(.bool Bool.true)])else none))))))):=(callI_run rfl (by kernel_rfl)).trans (by kernel_rfl)
theorem ZEl (a0:ByteArray) (a1:Int):callI tE ZAe [.str a0,.int a1]=(bif((leI 0 (bif(ltI 0 (bif(ltI (szI a0) a1)then(szI a0)else a1))then(bif(ltI (szI a0) a1)then(szI a0)else a1)else 0))&&(leI (bif(ltI 0 (bif(ltI (szI a0) a1)then(szI a0)else a1))then(bif(ltI (szI a0) a1)then(szI a0)else a1)else 0) (szI a0)))then(some [(.str (ext a0 0 (tn (bif(ltI 0 (bif(ltI (szI a0) a1)then(szI a0)else a1))then(bif(ltI (szI a0) a1)then(szI a0)else a1)else 0))))])else none):=(callI_run rfl (by kernel_rfl)).trans (by kernel_rfl)
theorem ZDM (a0:ByteArray):callI tE Z9h [.str a0]=(((callI tE Z7J [(.str a0)])).bind (fun r0=>(bif(eqI (lenI (gl r0)) 0)then(some [(.str (S [])),(.bool Bool.false)])else(bif(inR (w64 ((lenI (gl r0))-1)) (lenI (gl r0)))then(some [(.str (gs (at' (gl r0) (tn (w64 ((lenI (gl r0))-1)))))),(.bool Bool.true)])else none)))):=(callI_run rfl (by kernel_rfl)).trans (by kernel_rfl)
theorem ZDN (a0:ByteArray):callI tE Z9i [.str a0]=(((callI tE Z7L [(.str a0)])).bind (fun r0=>(bif(eqI (lenI (gl r0)) 0)then(some [(.str (S [])),(.bool Bool.false)])else(bif(inR (w64 ((lenI (gl r0))-1)) (lenI (gl r0)))then(some [(.str (gs (at' (gl r0) (tn (w64 ((lenI (gl r0))-1)))))),(.bool Bool.true)])else none)))):=(callI_run rfl (by kernel_rfl)).trans (by kernel_rfl)
theorem ZEm (a0:ByteArray) (a1:Int):callI tE ZAh [.str a0,.int a1]=(bif((leI 0 (bif(ltI 0 (bif(ltI (szI a0) a1)then(szI a0)else a1))then(bif(ltI (szI a0) a1)then(szI a0)else a1)else 0))&&(leI (bif(ltI 0 (bif(ltI (szI a0) a1)then(szI a0)else a1))then(bif(ltI (szI a0) a1)then(szI a0)else a1)else 0) (szI a0)))then(some [(.str (ext a0 0 (tn (bif(ltI 0 (bif(ltI (szI a0) a1)then(szI a0)else a1))then(bif(ltI (szI a0) a1)then(szI a0)else a1)else 0))))])else none):=(callI_run rfl (by kernel_rfl)).trans (by kernel_rfl)
theorem ZEn (l:List UInt8):(S l).size=l.length:=by simp[S,ByteArray.size]
theorem Z6c (l m:List UInt8):S l++S m=S (l++m):=by
 apply ByteArray.ext
 simp[S,ByteArray.data_append]
theorem ZLz {l m:List UInt8} (h:S l=S m):l=m:=by
 have:=congrArg (fun b:ByteArray=>b.data.toList) h
 simpa[S]using this
theorem ZM0 {l m:List UInt8}:S l=S m↔l=m:=⟨ZLz,fun h=>by rw[h]⟩
theorem ZIu (l:List UInt8) (i j:Nat):ext (S l) i j=S ((l.take j).drop i):=by
 apply ByteArray.ext
 simp[ext,S,ByteArray.data_extract,List.extract_eq_take_drop,List.drop_take]
theorem Z5z (l:List UInt8):szI (S l)=(l.length:Int):=by show((S l).size:Int)=_;rw[ZEn]
theorem ZCt (l m:List UInt8):eqS (S l) (S m)=decide (l=m):=by rw[ZKl];simp only[ZM0]
theorem Z5n {l m:List UInt8} (h:l.length+m.length≤9223372036854775807):fitS (S l) (S m)=true:=by unfold fitS;rw[ZEn,ZEn];exact ZLs h
theorem ZHk {l:List UInt8} {i:Nat} (h:i<l.length):byteAt (S l) (i:Int)=((l[i]'h).toNat:Int):=by
 unfold byteAt
 rw[dif_pos (by rw[ZEn,Int.toNat_natCast];exact h)]
 simp only[Int.toNat_natCast,S]
 rfl
theorem ZIv (n:Int):strOf [[.int n]]=S [UInt8.ofNat n.toNat]:=rfl
def dig (d:Nat):UInt8:=UInt8.ofNat (48+d)
theorem ZEo (d:Nat) (h:d<10):(dig d).toNat=48+d:=by simp[dig,UInt8.toNat_ofNat];omega
def ZH8 (n:Nat):List UInt8:=if n=0 then[]else ZH8 (n/10)++[dig (n%10)]
termination_by n
theorem ZHl:ZH8 0=[]:=by rw[ZH8,if_pos rfl]
theorem ZHm {n:Nat} (h:n≠0):ZH8 n=ZH8 (n/10)++[dig (n%10)]:=by rw[ZH8,if_neg h]
def dec (n:Nat):List UInt8:=if n=0 then[48]else ZH8 n
theorem ZDO {n:Nat} (h:n≠0):dec n=ZH8 n:=if_neg h
theorem ZIw {d:Int} (h:0≤d) (h2:d<10):S [UInt8.ofNat (IntKind.wrap .u8 (48+d)).toNat]=S [dig d.toNat]:=by
 have:IntKind.wrap .u8 (48+d)=48+d:=by
  simp only[IntKind.wrap,IntKind.signed,IntKind.bits,Bool.false_and,Bool.false_eq_true,if_false]
  omega
 rw[this]
 unfold dig
 congr 3
 omega
theorem ZJy:∀(d n:Nat),n<10^d→(ZH8 n).length≤d:=by
 intro d
 induction d with
 |zero=>
  intro n h;have:n=0:=by simpa using h
  subst this;rw[ZHl];simp
 |succ d ih=>
  intro n h
  by_cases h0:n=0
  ·subst h0;rw[ZHl];simp
  ·rw[ZHm h0,List.length_append]
   have:=ih (n/10) (by rw[Nat.pow_succ]at h;omega)
   simp;omega
theorem ZKo {n:Nat} (h:n<10) (h0:n≠0):ZH8 n=[dig n]:=by
 rw[ZHm h0,show n/10=0 by omega,ZHl,show n%10=n by omega];rfl
theorem ZHn {n:Nat} (h:n<10):dec n=[dig n]:=by
 by_cases h0:n=0
 ·subst h0;rfl
 ·rw[ZDO h0,ZKo h h0]
theorem ZHo {n:Nat} (h:10≤n):dec n=dec (n/10)++[dig (n%10)]:=by
 rw[ZDO (by omega),ZHm (by omega),ZDO (by omega)]
theorem ZG9 {P:Nat→Prop} (h1:∀n,n<10→P n) (h2:∀n,10≤n→P (n/10)→P n) (n:Nat):P n:=by
 induction n using Nat.strongRecOn with
 |ind n ih=>
  by_cases h:n<10
  ·exact h1 n h
  ·exact h2 n (by omega) (ih (n/10) (by omega))
def ZAH (c:UInt8):Bool:=decide (48≤c.toNat)&&decide (c.toNat≤57)
theorem ZGf {d:Nat} (h:d<10):ZAH (dig d)=true:=by
 unfold ZAH;rw[ZEo d h];simp;omega
theorem ZAc (n:Nat):(dec n).all ZAH=true:=by
 refine ZG9 (P:=fun n=>(dec n).all ZAH=true) (fun n h=>?_) (fun n h ih=>?_) n
 ·rw[ZHn h];simp[ZGf h]
 ·rw[ZHo h,List.all_append,ih];simp[ZGf (show n%10<10 by omega)]
theorem ZKM (n:Nat):dec n≠[]:=by
 refine ZG9 (P:=fun n=>dec n≠[]) (fun n h=>?_) (fun n h ih=>?_) n
 ·rw[ZHn h];simp
 ·rw[ZHo h];simp
def ZHC (l:List UInt8):Nat:=l.foldl (fun n c=>10*n+(c.toNat-48)) 0
theorem ZEp (l:List UInt8) (c:UInt8):ZHC (l++[c])=10*ZHC l+(c.toNat-48):=by simp[ZHC,List.foldl_append]
theorem ZBb (n:Nat):ZHC (dec n)=n:=by
 refine ZG9 (P:=fun n=>ZHC (dec n)=n) (fun n h=>?_) (fun n h ih=>?_) n
 ·rw[ZHn h];simp only[ZHC,List.foldl_cons,List.foldl_nil,ZEo n h];omega
 ·rw[ZHo h,ZEp,ih,ZEo _ (by omega)];omega
theorem ZIx {a b:Nat} (h:dec a=dec b):a=b:=by rw[←ZBb a,←ZBb b,h]
theorem ZHp:∀(l:List UInt8) (a:Nat),l.all ZAH=true→l.foldl (fun n c=>10*n+(c.toNat-48)) a+1≤(a+1)*10^l.length
 |[],a,_=>by simp
 |c::l,a,h=>by
  simp only[List.all_cons,Bool.and_eq_true,ZAH,decide_eq_true_eq]at h
  have:=ZHp l (10*a+(c.toNat-48)) (by simpa[ZAH]using h.2)
  simp only[List.foldl_cons,List.length_cons,Nat.pow_succ]
  have h2:(10*a+(c.toNat-48)+1)*10^l.length≤((a+1)*10)*10^l.length:=Nat.mul_le_mul_right _ (by omega)
  rw[show(a+1)*(10^l.length*10)=((a+1)*10)*10^l.length by rw[Nat.mul_comm (10^l.length) 10,Nat.mul_assoc]]
  omega
theorem ZGA (l:List UInt8) (h:l.all ZAH=true):ZHC l<10^l.length:=by
 have:=ZHp l 0 h
 unfold ZHC
 omega
theorem Z99 (d n:Nat) (hd:1≤d):(dec n).length≤d↔n<10^d:=by
 constructor
 ·intro h
  have:=ZGA (dec n) (ZAc n)
  rw[ZBb]at this
  exact Nat.lt_of_lt_of_le this (Nat.pow_le_pow_right (by omega) h)
 ·intro h
  by_cases h0:n=0
  ·subst h0;simpa[dec]using hd
  ·rw[ZDO h0];exact ZJy d n h
theorem ZCu (n:Nat):(dec n).head?≠some 45:=by
 intro h
 have:=List.all_eq_true.mp (ZAc n) 45 (List.mem_of_mem_head? (by rw[h];rfl))
 exact absurd this (by decide)
def fmt (n:Int):List UInt8:=if n<0 then 45::dec n.natAbs else dec n.natAbs
theorem Z9j {n:Int} (h:n<0):fmt n=45::dec n.natAbs:=if_pos h
theorem Z9k {n:Int} (h:0≤n):fmt n=dec n.natAbs:=if_neg (by omega)
theorem Z9l {a b:Int} (h:fmt a=fmt b):a=b:=by
 by_cases ha:a<0<;>by_cases hb:b<0
 ·rw[Z9j ha,Z9j hb]at h
  have:=ZIx (List.cons.inj h).2;omega
 ·rw[Z9j ha,Z9k (by omega)]at h
  exact absurd (by rw[←h];rfl) (ZCu b.natAbs)
 ·rw[Z9k (by omega),Z9j hb]at h
  exact absurd (by rw[h];rfl) (ZCu a.natAbs)
 ·rw[Z9k (by omega),Z9k (by omega)]at h
  have:=ZIx h;omega
theorem Z6Q {n:Int} (h: -9223372036854775808≤n∧n≤9223372036854775807):(fmt n).length≤20:=by
 have h1:(dec n.natAbs).length≤19:=(Z99 19 _ (by omega)).mpr (by omega)
 by_cases hn:n<0
 ·rw[Z9j hn,List.length_cons];omega
 ·rw[Z9k (by omega)];omega
open Classical in
noncomputable def ZC1 (s:List UInt8):Option Int:=if h:∃n:Int,fmt n=s∧n.natAbs<1000000000 then some h.choose else none
theorem Z9m {s:List UInt8} {n:Int}:ZC1 s=some n↔fmt n=s∧n.natAbs<1000000000:=by
 unfold ZC1
 constructor
 ·intro h
  split at h
  ·rename_i hx;cases h;exact hx.choose_spec
  ·cases h
 ·intro h
  have hx:∃n:Int,fmt n=s∧n.natAbs<1000000000:=⟨n,h⟩
  rw[dif_pos hx]
  exact congrArg some (Z9l (hx.choose_spec.1.trans h.1.symm))
theorem ZEq {s:List UInt8}:ZC1 s=none↔∀n:Int,fmt n=s→¬n.natAbs<1000000000:=by
 constructor
 ·intro h n h1 h2
  rw[Z9m.mpr ⟨h1,h2⟩]at h;cases h
 ·intro h
  cases hp:ZC1 s with
  |none=>rfl
  |some n=>have:=Z9m.mp hp;exact absurd this.2 (h n this.1)
theorem ZIN {n:Int} (h:n.natAbs<1000000000):ZC1 (fmt n)=some n:=Z9m.mpr ⟨rfl,h⟩
noncomputable def pI (s:List UInt8):List Dat:=match ZC1 s with
 |some n=>[.int n,.bool true]
 |none=>[.int 0,.bool false]
theorem ZHq {n:Int} (h:0≤n∧n<18446744073709551616):IntKind.wrap .u64 n=n:=by
 simp only[IntKind.wrap,IntKind.signed,IntKind.bits,Bool.false_and,Bool.false_eq_true,if_false]
 omega
theorem ZIy (n:Nat):Int.tdiv (n:Int) 10=((n/10:Nat):Int):=by rw[Int.tdiv_eq_ediv_of_nonneg (by omega)];omega
theorem ZIz (n:Nat):Int.tmod (n:Int) 10=((n%10:Nat):Int):=by rw[Int.tmod_eq_emod_of_nonneg (by omega)];omega
theorem ZFh:∀n:Nat,n<18446744073709551616→callI tE Z8D [.int (n:Int)]=some [.str (S (dec n))]:=by
 intro n
 refine ZG9 (P:=fun n=>n<18446744073709551616→callI tE Z8D [.int (n:Int)]=some [.str (S (dec n))]) (fun n h _=>?_) (fun n h ih hn=>?_) n
 ·rw[ZCQ,ltT (by omega),cond_true,ZHq (by omega),ZIv,ZIw (by omega) (by omega),ZHn h]
  rfl
 ·rw[ZCQ,ltF (by omega),cond_false,ZIy,ZIz,ZHq (by omega),ih (by omega)]
  simp only[ZFd,ZJr]
  rw[ZHq (by omega),ZIv,ZIw (by omega) (by omega)]
  have hl:(dec (n/10)).length≤20:=(Z99 20 _ (by omega)).mpr (by omega)
  rw[show fitS _ _=true from Z5n (by simp;omega),cond_true,Z6c,ZHo h]
  rfl
theorem Z6M {n:Int} (h:I64 n):callI tE Z5Z [.int n]=some [.str (S (fmt n))]:=by
 obtain⟨h1,h2⟩:=h
 rw[ZE0]
 by_cases hn:n<0
 ·rw[ltT hn,cond_true]
  have e1:IntKind.wrap .u64 n=n+18446744073709551616:=by
   simp only[IntKind.wrap,IntKind.signed,IntKind.bits,Bool.false_and,Bool.false_eq_true,if_false]
   omega
  have e2:IntKind.wrap .u64 (0-(n+18446744073709551616))=(n.natAbs:Int):=by
   simp only[IntKind.wrap,IntKind.signed,IntKind.bits,Bool.false_and,Bool.false_eq_true,if_false]
   omega
  have hl:(dec n.natAbs).length≤20:=(Z99 20 _ (by omega)).mpr (by omega)
  rw[e1,e2,ZFh _ (by omega)]
  simp only[ZFd,ZJr]
  rw[show fitS _ _=true from Z5n (by simp;omega),cond_true,Z6c,Z9j hn]
  rfl
 ·rw[ltF (by omega),cond_false,ZHq (by omega),show n=(n.natAbs:Int)by omega,ZFh _ (by omega)]
  simp only[ZFd,ZJr]
  rw[Z9k (by omega)]
  rfl
theorem ZJp (u v:List UInt8) (c:UInt8):ltI (u.length:Int) (szI (S (u++c::v)))=true:=ltT (by rw[Z5z];simp only[List.length_append,List.length_cons];omega)
theorem ZJq (u v:List UInt8) (c:UInt8):inR (u.length:Int) (szI (S (u++c::v)))=true:=ZDl (by omega) (by rw[Z5z];simp only[List.length_append,List.length_cons];omega)
theorem ZIg (u v:List UInt8) (c:UInt8):byteAt (S (u++c::v)) (u.length:Int)=(c.toNat:Int):=by
 rw[ZHk (by simp)];simp
theorem ZE8 (l:List UInt8):ltI (l.length:Int) (szI (S l))=false:=ltF (by rw[Z5z];omega)
theorem ZJ0 (c:UInt8):c.toNat<256:=UInt8.toNat_lt c
theorem ZCR (c d:UInt8):eqI (c.toNat:Int) (d.toNat:Int)=decide (c=d):=by
 unfold eqI
 by_cases h:c=d
 ·subst h;simp
 ·have:¬c.toNat=d.toNat:=fun e=>h (UInt8.toNat_inj.mp e)
  simp[h];omega
def ZJz (x:Nat) (c:UInt8):Nat:=(37*x+c.toNat+1)%65521
def chk (s:List UInt8):Nat:=s.foldl ZJz 11
theorem ZHD (x:Nat) (c:UInt8):ZJz x c<65521:=Nat.mod_lt _ (by decide)
theorem ZFi:∀(s:List UInt8) (x:Nat),x<65521→s.foldl ZJz x<65521
 |[],_,h=>h
 |c::s,x,_=>ZFi s _ (ZHD x c)
theorem ZFj (s:List UInt8):chk s<65521:=ZFi s 11 (by decide)
theorem ZHr {x:Nat} (h:x<65521) (c:UInt8):Int.tmod (w64 ((w64 ((w64 (37*(x:Int)))+(w64 (c.toNat:Int))))+1)) 65521=((ZJz x c:Nat):Int):=by
 have:=ZJ0 c
 rw[Z5Q (n:=37*(x:Int)) ⟨by omega,by omega⟩,Z5Q (n:=(c.toNat:Int)) ⟨by omega,by omega⟩,Z5Q (n:=37*(x:Int)+(c.toNat:Int)) ⟨by omega,by omega⟩,Z5Q ⟨by omega,by omega⟩,Int.tmod_eq_emod_of_nonneg (by omega)]
 unfold ZJz
 omega
theorem ZBN {c:UInt8}:ZAH c=true↔48≤c.toNat∧c.toNat≤57:=by simp[ZAH]
def ZGg (n:Nat) (c:UInt8):Nat:=10*n+(c.toNat-48)
theorem ZLI {c:UInt8} (h:48≤c.toNat):IntKind.wrap .u8 ((c.toNat:Int)-48)=((c.toNat-48:Nat):Int):=by
 have:=ZJ0 c
 simp only[IntKind.wrap,IntKind.signed,IntKind.bits,Bool.false_and,Bool.false_eq_true,if_false]
 omega
theorem ZKN {n:Nat} (hn:n<100000000000) {c:UInt8} (h:48≤c.toNat):w64 ((w64 (10*(n:Int)))+(w64 (IntKind.wrap .u8 ((c.toNat:Int)-48))))=((ZGg n c:Nat):Int):=by
 have:=ZJ0 c
 rw[ZLI h,Z5Q (n:=10*(n:Int)) ⟨by omega,by omega⟩,Z5Q (n:=((c.toNat-48:Nat):Int)) ⟨by omega,by omega⟩,Z5Q ⟨by omega,by omega⟩]
 unfold ZGg
 omega
theorem ZKp {n:Nat} (hn:n<100000000000) {c:UInt8} (h:48≤c.toNat):w64 ((w64 ((n:Int)*10))+(w64 (IntKind.wrap .u8 ((c.toNat:Int)-48))))=((ZGg n c:Nat):Int):=by
 rw[Int.mul_comm];exact ZKN hn h
theorem ZGh {n:Int}:∀c∈fmt n,ZAH c=true∨c=45:=by
 intro c hc
 unfold fmt at hc
 split at hc
 ·rcases List.mem_cons.mp hc with rfl|hc
  ·exact .inr rfl
  ·exact .inl (List.all_eq_true.mp (ZAc _) c hc)
 ·exact .inl (List.all_eq_true.mp (ZAc _) c hc)
def ZAX (b:UInt8):List UInt8→List UInt8→List (List UInt8)
 |cur,[]=>[cur]
 |cur,c::v=>if c=b then cur::ZAX b [] v else ZAX b (cur++[c]) v
def Z6a (b:UInt8) (s:List UInt8):List (List UInt8):=ZAX b [] s
def Z85 (b:List UInt8):List (List UInt8)→List UInt8
 |[]=>[]
 |[x]=>x
 |x::y::r=>x++b++Z85 b (y::r)
theorem ZHs (b:UInt8):∀(v cur:List UInt8),ZAX b cur v≠[]
 |[],_=>by simp[ZAX]
 |c::v,cur=>by
  unfold ZAX
  split
  ·simp
  ·exact ZHs b v _
theorem Z9D {b x:List UInt8} {r:List (List UInt8)} (h:r≠[]):Z85 b (x::r)=x++b++Z85 b r:=by
 cases r with
 |nil=>exact absurd rfl h
 |cons y r=>rfl
theorem ZDP (b:UInt8):∀(v cur:List UInt8),Z85 [b] (ZAX b cur v)=cur++v
 |[],cur=>by simp[ZAX,Z85]
 |c::v,cur=>by
  unfold ZAX
  split
  ·rename_i h
   rw[Z9D (ZHs b v []),ZDP b v [],h];simp
  ·rw[ZDP b v];simp
theorem ZEI (b:UInt8) (s:List UInt8):Z85 [b] (Z6a b s)=s:=ZDP b s []
theorem ZEr (b:UInt8):∀(x v cur:List UInt8),b∉x→ZAX b cur (x++v)=ZAX b (cur++x) v
 |[],v,cur,_=>by simp
 |c::x,v,cur,h=>by
  simp only[List.mem_cons,not_or]at h
  have hc:c≠b:=fun e=>h.1 e.symm
  rw[List.cons_append,ZAX,if_neg hc,ZEr b x v _ h.2];simp
theorem ZCF (b:UInt8):∀(l:List (List UInt8)),l≠[]→(∀x∈l,b∉x)→Z6a b (Z85 [b] l)=l
 |[],h,_=>absurd rfl h
 |[x],_,h=>by
  have:=ZEr b x [] [] (h x (by simp))
  simp only[List.append_nil,List.nil_append]at this
  simp only[Z6a,Z85,this,ZAX]
 |x::y::r,_,h=>by
  have ih:=ZCF b (y::r) (by simp) (fun z hz=>h z (by simp[hz]))
  unfold Z6a at*
  rw[Z9D (by simp),List.append_assoc,ZEr b x _ _ (h x (by simp))]
  simp only[List.nil_append,List.singleton_append,ZAX,if_true,ih]
theorem ZEs (b:UInt8):∀(v cur:List UInt8),(ZAX b cur v).length≤v.length+1
 |[],_=>by simp[ZAX]
 |c::v,cur=>by
  unfold ZAX
  split
  ·have:=ZEs b v [];simp;omega
  ·have:=ZEs b v (cur++[c]);simp;omega
theorem ZAY (b:UInt8) (s:List UInt8):(Z6a b s).length≤s.length+1:=ZEs b s []
theorem ZEt (b:UInt8):∀(v cur x:List UInt8),x∈ZAX b cur v→x.length≤cur.length+v.length
 |[],cur,x,h=>by simp[ZAX]at h;subst h;simp
 |c::v,cur,x,h=>by
  unfold ZAX at h
  split at h
  ·rcases List.mem_cons.mp h with rfl|h
   ·simp
   ·have:=ZEt b v [] x h;simp at this⊢;omega
  ·have:=ZEt b v _ x h;simp at this⊢;omega
theorem Z7S {b:UInt8} {s x:List UInt8} (h:x∈Z6a b s):x.length≤s.length:=by
 have:=ZEt b s [] x h;simpa using this
theorem ZCv (b:List UInt8):∀(l:List (List UInt8)),(Z85 b l).length≤(l.map fun x=>x.length+b.length).sum
 |[]=>by simp[Z85]
 |[x]=>by simp[Z85]
 |x::y::r=>by
  have:=ZCv b (y::r)
  rw[Z9D (by simp)]
  simp only[List.length_append,List.map_cons,List.sum_cons]at this⊢
  omega
theorem ZFk (b:List UInt8):∀(l:List (List UInt8)) (x:List UInt8),l≠[]→Z85 b (l++[x])=Z85 b l++b++x
 |[],_,h=>absurd rfl h
 |[y],x,_=>rfl
 |y::z::r,x,_=>by
  have e1:=Z9D (b:=b) (x:=y) (r:=z::r) (by simp)
  have e2:=Z9D (b:=b) (x:=y) (r:=z::r++[x]) (by simp)
  rw[List.cons_append,e2,ZFk b (z::r) x (by simp),e1];simp
def StE (s:List UInt8):List Dat:=[.str (S s)]
set_option maxRecDepth 10000
theorem ZGi (s:List UInt8) (h:s.length<4611686018427387904):callI tE Z7j [.str (S s)]=some [.int (chk s:Nat)]:=by
 rw[ZDI]
 have:=Z6d (l:=s) (L:=fun(x:Nat)=>Z7C (S s) (x:Int) (szI (S s))) (F:=fun x v=>some [Dat.int ((v.foldl ZJz x:Nat):Int)]) (I:=fun x _ _=>x<65521) (by omega) (fun u c v x e hI=>.inl ⟨ZJz x c,by
  subst e
  show Z7C _ _ _ _=_
  rw[Z9c,ZJp,ZJq,ZIg,ZHr hI];rfl,ZHD _ _,rfl⟩) (fun x _=>by rw[Z9c,ZE8];rfl) 11 (by decide)
 exact this
theorem ZJ1 (s:List UInt8) (h:s.length<4611686018427387904):callI tE Z8c [.str (S s)]=some [.int (chk s:Nat)]:=by
 rw[ZDK]
 have:=Z6d (l:=s) (L:=fun(x:Nat)=>Z7D (S s) (x:Int)) (F:=fun x v=>some [Dat.int ((v.foldl ZJz x:Nat):Int)]) (I:=fun x _ _=>x<65521) (by omega) (fun u c v x e hI=>.inl ⟨ZJz x c,by
  subst e
  show Z7D _ _ _=_
  rw[Z9d,ZJp,ZJq,ZIg,Int.mul_comm,ZHr hI];rfl,ZHD _ _,rfl⟩) (fun x _=>by rw[Z9d,ZE8];rfl) 11 (by decide)
 exact this
theorem ZEu (neg sgn:Bool):∀(d n:Nat) (s:List UInt8),n<10^d→n≤9223372036854775808→(sgn=false→n<9223372036854775808)→s.length+d≤1000→
  Z7Q (if sgn then-(n:Int)else(n:Int)) (S s) neg=some [.str (S (if neg then 45::(ZH8 n++s)else ZH8 n++s))]
 |d,n,s,h,hd,hp,hs=>by
  rw[ZBx]
  by_cases h0:n=0
  ·subst h0
   rw[eqT (by split<;>rfl),ZHl]
   cases neg
   ·rfl
   ·rw[show fitS (S [45]) (S s)=true from Z5n (by simp;omega)]
    simp only[Bool.not_true,cond_false,cond_true,Z6c]
    rfl
  ·have hne:eqI (if sgn then-(n:Int)else(n:Int)) 0=false:=eqF (by split<;>omega)
   cases d with
   |zero=>exfalso;simp at h;omega
   |succ d=>
    have ih:=ZEu neg sgn d (n/10) ([dig (n%10)]++s) (by rw[Nat.pow_succ]at h;omega) (by omega) (by omega) (by simp;omega)
    have hm:n%10<10:=Nat.mod_lt _ (by decide)
    have e48:w64 (48+((n%10:Nat):Int))=48+((n%10:Nat):Int):=Z5Q ⟨by omega,by omega⟩
    have hu:strOf [[.int (IntKind.wrap .u8 (48+((n%10:Nat):Int)))]]=S [dig (n%10)]:=by
     rw[ZIv,ZIw (by omega) (by omega),Int.toNat_natCast]
    have hf:fitS (S [dig (n%10)]) (S s)=true:=Z5n (by simp;omega)
    have hfin:(if neg then 45::(ZH8 (n/10)++([dig (n%10)]++s))else ZH8 (n/10)++([dig (n%10)]++s))=(if neg then 45::(ZH8 n++s)else ZH8 n++s):=by
     rw[ZHm h0];simp
    rw[hfin]at ih
    rw[hne,Bool.not_false,cond_true]
    cases sgn with
    |false=>
     simp only[Bool.false_eq_true,if_false]at ih⊢
     have hp':=hp rfl
     rw[ZIz,ZIy,ltF (by omega),cond_false,e48,hu,hf,cond_true,Z6c,Z5Q ⟨by omega,by omega⟩]
     exact ih
    |true=>
     simp only[if_true]at ih⊢
     have t1:Int.tmod (-(n:Int)) 10= -((n%10:Nat):Int):=by rw[Int.neg_tmod,ZIz]
     have t2:Int.tdiv (-(n:Int)) 10= -((n/10:Nat):Int):=by rw[Int.neg_tdiv,ZIy]
     rw[t1,t2,Z5Q (n:= -((n/10:Nat):Int)) ⟨by omega,by omega⟩]
     by_cases hz:n%10=0
     ·rw[ltF (by omega),cond_false]
      have: -((n%10:Nat):Int)=((n%10:Nat):Int):=by omega
      rw[this,e48,hu,hf,cond_true,Z6c]
      exact ih
     ·rw[ltT (by omega),cond_true,show(0:Int)- -((n%10:Nat):Int)=((n%10:Nat):Int)by omega,Z5Q (n:=((n%10:Nat):Int)) ⟨by omega,by omega⟩,e48,hu,hf,cond_true,Z6c]
      exact ih
theorem Z6W {n:Int} (h:I64 n):callI tE Z5N [.int n]=some [.str (S (fmt n))]:=by
 obtain⟨h1,h2⟩:=h
 rw[ZE2]
 by_cases h0:n=0
 ·subst h0;rfl
 ·rw[eqF h0,cond_false]
  by_cases hn:n<0
  ·have:=ZEu true true 20 n.natAbs [] (by omega) (by omega) (by simp) (by simp)
   simp only[if_true,List.append_nil]at this
   rw[show-((n.natAbs:Nat):Int)=n by omega]at this
   rw[ltT hn,this,Z9j hn,ZDO (by omega)]
  ·have:=ZEu false false 20 n.natAbs [] (by omega) (by omega) (by omega) (by simp)
   simp only[Bool.false_eq_true,if_false,List.append_nil]at this
   rw[show((n.natAbs:Nat):Int)=n by omega]at this
   rw[ltF (by omega),this,Z9k (by omega),ZDO (by omega)]
theorem ZGj {n:Nat} {k:Nat} (h:n<10^k) (hk:k≤9):n<1000000000:=Nat.lt_of_lt_of_le h (Nat.le_trans (Nat.pow_le_pow_right (by decide) hk) (by decide))
theorem ZKq {s:List UInt8} {n:Int} (hn:n.natAbs<1000000000) (hs:∀m:Int,fmt m=s→m.natAbs<1000000000→m=n):(bif !decide (fmt n=s)then some [Dat.int 0,.bool false]else some [.int n,.bool true])=some (pI s):=by
 unfold pI
 by_cases h:fmt n=s
 ·rw[Z9m.mpr ⟨h,hn⟩,decide_eq_true h];rfl
 ·rw[decide_eq_false h,ZEq.mpr (fun m h1 h2=>h (by rw[←hs m h1 h2];exact h1))];rfl
theorem ZEv {s:List UInt8} (hs:∀m:Int,fmt m=s→¬m.natAbs<1000000000):some [Dat.int 0,.bool false]=some (pI s):=by
 unfold pI
 rw[ZEq.mpr hs]
theorem ZDn {u:List UInt8} (h:u.all ZAH=true) (hl:u.length≤9):ZHC u<1000000000:=ZGj (ZGA u h) hl
theorem ZEw (s d:List UInt8) (neg:Bool) (hd:s=if neg then 45::d else d) (hl:1≤d.length∧d.length≤9) (h45:neg=false→d.head?≠some 45):Z5g (S s) (S d) 0 (szI (S d)) 0=some (pI s):=by
 have huniq:∀m:Int,fmt m=s→d=dec m.natAbs∧(neg=true↔m<0):=fun m hm=>by
  cases neg with
  |true=>
   simp only[if_true]at hd
   by_cases h0:m<0
   ·rw[Z9j h0,hd]at hm
    exact⟨(List.cons.inj hm).2.symm,by simp[h0]⟩
   ·rw[Z9k (by omega),hd]at hm
    exact absurd (by rw[hm];rfl) (ZCu m.natAbs)
  |false=>
   simp only[Bool.false_eq_true,if_false]at hd
   by_cases h0:m<0
   ·rw[Z9j h0,hd]at hm
    exact absurd (by rw[←hm];rfl) (h45 rfl)
   ·rw[Z9k (by omega),hd]at hm
    exact⟨hm.symm,by simp;omega⟩
 have hfin:∀n:Nat,d.all ZAH=true→n=ZHC d→(bif(ltI (szI (S d)) (szI (S s)))then(((callI tE Z5Z [(.int (w64 (0-(n:Int))))])).bind (fun r0=>(bif(!(eqS (gs r0) (S s)))then(some [(.int 0),(.bool Bool.false)])else(some [(.int (w64 (0-(n:Int)))),(.bool Bool.true)]))))else(((callI tE Z5Z [(.int (n:Int))])).bind (fun r0=>(bif(!(eqS (gs r0) (S s)))then(some [(.int 0),(.bool Bool.false)])else(some [(.int (n:Int)),(.bool Bool.true)])))))=some (pI s):=fun n ha hn=>by
  have hv:=ZDn ha hl.2
  have hw:w64 (0-(n:Int))= -(n:Int):=by rw[Z5Q ⟨by omega,by omega⟩];omega
  rw[Z5z,Z5z,hw,Z6M ⟨by omega,by omega⟩,Z6M ⟨by omega,by omega⟩]
  simp only[ZFd,ZJr,ZCt]
  cases neg with
  |true=>
   simp only[if_true]at hd
   rw[ltT (by rw[hd];simp only[List.length_cons];omega),cond_true]
   refine ZKq (by omega) fun m hm _=>?_
   obtain⟨q1,q2⟩:=huniq m hm
   have:m<0:=q2.mp rfl
   rw[hn,q1,ZBb];omega
  |false=>
   simp only[Bool.false_eq_true,if_false]at hd
   rw[ltF (by rw[hd];omega),cond_false]
   refine ZKq (by omega) fun m hm _=>?_
   obtain⟨q1,q2⟩:=huniq m hm
   have:¬m<0:=fun h=>by have:=q2.mpr h;cases this
   rw[hn,q1,ZBb];omega
 have:=Z6d (l:=d) (L:=fun(n:Nat)=>Z5g (S s) (S d) (n:Int) (szI (S d))) (F:=fun _ _=>some (pI s)) (I:=fun n u _=>u.all ZAH=true∧n=ZHC u) (by omega) (fun u c v n e hI=>by
  obtain⟨ha,hn⟩:=hI
  have hul:u.length≤9:=by have:=hl.2;rw[e]at this;simp at this;omega
  have hv:=ZDn ha hul
  have hc0:=ZJ0 c
  have step:Z5g (S s) (S d) (n:Int) (szI (S d)) u.length=if ZAH c then Z5g (S s) (S d) ((ZGg n c:Nat):Int) (szI (S d)) (w64 (u.length+1))else some [.int 0,.bool false]:=by
   rw[ZAQ]
   subst e
   rw[ZJp,ZJq,ZIg]
   by_cases h1:c.toNat<48
   ·rw[ltT (by omega),if_neg (by rw[ZBN];omega)];rfl
   ·rw[ltF (by omega)]
    by_cases h2:57<c.toNat
    ·rw[ltT (a:=57) (by omega),if_neg (by rw[ZBN];omega)];rfl
    ·rw[ltF (b:=(c.toNat:Int)) (by omega),ZKN (by omega) (by omega),if_pos (ZBN.mpr (by omega))];rfl
  by_cases hc:ZAH c=true
  ·refine .inl ⟨ZGg n c,?_,⟨by simp[ha,hc],by rw[ZEp,hn];rfl⟩,rfl⟩
   show Z5g _ _ _ _ _=_
   rw[step,if_pos hc]
  ·refine .inr ?_
   show Z5g _ _ _ _ _=_
   rw[step,if_neg hc]
   refine ZEv fun m hm hb=>hc ?_
   obtain⟨q1,_⟩:=huniq m hm
   have:=ZAc m.natAbs
   rw[←q1,e]at this
   exact List.all_eq_true.mp this c (by simp)) (fun n hI=>by
  show Z5g _ _ _ _ _=_
  rw[ZAQ,ZE8,cond_false]
  exact hfin n hI.1 hI.2) 0 ⟨rfl,rfl⟩
 exact this
theorem ZK0 (c:UInt8) (s:List UInt8):ext (S (c::s)) (tn 1) (ByteArray.size (S (c::s)))=S s:=by
 rw[ZEn,ZIu]
 congr 1
 show List.drop 1 _=_
 simp
theorem ZC2 (s:List UInt8) (hs:s.length<4611686018427387904):callI tE Z6I [.str (S s)]=some (pI s):=by
 rw[ZEX]
 have plain:∀t:List UInt8,t=s→s.head?≠some 45→(bif(ltI (szI (S s)) 1)then(some [(Dat.int 0),(.bool Bool.false)])else(bif(ltI 9 (szI (S s)))then(some [(.int 0),(.bool Bool.false)])else(Z5g (S s) (S s) 0 (szI (S s)) 0)))=some (pI s):=fun t ht h45=>by
  rw[Z5z]
  have key:∀m:Int,fmt m=s→m.natAbs<1000000000→1≤s.length∧s.length≤9:=fun m hm hb=>by
   by_cases h0:m<0
   ·rw[Z9j h0]at hm
    exact absurd (by rw[←hm];rfl) h45
   ·rw[Z9k (by omega)]at hm
    have h9:(dec m.natAbs).length≤9:=(Z99 9 _ (by omega)).mpr (by omega)
    have h1:dec m.natAbs≠[]:=ZKM _
    rw[hm]at h9 h1
    exact⟨by cases s<;>simp_all,h9⟩
  by_cases h1:s.length<1
  ·rw[ltT (by omega),cond_true]
   exact ZEv fun m hm hb=>by have:=key m hm hb;omega
  ·rw[ltF (by omega),cond_false]
   by_cases h2:9<s.length
   ·rw[ltT (by omega),cond_true]
    exact ZEv fun m hm hb=>by have:=key m hm hb;omega
   ·rw[ltF (by omega),cond_false]
    have:=ZEw s s false rfl ⟨by omega,by omega⟩ (fun _=>h45)
    rw[Z5z]at this
    exact this
 cases s with
 |nil=>exact plain _ rfl (by simp)
 |cons c d=>
  rw[ltT (b:=szI (S (c::d))) (by rw[Z5z];simp only[List.length_cons];omega),ZDl (by omega) (by rw[Z5z];simp only[List.length_cons];omega),show byteAt (S (c::d)) 0=(c.toNat:Int)from ZIg [] d c]
  simp only[cond_true]
  by_cases hc:c=45
  ·subst hc
   rw[eqT (by rfl),cond_true,leT (by omega),leT (by rw[Z5z];simp only[List.length_cons];omega),ZK0]
   simp only[Bool.and_self,cond_true]
   have key:∀m:Int,fmt m=45::d→m.natAbs<1000000000→1≤d.length∧d.length≤9:=fun m hm hb=>by
    by_cases h0:m<0
    ·rw[Z9j h0]at hm
     have hm:=(List.cons.inj hm).2
     have h9:(dec m.natAbs).length≤9:=(Z99 9 _ (by omega)).mpr (by omega)
     have h1:dec m.natAbs≠[]:=ZKM _
     rw[hm]at h9 h1
     exact⟨by cases d<;>simp_all,h9⟩
    ·rw[Z9k (by omega)]at hm
     exact absurd (by rw[hm];rfl) (ZCu m.natAbs)
   rw[Z5z]
   by_cases h1:d.length<1
   ·rw[ltT (by omega),cond_true]
    exact ZEv fun m hm hb=>by have:=key m hm hb;omega
   ·rw[ltF (by omega),cond_false]
    by_cases h2:9<d.length
    ·rw[ltT (by omega),cond_true]
     exact ZEv fun m hm hb=>by have:=key m hm hb;omega
    ·rw[ltF (by omega),cond_false]
     have:=ZEw (45::d) d true rfl ⟨by omega,by omega⟩ (fun h=>by cases h)
     rw[Z5z]at this
     exact this
  ·rw[show eqI (c.toNat:Int) 45=false from(ZCR c 45).trans (decide_eq_false hc),cond_false]
   exact plain _ rfl (by simpa using hc)
def flt (s:List UInt8):List UInt8:=s.filter ZAH
theorem ZJ2 (s:List UInt8):(flt s).all ZAH=true:=by simp[flt]
theorem ZC3 (s:List UInt8) (hs:s.length<4611686018427387904):callI tE Z5W [.str (S s)]=some (pI s):=by
 rw[ZEY]
 have hfl:∀u:List UInt8,(flt u).length≤u.length:=fun u=>List.length_filter_le _ _
 have hfin:∀(i:Int) (n k:Nat),n=ZHC (flt (s.take 11))→k=(flt (s.take 11)).length→(ltI i (szI (S s))=false∨ltI i (szI (S s))=true∧ltI i 11=false)→Z5h (S s) (n:Int) (k:Int) i=some (pI s):=fun i n k hn hk hi=>by
  have hkl:k≤11:=by have:=hfl (s.take 11);simp at this;omega
  have hv:=ZGA _ (ZJ2 (s.take 11))
  rw[←hn,←hk]at hv
  have hv11:n<100000000000:=Nat.lt_of_lt_of_le hv (Nat.le_trans (Nat.pow_le_pow_right (by decide) hkl) (by decide))
  have hw:w64 (0-(n:Int))= -(n:Int):=by rw[Z5Q ⟨by omega,by omega⟩];omega
  have huniq:∀m:Int,fmt m=s→m.natAbs<1000000000→k≤9∧s.length≤10∧n=m.natAbs:=fun m hm hb=>by
   have h9:(dec m.natAbs).length≤9:=(Z99 9 _ (by omega)).mpr (by omega)
   have hd:flt (dec m.natAbs)=dec m.natAbs:=List.filter_eq_self.mpr (fun c hc=>List.all_eq_true.mp (ZAc _) c hc)
   by_cases h0:m<0
   ·rw[Z9j h0]at hm
    have ht:s.take 11=s:=List.take_of_length_le (by rw[←hm];simp;omega)
    have hf:flt s=dec m.natAbs:=by rw[←hm];show flt (45::_)=_;rw[flt,List.filter_cons_of_neg (by decide)];exact hd
    rw[ht,hf]at hn hk
    refine⟨by omega,by rw[←hm];simp;omega,by rw[hn,ZBb]⟩
   ·rw[Z9k (by omega)]at hm
    have ht:s.take 11=s:=List.take_of_length_le (by rw[←hm];omega)
    rw[ht,←hm,hd]at hn hk
    refine⟨by omega,by rw[←hm];omega,by rw[hn,ZBb]⟩
  have tail:∀x:Int,I64 x→x.natAbs=n→(∀m:Int,fmt m=s→m.natAbs<1000000000→m=x)→(bif(ltI 9 (k:Int))then(some [(Dat.int 0),(.bool Bool.false)])else(bif(ltI 10 (szI (S s)))then(some [(.int 0),(.bool Bool.false)])else(((callI tE Z5N [(.int x)])).bind (fun r0=>(bif(!(eqS (gs r0) (S s)))then(some [(.int 0),(.bool Bool.false)])else(some [(.int x),(.bool Bool.true)]))))))=some (pI s):=fun x hx hxn hu=>by
   by_cases h1:9<k
   ·rw[ltT (by omega),cond_true]
    exact ZEv fun m hm hb=>by have:=huniq m hm hb;omega
   ·rw[ltF (by omega),cond_false,Z5z]
    by_cases h2:10<s.length
    ·rw[ltT (by omega),cond_true]
     exact ZEv fun m hm hb=>by have:=huniq m hm hb;omega
    ·rw[ltF (by omega),cond_false,Z6W hx]
     simp only[ZFd,ZJr,ZCt]
     exact ZKq (by rw[hxn];exact ZGj hv (by omega)) hu
  have pos:(s.head?≠some 45)→∀m:Int,fmt m=s→m.natAbs<1000000000→m=(n:Int):=fun h45 m hm hb=>by
   have:=huniq m hm hb
   by_cases h0:m<0
   ·rw[Z9j h0]at hm
    exact absurd (by rw[←hm];rfl) h45
   ·omega
  have e:Z5h (S s) (n:Int) (k:Int) i=(bif(ltI 0 (szI (S s)))then(bif(inR 0 (szI (S s)))then(bif(eqI (byteAt (S s) 0) 45)then(bif(ltI 9 (k:Int))then(some [(.int 0),(.bool Bool.false)])else(bif(ltI 10 (szI (S s)))then(some [(.int 0),(.bool Bool.false)])else(((callI tE Z5N [(.int (w64 (0-(n:Int))))])).bind (fun r0=>(bif(!(eqS (gs r0) (S s)))then(some [(.int 0),(.bool Bool.false)])else(some [(.int (w64 (0-(n:Int)))),(.bool Bool.true)]))))))else(bif(ltI 9 (k:Int))then(some [(Dat.int 0),(.bool Bool.false)])else(bif(ltI 10 (szI (S s)))then(some [(.int 0),(.bool Bool.false)])else(((callI tE Z5N [(.int (n:Int))])).bind (fun r0=>(bif(!(eqS (gs r0) (S s)))then(some [(.int 0),(.bool Bool.false)])else(some [(.int (n:Int)),(.bool Bool.true)])))))))else none)else(bif(ltI 9 (k:Int))then(some [(Dat.int 0),(.bool Bool.false)])else(bif(ltI 10 (szI (S s)))then(some [(.int 0),(.bool Bool.false)])else(((callI tE Z5N [(.int (n:Int))])).bind (fun r0=>(bif(!(eqS (gs r0) (S s)))then(some [(.int 0),(.bool Bool.false)])else(some [(.int (n:Int)),(.bool Bool.true)]))))))):=by
   rw[ZAR]
   rcases hi with hi|⟨hi,hi2⟩
   ·rw[hi];rfl
   ·rw[hi,hi2];rfl
  rw[e]
  cases s with
  |nil=>exact tail n ⟨by omega,by omega⟩ (by omega) (pos (by simp))
  |cons c d=>
   rw[ltT (b:=szI (S (c::d))) (by rw[Z5z];simp only[List.length_cons];omega),ZDl (by omega) (by rw[Z5z];simp only[List.length_cons];omega),show byteAt (S (c::d)) 0=(c.toNat:Int)from ZIg [] d c]
   simp only[cond_true]
   by_cases hc:c=45
   ·subst hc
    rw[eqT (by rfl),cond_true,hw]
    refine tail _ ⟨by omega,by omega⟩ (by omega) fun m hm hb=>?_
    have:=huniq m hm hb
    by_cases h0:m<0
    ·omega
    ·rw[Z9k (by omega)]at hm
     exact absurd (by rw[hm];rfl) (ZCu m.natAbs)
   ·rw[show eqI (c.toNat:Int) 45=false from(ZCR c 45).trans (decide_eq_false hc),cond_false]
    exact tail n ⟨by omega,by omega⟩ (by omega) (pos (by simpa using hc))
 have hsplit:s=s.take 11++s.drop 11:=(List.take_append_drop 11 s).symm
 have htl:(s.take 11).length≤11:=by simp;omega
 have:=Z6d (l:=s.take 11) (L:=fun(p:Nat×Nat)=>Z5h (S s) (p.1:Int) (p.2:Int)) (F:=fun _ _=>some (pI s)) (I:=fun p u _=>p.1=ZHC (flt u)∧p.2=(flt u).length) (by omega) (fun u c v p e hI=>by
  obtain⟨n,k⟩:=p
  obtain⟨hn,hk⟩:=hI
  simp only at hn hk
  have hs':s=u++c::(v++s.drop 11):=by
   have h0:=hsplit
   rw[e,List.append_assoc,List.cons_append]at h0
   exact h0
  have hul:u.length<11:=by have:=htl;rw[e]at this;simp at this;omega
  have hkl:k≤u.length:=by rw[hk];exact hfl u
  have hv:=ZGA _ (ZJ2 u)
  rw[←hn,←hk]at hv
  have hv11:n<100000000000:=Nat.lt_of_lt_of_le hv (Nat.le_trans (Nat.pow_le_pow_right (by decide) (show k≤11 by omega)) (by decide))
  have hc0:=ZJ0 c
  have step:Z5h (S s) (n:Int) (k:Int) u.length=if ZAH c then Z5h (S s) ((ZGg n c:Nat):Int) ((k+1:Nat):Int) (w64 (u.length+1))else Z5h (S s) (n:Int) (k:Int) (w64 (u.length+1)):=by
   rw[ZAR,hs',ZJp,ZJq,ZIg,ltT (by omega)]
   by_cases h1:c.toNat<48
   ·rw[leF (by omega),if_neg (by rw[ZBN];omega)];rfl
   ·rw[leT (a:=48) (by omega)]
    by_cases h2:57<c.toNat
    ·rw[leF (a:=(c.toNat:Int)) (by omega),if_neg (by rw[ZBN];omega)];rfl
    ·rw[leT (a:=(c.toNat:Int)) (by omega),ZKp hv11 (by omega),if_pos (ZBN.mpr (by omega)),Z7n (i:=k) (by omega)];rfl
  by_cases hc:ZAH c=true
  ·refine .inl ⟨(ZGg n c,k+1),?_,⟨?_,?_⟩,rfl⟩
   ·show Z5h _ _ _ _=_
    rw[step,if_pos hc]
   ·show ZGg n c=ZHC (flt (u++[c]))
    rw[flt,List.filter_append,List.filter_cons_of_pos hc,List.filter_nil,ZEp,hn];rfl
   ·show k+1=(flt (u++[c])).length
    rw[flt,List.filter_append,List.filter_cons_of_pos hc,List.filter_nil,List.length_append,hk];rfl
  ·refine .inl ⟨(n,k),?_,⟨?_,?_⟩,rfl⟩
   ·show Z5h _ _ _ _=_
    rw[step,if_neg hc]
   ·show n=ZHC (flt (u++[c]))
    rw[flt,List.filter_append,List.filter_cons_of_neg hc,List.filter_nil,List.append_nil,hn];rfl
   ·show k=(flt (u++[c])).length
    rw[flt,List.filter_append,List.filter_cons_of_neg hc,List.filter_nil,List.append_nil,hk];rfl) (fun p hI=>by
  obtain⟨n,k⟩:=p
  refine hfin _ n k hI.1 hI.2 ?_
  by_cases h:s.length≤11
  ·left;rw[List.take_of_length_le h];exact ZE8 s
  ·right;exact⟨ltT (by rw[Z5z,List.length_take];omega),ltF (by rw[List.length_take];omega)⟩) (0,0) ⟨rfl,rfl⟩
 exact this
theorem ZHE (u cur v:List UInt8):ext (S (u++cur++v)) u.length (u++cur).length=S cur:=by
 rw[ZIu]
 congr 1
 rw[List.append_assoc,←List.append_assoc u cur v,List.take_left' rfl,List.drop_left' rfl]
theorem ZBc (l:List (List UInt8)) (x:List UInt8):List.append (l.map StE) [[Dat.str (S x)]]=(l++[x]).map StE:=by simp[StE]
structure ZLt where
 out:List (List UInt8)
 frm:Nat
def ZLu (b:UInt8) (s:List UInt8) (x:ZLt) (u v:List UInt8):Prop:=x.frm≤u.length∧x.out.length≤u.length∧x.out++ZAX b (u.drop x.frm) v=Z6a b s
theorem ZHt {b:UInt8} {s u v:List UInt8} {c:UInt8} {x:ZLt} (h:ZLu b s x u (c::v)):ZLu b s (if c=b then⟨x.out++[u.drop x.frm],u.length+1⟩else x) (u++[c]) v:=by
 obtain⟨h1,h2,h3⟩:=h
 unfold ZAX at h3
 split
 ·rename_i hc
  rw[if_pos hc]at h3
  refine⟨by simp,by simp;omega,?_⟩
  rw[←h3]
  simp only[List.append_assoc,List.singleton_append]
  rw[show List.drop (u.length+1) (u++[c])=[]from List.drop_eq_nil_of_le (by simp)]
 ·rename_i hc
  rw[if_neg hc]at h3
  refine⟨by simp;omega,by simp;omega,?_⟩
  rw[←h3,List.drop_append_of_le_length h1]
theorem ZEJ {s u v:List UInt8} {k:Nat} (hs:s=u++v) (h:k≤u.length):ext (S s) k u.length=S (u.drop k):=by
 rw[ZIu,hs,List.take_left' rfl]
theorem ZLJ (b:UInt8) (s:List UInt8) (h:s.length<1099511627776):callI tE Z9B [.str (S s),.int (b.toNat:Int)]=some [.sl ((Z6a b s).map StE)]:=by
 rw[ZIM]
 have:=Z6d (l:=s) (L:=fun(x:ZLt) i=>Z7s (S s) (b.toNat:Int) (x.frm:Int) (szI (S s)) i (x.out.map StE)) (F:=fun _ _=>some [.sl ((Z6a b s).map StE)]) (I:=ZLu b s) (by omega) (fun u c v x e hI=>by
  have hul:u.length<1099511627776:=by rw[e]at h;simp at h;omega
  obtain⟨h1,h2,h3⟩:=hI
  refine .inl ⟨_,?_,ZHt ⟨h1,h2,h3⟩,rfl⟩
  show Z7s _ _ _ _ _ _=Z7s _ _ _ _ _ _
  rw[ZBy]
  have hle:(u.length:Int)≤szI (S s):=by rw[Z5z,e];simp only[List.length_append,List.length_cons];omega
  have q1:ltI (u.length:Int) (szI (S s))=true:=by rw[e];exact ZJp u v c
  have q2:inR (u.length:Int) (szI (S s))=true:=by rw[e];exact ZJq u v c
  have q3:byteAt (S s) (u.length:Int)=(c.toNat:Int):=by rw[e];exact ZIg u v c
  rw[q1,q2,q3,ZCR]
  by_cases hc:c=b
  ·rw[decide_eq_true hc,if_pos hc,ZKj (by omega) (by omega) hle,Z5b,show fitM (Nat.succ x.out.length) 16=true from Z97 (by omega),Z7n (by omega),Z86,Z86,ZEJ e h1,ZBc]
   rfl
  ·rw[decide_eq_false hc,if_neg hc];rfl) (fun x hI=>by
  obtain⟨h1,h2,h3⟩:=hI
  show Z7s _ _ _ _ _ _=_
  rw[ZBy,ZE8,cond_false,leT (a:=0) (by omega),leT (b:=szI (S s)) (by rw[Z5z];omega),Z5b,show fitM (Nat.succ x.out.length) 16=true from Z97 (by omega),Z86,ZEn,ZEJ (v:=[]) (by simp) h1,ZBc,←h3]
  rfl) ⟨[],0⟩ ⟨by simp,by simp,rfl⟩
 exact this
theorem ZLK (b:UInt8) (s:List UInt8) (h:s.length<1099511627776):callI tE Z7N [.str (S s),.int (b.toNat:Int)]=some [.sl ((Z6a b s).map StE)]:=by
 rw[ZGZ]
 have:=Z6d (l:=s) (L:=fun(x:ZLt) i=>Z75 (S s) (b.toNat:Int) (x.frm:Int) i (x.out.map StE)) (F:=fun _ _=>some [.sl ((Z6a b s).map StE)]) (I:=ZLu b s) (by omega) (fun u c v x e hI=>by
  have hul:u.length<1099511627776:=by rw[e]at h;simp at h;omega
  obtain⟨h1,h2,h3⟩:=hI
  refine .inl ⟨_,?_,ZHt ⟨h1,h2,h3⟩,rfl⟩
  show Z75 _ _ _ _ _=Z75 _ _ _ _ _
  rw[ZBH]
  have hle:(u.length:Int)≤szI (S s):=by rw[Z5z,e];simp only[List.length_append,List.length_cons];omega
  have q1:ltI (u.length:Int) (szI (S s))=true:=by rw[e];exact ZJp u v c
  have q2:inR (u.length:Int) (szI (S s))=true:=by rw[e];exact ZJq u v c
  have q3:byteAt (S s) (u.length:Int)=(c.toNat:Int):=by rw[e];exact ZIg u v c
  rw[q1,q2,q3,ZCR]
  by_cases hc:c=b
  ·rw[decide_eq_true hc,if_pos hc,ZKj (by omega) (by omega) hle,Z5b,show fitM (Nat.succ x.out.length) 16=true from Z97 (by omega),Z7n (by omega),Z86,Z86,ZEJ e h1,ZBc]
   rfl
  ·rw[decide_eq_false hc,if_neg hc];rfl) (fun x hI=>by
  obtain⟨h1,h2,h3⟩:=hI
  show Z75 _ _ _ _ _=_
  rw[ZBH,ZE8,cond_false,leT (a:=0) (by omega),leT (b:=szI (S s)) (by rw[Z5z];omega),Z5b,show fitM (Nat.succ x.out.length) 16=true from Z97 (by omega),Z86,ZEn,ZEJ (v:=[]) (by simp) h1,ZBc,←h3]
  rfl) ⟨[],0⟩ ⟨by simp,by simp,rfl⟩
 exact this
theorem ZHF (b:List UInt8) (u:List (List UInt8)) (x:List UInt8):Z85 b (u++[x])=if u=[]then x else Z85 b u++b++x:=by
 split
 ·rename_i h;subst h;rfl
 ·rename_i h;exact ZFk b u x h
theorem ZHG (b:List UInt8) (l:List (List UInt8)) (hl:l.length<4611686018427387904) (h:(l.map fun x=>x.length+b.length).sum<4611686018427387904):callI tE Z8Z [.sl (l.map StE),.str (S b)]=some [.str (S (Z85 b l))]:=by
 rw[ZG2]
 have:=Z6d (l:=l) (L:=fun s i=>Z6r (S b) (S s) (l.map StE) (lenI (l.map StE)) i) (F:=fun _ _=>some [.str (S (Z85 b l))]) (I:=fun s u _=>s=Z85 b u) (by omega) (fun u x v s e hI=>by
  refine .inl ⟨Z85 b (u++[x]),?_,rfl,rfl⟩
  show Z6r _ _ _ _ _=Z6r _ _ _ _ _
  have hb:(Z85 b u).length+(x.length+b.length)<4611686018427387904:=by
   have:=ZCv b u
   rw[e]at h
   simp only[List.map_append,List.map_cons,List.sum_append,List.sum_cons]at h
   omega
  subst e
  rw[ZB1,ZHF,hI]
  simp only[ZFO,ZFP,Z86,ZEG,cond_true,StE,ZJr]
  by_cases hu:u=[]
  ·subst hu
   rw[if_pos rfl,ltF (by simp),cond_false,Z5n (by simp[Z85];omega),Z6c]
   rfl
  ·have hul:0<u.length:=List.length_pos_iff.mpr hu
   rw[if_neg hu,ltT (by omega),Z5n (by omega),Z6c,Z5n (by rw[List.length_append];omega),Z6c]
   rfl) (fun s hs=>by
  show Z6r _ _ _ _ _=_
  rw[ZB1,ZEd,cond_false,hs]) [] rfl
 exact this
section
variable {α:Type}
open Classical in
noncomputable def unf (P:α→Prop) (f:α→List UInt8) (s:List UInt8):Option α:=if h:∃a,P a∧f a=s then some h.choose else none
theorem ZEK {P:α→Prop} {f:α→List UInt8} (inj:∀a b,P a→P b→f a=f b→a=b) {s:List UInt8} {a:α}:unf P f s=some a↔P a∧f a=s:=by
 unfold unf
 constructor
 ·intro h
  split at h
  ·rename_i hx;cases h;exact hx.choose_spec
  ·cases h
 ·intro h
  have hx:∃a,P a∧f a=s:=⟨a,h⟩
  rw[dif_pos hx]
  exact congrArg some (inj _ _ hx.choose_spec.1 h.1 (hx.choose_spec.2.trans h.2.symm))
theorem ZEL {P:α→Prop} {f:α→List UInt8} {s:List UInt8}:unf P f s=none↔∀a,P a→f a≠s:=by
 unfold unf
 constructor
 ·intro h a h1 h2
  rw[dif_pos ⟨a,h1,h2⟩]at h;cases h
 ·intro h
  rw[dif_neg]
  rintro ⟨a,h1,h2⟩
  exact h a h1 h2
end
theorem Z8x {b:UInt8} (hb:ZAH b=false) (h45:b≠45) (n:Int):b∉fmt n:=fun h=>by
 rcases ZGh b h with h|h
 ·rw[hb]at h;cases h
 ·exact h45 h
noncomputable def num (s:List UInt8):Int:=(ZC1 s).getD 0
noncomputable def isN (s:List UInt8):Bool:=(ZC1 s).isSome
theorem ZIO (s:List UInt8):pI s=[.int (num s),.bool (isN s)]:=by
 unfold pI num isN
 cases ZC1 s<;>rfl
theorem ZEx {s:List UInt8} (h:isN s=true):fmt (num s)=s∧(num s).natAbs<1000000000:=by
 unfold isN at h
 cases hp:ZC1 s with
 |none=>rw[hp]at h;cases h
 |some n=>
  have:=Z9m.mp hp
  unfold num
  rw[hp]
  exact this
theorem ZAI {n:Int} (h:n.natAbs<1000000000):num (fmt n)=n∧isN (fmt n)=true:=by
 unfold num isN;rw[ZIN h];exact⟨rfl,rfl⟩
theorem ZKO (s:List UInt8):(num s).natAbs<1000000000:=by
 unfold num
 cases hp:ZC1 s with
 |none=>decide
 |some n=>exact(Z9m.mp hp).2
theorem ZEy (s:List UInt8):I64 (num s):=by have:=ZKO s;exact⟨by omega,by omega⟩
theorem ZMG:tn 0=0:=rfl
theorem ZMH:tn 1=1:=rfl
theorem ZMI:tn 2=2:=rfl
theorem ZEz {α:Type} (e:α→List Dat) (l:List α) (n:Nat):eqI (lenI (l.map e)) (n:Int)=decide (l.length=n):=by
 unfold eqI;rw[Z5L];congr 1;apply propext;omega
theorem ZLL {α:Type} {l:List α} (h:l.length=3):∃a b c,l=[a,b,c]:=by
 match l,h with
 |[a,b,c],_=>exact⟨a,b,c,rfl⟩
theorem ZLM {α:Type} {l:List α} (h:l.length=2):∃a b,l=[a,b]:=by
 match l,h with
 |[a,b],_=>exact⟨a,b,rfl⟩
def Z8o (r:List UInt8):List UInt8:=fmt r.length++[58]++r++[44]++fmt (chk r:Nat)++[59]
theorem Z9n {n:Nat} (h:n<9223372036854775808):(fmt (n:Int)).length≤20:=Z6Q ⟨by omega,by omega⟩
theorem ZGB {r:List UInt8} (h:r.length<4611686018427387904):r.length+3≤(Z8o r).length∧(Z8o r).length≤r.length+43:=by
 have h1:=Z9n (n:=r.length) (by omega)
 have h2:=Z9n (n:=chk r) (by have:=ZFj r;omega)
 unfold Z8o
 simp only[List.length_append,List.length_cons,List.length_nil]
 omega
theorem Z8y {b:UInt8} {x y u v:List UInt8} (hx:b∉x) (hu:b∉u) (h:x++b::y=u++b::v):x=u∧y=v:=by
 induction x generalizing u with
 |nil=>
  cases u with
  |nil=>simpa using h
  |cons c u=>
   simp only[List.nil_append,List.cons_append,List.cons.injEq]at h
   exact absurd (by rw[←h.1];simp) hu
 |cons a x ih=>
  cases u with
  |nil=>
   simp only[List.nil_append,List.cons_append,List.cons.injEq]at h
   exact absurd (by rw[h.1];simp) hx
  |cons c u=>
   simp only[List.cons_append,List.cons.injEq]at h
   simp only[List.mem_cons,not_or]at hx hu
   obtain⟨e1,e2⟩:=ih hx.2 hu.2 h.2
   exact⟨by rw[h.1,e1],e2⟩
theorem ZK1 {a b x y:List UInt8} (h:Z8o a++x=Z8o b++y):a=b:=by
 unfold Z8o at h
 simp only[List.append_assoc,List.singleton_append]at h
 have h58:∀n:Int,(58:UInt8)∉fmt n:=fun n=>Z8x (by decide) (by decide) n
 obtain⟨e1,e2⟩:=Z8y (h58 _) (h58 _) h
 have hl:a.length=b.length:=by have:=Z9l e1;omega
 exact(List.append_inj e2 hl).1
open Classical in
noncomputable def ZCa (t:List UInt8):Option (List UInt8):=if h:∃r y,t=Z8o r++y then some h.choose else none
theorem Z9o {t r:List UInt8}:ZCa t=some r↔∃y,t=Z8o r++y:=by
 unfold ZCa
 constructor
 ·intro h
  split at h
  ·rename_i hx;cases h;exact hx.choose_spec
  ·cases h
 ·rintro ⟨y,hy⟩
  have hx:∃r y,t=Z8o r++y:=⟨r,y,hy⟩
  rw[dif_pos hx]
  obtain⟨y',hy'⟩:=hx.choose_spec
  exact congrArg some (ZK1 (hy'.symm.trans hy))
theorem Z8E {t:List UInt8}:ZCa t=none↔∀r y,t≠Z8o r++y:=by
 unfold ZCa
 constructor
 ·intro h r y e
  rw[dif_pos ⟨r,y,e⟩]at h;cases h
 ·intro h
  rw[dif_neg]
  rintro ⟨r,y,e⟩
  exact h r y e
noncomputable def Z7G (t:List UInt8):List (List UInt8)×Bool:=
 if _h:t=[]then([],true)else match ZCa t with
  |none=>([],false)
  |some r=>(r::(Z7G (t.drop (Z8o r).length)).1,(Z7G (t.drop (Z8o r).length)).2)
termination_by t.length
decreasing_by
 all_goals
  have:0<t.length:=List.length_pos_iff.mpr _h
  have:0<(Z8o r).length:=by unfold Z8o;(first|omega|(simp only[List.length_append,List.length_cons,List.length_nil,List.length_map,List.length_take,List.length_drop,List.length_replicate,Z5z]at* <;>omega))
  simp only[List.length_drop];omega
theorem Z7T:Z7G []=([],true):=by rw[Z7G,dif_pos rfl]
theorem ZBO {t:List UInt8} (h:t≠[]) (hf:ZCa t=none):Z7G t=([],false):=by rw[Z7G,dif_neg h,hf]
theorem ZAZ (r y:List UInt8):Z7G (Z8o r++y)=(r::(Z7G y).1,(Z7G y).2):=by
 rw[Z7G,dif_neg (by unfold Z8o;simp),Z9o.mpr ⟨y,rfl⟩]
 simp only[List.drop_left]
theorem ZJ3 (e:UInt8) (p x y:List UInt8) (hx:e∉x) (hl:x.length≤11) (hb:(p++x++e::y).length<4611686018427387904):
  callI tE Z6q [.str (S (p++x++e::y)),.int (p.length:Int),.int (e.toNat:Int)]=some [.int (num x),.int ((p.length+x.length+1:Nat):Int),.bool (isN x&&leI 0 (num x))]:=by
 rw[ZC0]
 have key:∀(v u:List UInt8),x=u++v→Z7o (S (p++x++e::y)) ((p++u).length:Nat) (e.toNat:Int) (p.length:Int)=some [.int (num x),.int ((p.length+x.length+1:Nat):Int),.bool (isN x&&leI 0 (num x))]:=by
  intro v
  induction v with
  |nil=>
   intro u hu
   rw[List.append_nil]at hu
   subst hu
   have e1:ltI ((p++x).length:Nat) (szI (S (p++x++e::y)))=true:=ZJp (p++x) y e
   have e2:inR ((p++x).length:Nat) (szI (S (p++x++e::y)))=true:=ZJq (p++x) y e
   have e3:byteAt (S (p++x++e::y)) ((p++x).length:Nat)=(e.toNat:Int):=ZIg (p++x) y e
   have e4:leI (szI (S (p++x++e::y))) ((p++x).length:Nat)=false:=leF (by rw[Z5z];simp only[List.length_append,List.length_cons];omega)
   have e5:in3 (p.length:Int) ((p++x).length:Nat) (szI (S (p++x++e::y)))=true:=ZKj (by omega) (by(first|omega|(simp only[List.length_append,List.length_cons,List.length_nil,List.length_map,List.length_take,List.length_drop,List.length_replicate,Z5z]at* <;>omega))) (by(first|omega|(simp only[List.length_append,List.length_cons,List.length_nil,List.length_map,List.length_take,List.length_drop,List.length_replicate,Z5z]at* <;>omega)))
   have e6:w64 ((((p++x).length:Nat):Int)+1)=((p.length+x.length+1:Nat):Int):=by
    simp only[List.length_append,List.length_cons]at hb
    rw[Z5Q ⟨by omega,by simp only[List.length_append];omega⟩];simp only[List.length_append];omega
   have e7:=ZC2 x (by omega)
   rw[Z6z,e1,e2,e3,e4,e5,ZJs,Z86,Z86,ZHE,e7,e6,ZIO]
   simp only[gA]
   cases ltI (w64 (((p++x).length:Nat)-(p.length:Int))) 11<;>cases isN x<;>rfl
  |cons c v ih=>
   intro u hu
   have hs:p++x++e::y=(p++u)++c::(v++e::y):=by rw[hu];simp
   have hul:u.length<11:=by rw[hu]at hl;simp at hl;omega
   have hpl:(p++u).length<4611686018427387904:=by rw[hs]at hb;simp only[List.length_append]at hb⊢;omega
   have hc:c≠e:=fun h=>hx (by rw[hu,h];simp)
   have e0:w64 ((((p++u).length:Nat):Int)-(p.length:Int))=(u.length:Int):=by
    rw[Z5Q ⟨by(first|omega|(simp only[List.length_append,List.length_cons,List.length_nil,List.length_map,List.length_take,List.length_drop,List.length_replicate,Z5z]at* <;>omega)),by(first|omega|(simp only[List.length_append,List.length_cons,List.length_nil,List.length_map,List.length_take,List.length_drop,List.length_replicate,Z5z]at* <;>omega))⟩];(first|omega|(simp only[List.length_append,List.length_cons,List.length_nil,List.length_map,List.length_take,List.length_drop,List.length_replicate,Z5z]at* <;>omega))
   have e1:=ZJp (p++u) (v++e::y) c
   have e2:=ZJq (p++u) (v++e::y) c
   have e3:=ZIg (p++u) (v++e::y) c
   rw[←hs]at e1 e2 e3
   have ih':=ih (u++[c]) (by rw[hu];simp)
   rw[Z6z,e1,e2,e3,e0,ltT (by omega),ZCR,decide_eq_false hc,Z7n (by omega)]
   simp only[cond_true,Bool.not_false]
   rw[←ih']
   congr 2
   simp
   omega
 have:=key x [] rfl
 rw[List.append_nil]at this
 exact this
theorem ZCS (e:UInt8) (p t:List UInt8) (hx:∀x y,t=x++e::y→e∉x→11<x.length) (hb:(p++t).length<4611686018427387904):
  ∃a b,callI tE Z6q [.str (S (p++t)),.int (p.length:Int),.int (e.toNat:Int)]=some [.int a,.int b,.bool false]:=by
 rw[ZC0]
 have key:∀(v u:List UInt8),t=u++v→e∉u→u.length≤11→∃a b,Z7o (S (p++t)) ((p++u).length:Nat) (e.toNat:Int) (p.length:Int)=some [.int a,.int b,.bool false]:=by
  intro v
  induction v with
  |nil=>
   intro u hu _ _
   rw[List.append_nil]at hu
   subst hu
   refine⟨0,0,?_⟩
   rw[Z6z,ZE8,leT (by rw[Z5z];omega)];rfl
  |cons c v ih=>
   intro u hu hne hul
   have hs:p++t=(p++u)++c::v:=by rw[hu];simp
   have hpl:(p++u).length<4611686018427387904:=by rw[hs]at hb;simp only[List.length_append]at hb⊢;omega
   have hc:c≠e:=fun h=>by have:=hx u v (by rw[hu,h]) hne;omega
   have e0:w64 ((((p++u).length:Nat):Int)-(p.length:Int))=(u.length:Int):=by
    rw[Z5Q ⟨by(first|omega|(simp only[List.length_append,List.length_cons,List.length_nil,List.length_map,List.length_take,List.length_drop,List.length_replicate,Z5z]at* <;>omega)),by(first|omega|(simp only[List.length_append,List.length_cons,List.length_nil,List.length_map,List.length_take,List.length_drop,List.length_replicate,Z5z]at* <;>omega))⟩];(first|omega|(simp only[List.length_append,List.length_cons,List.length_nil,List.length_map,List.length_take,List.length_drop,List.length_replicate,Z5z]at* <;>omega))
   have e1:=ZJp (p++u) v c
   have e2:=ZJq (p++u) v c
   have e3:=ZIg (p++u) v c
   rw[←hs]at e1 e2 e3
   have e4:leI (szI (S (p++t))) ((p++u).length:Nat)=false:=leF (by rw[Z5z,hs];simp only[List.length_append,List.length_cons];omega)
   by_cases h11:u.length=11
   ·refine⟨0,0,?_⟩
    rw[Z6z,e1,e2,e3,e0,ltF (by omega),ZCR,decide_eq_false hc,e4];rfl
   ·obtain⟨a,b,ih'⟩:=ih (u++[c]) (by rw[hu];simp) (by simp only[List.mem_append,List.mem_singleton,not_or];exact⟨hne,fun h=>hc h.symm⟩) (by simp;omega)
    refine⟨a,b,?_⟩
    rw[Z6z,e1,e2,e3,e0,ltT (by omega),ZCR,decide_eq_false hc,Z7n (by omega)]
    simp only[cond_true,Bool.not_false]
    rw[←ih']
    congr 2
    simp
    omega
 have:=key t [] rfl (by simp) (by simp)
 rw[List.append_nil]at this
 exact this
theorem ZLN (b:UInt8) (t:List UInt8):(∃x y,t=x++b::y∧b∉x)∨b∉t:=by
 induction t with
 |nil=>exact .inr (by simp)
 |cons c t ih=>
  by_cases h:c=b
  ·exact .inl ⟨[],t,by rw[h];rfl,by simp⟩
  ·rcases ih with ⟨x,y,e,hx⟩|h2
   ·exact .inl ⟨c::x,y,by rw[e];rfl,by simp only[List.mem_cons,not_or];exact⟨fun e=>h e.symm,hx⟩⟩
   ·exact .inr (by simp only[List.mem_cons,not_or];exact⟨fun e=>h e.symm,h2⟩)
theorem ZMJ (e:UInt8) (p t:List UInt8) (hb:(p++t).length<4611686018427387904):
  (∃x y,t=x++e::y∧e∉x∧isN x=true∧0≤num x∧callI tE Z6q [.str (S (p++t)),.int (p.length:Int),.int (e.toNat:Int)]=some [.int (num x),.int ((p++x++[e]).length:Nat),.bool true])∨
  ((∃a b,callI tE Z6q [.str (S (p++t)),.int (p.length:Int),.int (e.toNat:Int)]=some [.int a,.int b,.bool false])∧∀x y,t=x++e::y→e∉x→¬(isN x=true∧0≤num x)):=by
 have small:∀x:List UInt8,isN x=true→x.length≤11:=fun x hx=>by
  obtain⟨h1,h2⟩:=ZEx hx
  have:=(Z99 9 (num x).natAbs (by omega)).mpr (by omega)
  rw[←h1]
  unfold fmt
  split
  ·simp;omega
  ·omega
 rcases ZLN e t with ⟨x,y,hxy,hx⟩|hno
 ·by_cases hl:x.length≤11
  ·subst hxy
   have hb':(p++x++e::y).length<4611686018427387904:=by simpa using hb
   have hr:=ZJ3 e p x y hx hl hb'
   rw[List.append_assoc]at hr
   by_cases hok:isN x=true∧0≤num x
   ·refine .inl ⟨x,y,rfl,hx,hok.1,hok.2,hr.trans ?_⟩
    rw[hok.1,leT hok.2]
    simp
    omega
   ·refine .inr ⟨⟨num x,((p.length+x.length+1:Nat):Int),hr.trans ?_⟩,fun x' y' h1 h2 h3=>?_⟩
    ·rw[show(isN x&&leI 0 (num x))=false from ?_]
     cases h1:isN x
     ·rfl
     ·exact leF (by have:¬0≤num x:=fun h2=>hok ⟨h1,h2⟩;omega)
    ·obtain⟨e1,_⟩:=Z8y hx h2 h1
     exact hok (e1▸h3)
  ·refine .inr ⟨ZCS e p t (fun x' y' h1 h2=>?_) hb,fun x' y' h1 h2 h3=>?_⟩
   ·obtain⟨e1,_⟩:=Z8y hx h2 (hxy.symm.trans h1)
    rw[←e1];omega
   ·obtain⟨e1,_⟩:=Z8y hx h2 (hxy.symm.trans h1)
    have:=small x' h3.1
    rw[←e1]at this;omega
 ·refine .inr ⟨ZCS e p t (fun x' y' h1 h2=>absurd (by rw[h1];simp) hno) hb,fun x' y' h1 h2 h3=>absurd (by rw[h1];simp) hno⟩
theorem ZHH {x:List UInt8} (h1:isN x=true) (h2:0≤num x):∃n:Nat,num x=(n:Int)∧n<1000000000∧x=fmt (n:Int):=by
 obtain⟨e1,e2⟩:=ZEx h1
 refine⟨(num x).natAbs,by omega,e2,?_⟩
 rw[show(((num x).natAbs:Nat):Int)=num x by omega,e1]
theorem ZAd {t r y:List UInt8} (h:t=Z8o r++y):t=fmt (r.length:Nat)++58::(r++44::(fmt (chk r:Nat)++59::y)):=by
 rw[h];unfold Z8o;simp
theorem ZBd {n:Nat} (h:n<1000000000):num (fmt (n:Int))=(n:Int)∧isN (fmt (n:Int))=true:=ZAI (by omega)
theorem ZHI {p x y:List UInt8} {k:Nat} (hk:k=p.length+x.length):ext (S (p++(x++y))) p.length k=S x:=by
 subst hk
 have:=ZHE p x y
 rw[List.append_assoc,List.length_append]at this
 exact this
theorem ZJ4 (p t:List UInt8) (hb:(p++t).length<1000000000):
  (∃r y,t=Z8o r++y∧callI tE Z9L [.str (S (p++t)),.int (p.length:Int)]=some [.str (S r),.int ((p++Z8o r).length:Nat),.bool true])∨
  (ZCa t=none∧∃a b,callI tE Z9L [.str (S (p++t)),.int (p.length:Int)]=some [.str a,.int b,.bool false]):=by
 rw[ZEk]
 have h58:∀n:Int,(58:UInt8)∉fmt n:=fun n=>Z8x (by decide) (by decide) n
 have h59:∀n:Int,(59:UInt8)∉fmt n:=fun n=>Z8x (by decide) (by decide) n
 have hlen:∀{r y:List UInt8},t=Z8o r++y→r.length<1000000000:=fun{r y} e=>by
  rw[e]at hb
  unfold Z8o at hb
  simp only[List.length_append]at hb
  omega
 rcases ZMJ 58 p t (by omega)with ⟨x,y,hxy,hx,q1,q2,hr⟩|⟨⟨a,b,hr⟩,hno⟩
 ·rw[show(58:UInt8).toNat=58 from rfl]at hr
  rw[show((58:Nat):Int)=58 from rfl]at hr
  obtain⟨n,e1,e2,e3⟩:=ZHH q1 q2
  have hpl:(p++x++[58]).length+y.length=(p++t).length:=by rw[hxy];simp;omega
  have hs:p++t=(p++x++[58])++y:=by rw[hxy];simp
  simp only[hr,gA,e1,Bool.not_true,cond_false]
  rw[hs]
  generalize hP:p++x++[58]=P at*
  have ew:w64 ((P.length:Int)+(n:Int))=((P.length+n:Nat):Int):=by rw[Z5Q ⟨by omega,by omega⟩];omega
  simp only[ew]
  by_cases hn:P.length+n<(P++y).length
  ·rw[leF (by rw[Z5z];omega),cond_false,ZDl (by omega) (by rw[Z5z];omega),cond_true]
   have hny:n<y.length:=by rw[List.length_append]at hn;omega
   have hbyte:byteAt (S (P++y)) ((P.length+n:Nat):Int)=((y[n]'hny).toNat:Int):=by
    rw[ZHk hn]
    congr 2
    rw[List.getElem_append_right (by omega)]
    congr 1;omega
   rw[hbyte,show eqI ((y[n]'hny).toNat:Int) 44=decide (y[n]'hny=44)from ZCR _ 44]
   by_cases h44:y[n]'hny=44
   ·rw[decide_eq_true h44]
    have hy:y=y.take n++44::y.drop (n+1):=by
     have:=List.take_append_drop n y
     rw[List.drop_eq_getElem_cons hny,h44]at this
     exact this.symm
    have htl:(y.take n).length=n:=by simp;omega
    generalize y.take n=r at*
    generalize y.drop (n+1)=z at*
    subst hy
    have hpl2:(P++r++[44]).length+z.length=(P++(r++44::z)).length:=by simp;omega
    have e5:w64 (((P.length+n:Nat):Int)+1)=((P++r++[44]).length:Nat):=by
     rw[Z5Q ⟨by omega,by omega⟩];simp;omega
    have e6:in3 (P.length:Int) ((P.length+n:Nat):Int) (szI (S (P++(r++44::z))))=true:=ZKj (by omega) (by omega) (by rw[Z5z];omega)
    have e7:ext (S (P++(r++44::z))) P.length (P.length+n)=S r:=ZHI (by rw[htl])
    have hs2:P++(r++44::z)=(P++r++[44])++z:=by simp
    rw[e5,e6,Bool.not_true,cond_false,cond_true,Z86,Z86,e7]
    have hs3:S (P++(r++44::z))=S ((P++r++[44])++z):=by rw[hs2]
    rw[hs3]
    rcases ZMJ 59 (P++r++[44]) z (by(first|omega|(simp only[List.length_append,List.length_cons,List.length_nil,List.length_map,List.length_take,List.length_drop,List.length_replicate,Z5z]at* <;>omega)))with ⟨x2,y2,hxy2,hx2,q12,q22,hr2⟩|⟨⟨a,b,hr2⟩,hno⟩
    ·rw[show(59:UInt8).toNat=59 from rfl]at hr2
     rw[show((59:Nat):Int)=59 from rfl]at hr2
     obtain⟨n2,f1,f2,f3⟩:=ZHH q12 q22
     simp only[hr2,gA,f1,cond_true,ZGi r (by simp at hb hpl2;omega)]
     by_cases hc:n2=chk r
     ·left
      rw[eqT (by rw[hc])]
      have ht:t=Z8o r++y2:=by
       rw[hxy,hxy2,e3,f3,hc]
       unfold Z8o
       rw[←htl]
       simp
      refine⟨r,y2,ht,?_⟩
      congr 4
      rw[←hP,f3,hc,e3,←htl]
      unfold Z8o
      (first|omega|(simp only[List.length_append,List.length_cons,List.length_nil,List.length_map,List.length_take,List.length_drop,List.length_replicate,Z5z]at* <;>omega))
     ·right
      rw[eqF (by omega)]
      refine⟨Z8E.mpr fun r' y' e=>?_,_,_,rfl⟩
      have ef:=ZAd e
      rw[hxy]at ef
      obtain⟨g1,g2⟩:=Z8y hx (h58 _) ef
      have hnr:n=r'.length:=by rw[e3]at g1;have:=Z9l g1;omega
      obtain⟨g3,g4⟩:=List.append_inj g2 (by omega)
      simp only[List.cons.injEq,true_and]at g4
      rw[hxy2]at g4
      obtain⟨g5,_⟩:=Z8y hx2 (h59 _) g4
      rw[f3,←g3]at g5
      have:=Z9l g5
      omega
    ·rw[show(59:UInt8).toNat=59 from rfl]at hr2
     rw[show((59:Nat):Int)=59 from rfl]at hr2
     right
     simp only[hr2,gA,cond_false]
     refine⟨Z8E.mpr fun r' y' e=>?_,_,_,rfl⟩
     have ef:=ZAd e
     rw[hxy]at ef
     obtain⟨g1,g2⟩:=Z8y hx (h58 _) ef
     have hnr:n=r'.length:=by rw[e3]at g1;have:=Z9l g1;omega
     obtain⟨g3,g4⟩:=List.append_inj g2 (by omega)
     simp only[List.cons.injEq,true_and]at g4
     obtain⟨k1,k2⟩:=ZBd (n:=chk r') (by have:=ZFj r';omega)
     exact hno _ _ g4 (h59 _) ⟨k2,by rw[k1];omega⟩
   ·right
    rw[decide_eq_false h44]
    refine⟨Z8E.mpr fun r' y' e=>?_,_,_,rfl⟩
    have ef:=ZAd e
    rw[hxy]at ef
    obtain⟨g1,g2⟩:=Z8y hx (h58 _) ef
    have hnr:n=r'.length:=by rw[e3]at g1;have:=Z9l g1;omega
    apply h44
    have:y[n]?=some 44:=by rw[g2,hnr];simp
    rw[List.getElem?_eq_getElem hny]at this
    exact Option.some.inj this
  ·right
   rw[leT (by rw[Z5z];omega)]
   refine⟨Z8E.mpr fun r' y' e=>?_,_,_,rfl⟩
   have ef:=ZAd e
   rw[hxy]at ef
   obtain⟨g1,g2⟩:=Z8y hx (h58 _) ef
   have hnr:n=r'.length:=by rw[e3]at g1;have:=Z9l g1;omega
   apply hn
   rw[g2];simp;omega
 ·rw[show(58:UInt8).toNat=58 from rfl]at hr
  rw[show((58:Nat):Int)=58 from rfl]at hr
  right
  simp only[hr,gA,Bool.not_false,cond_true]
  refine⟨Z8E.mpr fun r y e=>?_,_,_,rfl⟩
  obtain⟨k1,k2⟩:=ZBd (n:=r.length) (hlen e)
  exact hno _ _ (ZAd e) (h58 _) ⟨k2,by rw[k1];omega⟩
theorem ZDo (s:List UInt8) (h:s.length<1000000000):callI tE Z7J [.str (S s)]=some [.sl ((Z7G s).1.map StE),.bool (Z7G s).2]:=by
 rw[ZCr]
 have key:∀(k:Nat) (p t:List UInt8) (acc:List (List UInt8)),t.length≤k→s=p++t→acc.length≤p.length→Z7f (S s) (p.length:Nat) (acc.map StE)=some [.sl ((acc++(Z7G t).1).map StE),.bool (Z7G t).2]:=by
  intro k
  induction k with
  |zero=>
   intro p t acc hk hs ha
   have:t=[]:=List.length_eq_zero_iff.mp (by omega)
   subst this
   rw[List.append_nil]at hs
   subst hs
   rw[Z83,ZE8,Z7T];simp
  |succ k ih=>
   intro p t acc hk hs ha
   by_cases ht:t=[]
   ·subst ht
    rw[List.append_nil]at hs
    subst hs
    rw[Z83,ZE8,Z7T];simp
   ·have htl:0<t.length:=List.length_pos_iff.mpr ht
    have hsl:s.length=p.length+t.length:=by rw[hs];simp
    rw[Z83,ltT (by rw[Z5z];omega),cond_true,hs]
    rcases ZJ4 p t (by rw[←hs];omega)with ⟨r,y,e,hr⟩|⟨hf,a,b,hr⟩
    ·rw[hr]
     simp only[gA,Bool.not_true,cond_false]
     rw[Z5b,show fitM (Nat.succ acc.length) 16=true from Z97 (by omega),cond_true,ZBc,e,ZAZ]
     have hrl:0<(Z8o r).length:=by unfold Z8o;(first|omega|(simp only[List.length_append,List.length_cons,List.length_nil,List.length_map,List.length_take,List.length_drop,List.length_replicate,Z5z]at* <;>omega))
     have:=ih (p++Z8o r) y (acc++[r]) (by rw[e]at hk;simp at hk;omega) (by rw[hs,e];simp) (by simp;omega)
     rw[hs,e]at this
     rw[this];simp
    ·rw[hr,ZBO ht hf]
     simp only[gA,Bool.not_false,cond_true,List.append_nil]
 exact key s.length [] s [] (by omega) rfl (by simp)
theorem ZMK (r:List UInt8) (h:r.length<4611686018427387904):callI tE Z8d [.str (S r)]=some [.str (S (Z8o r))]:=by
 have h1:=Z9n (n:=r.length) (by omega)
 have h2:=Z9n (n:=chk r) (by have:=ZFj r;omega)
 have hc:=ZFj r
 rw[ZG7,Z5z,Z6W ⟨by omega,by omega⟩]
 simp only[gA]
 rw[Z5n (by simp;omega),Z6c,Z5n (by simp;omega),Z6c,Z5n (by simp;omega),Z6c,ZJ1 r h]
 simp only[gA,cond_true]
 rw[Z6W ⟨by omega,by omega⟩]
 simp only[gA]
 rw[Z5n (by simp;omega),Z6c,Z5n (by simp;omega),Z6c]
 rfl
theorem ZMX (p t:List UInt8) (hb:(p++t).length<1000000000):callI tE ZAV [.str (S (p++t)),.int (p.length:Int)]=some (match ZCa t with
  |some r=>[Dat.str (S r),.int ((p++Z8o r).length:Nat)]
  |none=>[Dat.str (S []),.int (-1)]):=by
 rw[ZG8]
 have h58:∀n:Int,(58:UInt8)∉fmt n:=fun n=>Z8x (by decide) (by decide) n
 have fin:∀(x y:List UInt8),t=x++y→(58∉x)→(y=[]∨∃z,y=58::z)→(bif(in3 (p.length:Int) ((p++x).length:Nat) (szI (S (p++t))))then(((callI tE Z5W [(.str (ext (S (p++t)) (tn (p.length:Int)) (tn ((p++x).length:Nat))))])).bind (fun r0=>(bif(!(gb (tk 1 r0)))then(some [(.str (S [])),(.int (-1))])else(bif(ltI (gn r0) 0)then(some [(.str (S [])),(.int (-1))])else(bif(ltI (szI (S (p++t))) (w64 ((w64 (((p++x).length:Nat)+1))+(gn r0))))then(some [(.str (S [])),(.int (-1))])else(bif(in3 (w64 (((p++x).length:Nat)+1)) (w64 ((w64 (((p++x).length:Nat)+1))+(gn r0))) (szI (S (p++t))))then(((callI tE Z8d [(.str (ext (S (p++t)) (tn (w64 (((p++x).length:Nat)+1))) (tn (w64 ((w64 (((p++x).length:Nat)+1))+(gn r0))))))])).bind (fun r1=>(bif(ltI (szI (S (p++t))) (w64 ((p.length:Int)+(szI (gs r1)))))then(some [(.str (S [])),(.int (-1))])else(bif(in3 (p.length:Int) (w64 ((p.length:Int)+(szI (gs r1)))) (szI (S (p++t))))then(bif(!(eqS (ext (S (p++t)) (tn (p.length:Int)) (tn (w64 ((p.length:Int)+(szI (gs r1)))))) (gs r1)))then(some [(.str (S [])),(.int (-1))])else(some [(.str (ext (S (p++t)) (tn (w64 (((p++x).length:Nat)+1))) (tn (w64 ((w64 (((p++x).length:Nat)+1))+(gn r0)))))),(.int (w64 ((p.length:Int)+(szI (gs r1)))))]))else none))))else none))))))else none)=some (match ZCa t with
  |some r=>[Dat.str (S r),.int ((p++Z8o r).length:Nat)]
  |none=>[Dat.str (S []),.int (-1)]):=by
  intro x y hxy hx hy
  have hpl:(p++x).length+y.length=(p++t).length:=by rw[hxy];simp;omega
  have e1:in3 (p.length:Int) ((p++x).length:Nat) (szI (S (p++t)))=true:=ZKj (by omega) (by(first|omega|(simp only[List.length_append,List.length_cons,List.length_nil,List.length_map,List.length_take,List.length_drop,List.length_replicate,Z5z]at* <;>omega))) (by rw[Z5z];omega)
  have e2:ext (S (p++t)) p.length (p++x).length=S x:=by rw[hxy,←List.append_assoc];exact ZHE p x y
  rw[e1,Z86,Z86,e2,ZC3 x (by(first|omega|(simp only[List.length_append,List.length_cons,List.length_nil,List.length_map,List.length_take,List.length_drop,List.length_replicate,Z5z]at* <;>omega))),ZIO]
  simp only[gA,cond_true]
  have back:∀r z,t=Z8o r++z→x=fmt (r.length:Nat)∧y=58::(r++44::(fmt (chk r:Nat)++59::z))∧r.length<1000000000:=fun r z e=>by
   have ef:=ZAd e
   have hl:r.length<1000000000:=by
    rw[e]at hb
    unfold Z8o at hb
    simp only[List.length_append]at hb
    omega
   rcases hy with rfl|⟨z',rfl⟩
   ·rw[List.append_nil]at hxy
    rw[hxy]at ef
    exact absurd (by rw[ef];simp) hx
   ·rw[hxy]at ef
    obtain⟨g1,g2⟩:=Z8y hx (h58 _) ef
    exact⟨g1,by rw[g2],hl⟩
  cases hn:isN x with
  |false=>
   rw[Z8E.mpr fun r z e=>?_]
   ·rfl
   ·obtain⟨g1,g2,g3⟩:=back r z e
    rw[g1,(ZBd g3).2]at hn
    cases hn
  |true=>
   rw[Bool.not_true,cond_false]
   by_cases h0:num x<0
   ·rw[ltT h0,cond_true,Z8E.mpr fun r z e=>?_]
    obtain⟨g1,g2,g3⟩:=back r z e
    rw[g1,(ZBd g3).1]at h0
    omega
   ·rw[ltF (by omega),cond_false]
    obtain⟨n,f1,f2,f3⟩:=ZHH hn (by omega)
    have e3:w64 (((p++x).length:Nat)+1)=((p++x).length+1:Nat):=Z7n (by omega)
    have e4:w64 ((((p++x).length+1:Nat):Int)+(n:Int))=((p++x).length+1+n:Nat):=by rw[Z5Q ⟨by omega,by omega⟩];omega
    rw[f1,e3,e4,Z5z]
    by_cases hlt:(p++t).length<(p++x).length+1+n
    ·rw[ltT (by omega),cond_true,Z8E.mpr fun r z e=>?_]
     obtain⟨g1,g2,g3⟩:=back r z e
     have:n=r.length:=by rw[f3]at g1;have:=Z9l g1;omega
     rw[g2]at hpl
     simp at hpl hlt
     omega
    ·rw[ltF (by omega),cond_false,ZKj (by omega) (by omega) (by omega),cond_true,Z86,Z86]
     obtain⟨z,rfl⟩:∃z,y=58::z:=by
      rcases hy with rfl|hy
      ·simp at hpl hlt;omega
      ·exact hy
     have hzl:n≤z.length:=by simp at hpl hlt;omega
     have hs2:p++t=(p++x++[58])++(z.take n++z.drop n):=by rw[hxy,List.take_append_drop];simp
     have e5:ext (S (p++t)) ((p++x).length+1) ((p++x).length+1+n)=S (z.take n):=by
      rw[hs2,show(p++x).length+1=(p++x++[58]).length by(first|omega|(simp only[List.length_append,List.length_cons,List.length_nil,List.length_map,List.length_take,List.length_drop,List.length_replicate,Z5z]at* <;>omega))]
      exact ZHI (by simp;omega)
     rw[e5,ZMK _ (by simp;omega)]
     simp only[gA]
     generalize hr:z.take n=r at*
     have hrl:r.length=n:=by rw[←hr];simp;omega
     obtain⟨_,l2⟩:=ZGB (r:=r) (by omega)
     have e6:w64 ((p.length:Int)+szI (S (Z8o r)))=((p++Z8o r).length:Nat):=by rw[Z5z,Z5Q ⟨by omega,by simp at hb;omega⟩];simp
     rw[e6]
     by_cases hle:(p++Z8o r).length≤(p++t).length
     ·rw[ltF (by omega),cond_false,ZKj (by omega) (by(first|omega|(simp only[List.length_append,List.length_cons,List.length_nil,List.length_map,List.length_take,List.length_drop,List.length_replicate,Z5z]at* <;>omega))) (by omega),cond_true]
      simp only[Z86]
      have e7:ext (S (p++t)) p.length (p++Z8o r).length=S (t.take (Z8o r).length):=by
       have hts:p++t=p++(t.take (Z8o r).length++t.drop (Z8o r).length):=by rw[List.take_append_drop]
       rw[hts]
       exact ZHI (by simp at hle⊢;omega)
      rw[e7,ZCt]
      by_cases he:t.take (Z8o r).length=Z8o r
      ·rw[decide_eq_true he,Z9o.mpr ⟨t.drop (Z8o r).length,by
        have:=List.take_append_drop (Z8o r).length t
        rw[he]at this;exact this.symm⟩]
       rfl
      ·rw[decide_eq_false he,Z8E.mpr fun r' z' e=>he ?_]
       ·rfl
       ·obtain⟨g1,g2,g3⟩:=back r' z' e
        have hn':n=r'.length:=by rw[f3]at g1;have:=Z9l g1;omega
        simp only[List.cons.injEq,true_and]at g2
        have:r=r':=by rw[←hr,g2,hn',List.take_left' rfl]
        rw[e,this,List.take_left' rfl]
     ·rw[ltT (by omega),cond_true,Z8E.mpr fun r' z' e=>hle ?_]
      obtain⟨g1,g2,g3⟩:=back r' z' e
      have hn':n=r'.length:=by rw[f3]at g1;have:=Z9l g1;omega
      simp only[List.cons.injEq,true_and]at g2
      have:r=r':=by rw[←hr,g2,hn',List.take_left' rfl]
      rw[e,this];simp
 have key:∀(v u:List UInt8),t=u++v→58∉u→Z9R (S (p++t)) (p.length:Int) ((p++u).length:Nat)=some (match ZCa t with
  |some r=>[Dat.str (S r),.int ((p++Z8o r).length:Nat)]
  |none=>[Dat.str (S []),.int (-1)]):=by
  intro v
  induction v with
  |nil=>
   intro u hu hne
   have:=fin u [] hu hne (.inl rfl)
   rw[List.append_nil]at hu
   rw[←this,Z9S]
   subst hu
   rw[ZE8];rfl
  |cons c v ih=>
   intro u hu hne
   have hs:p++t=(p++u)++c::v:=by rw[hu];simp
   have hpl:(p++u).length<4611686018427387904:=by rw[hs]at hb;simp only[List.length_append]at hb⊢;omega
   have e1:=ZJp (p++u) v c
   have e2:=ZJq (p++u) v c
   have e3:=ZIg (p++u) v c
   rw[←hs]at e1 e2 e3
   by_cases hc:c=58
   ·have:=fin u (c::v) hu hne (.inr ⟨v,by rw[hc]⟩)
    rw[←this,Z9S,e1,e2,e3,show eqI (c.toNat:Int) 58=true from(ZCR c 58).trans (decide_eq_true hc)]
    rfl
   ·have ih':=ih (u++[c]) (by rw[hu];simp) (by simp only[List.mem_append,List.mem_singleton,not_or];exact⟨hne,fun h=>hc h.symm⟩)
    rw[←ih',Z9S,e1,e2,e3,show eqI (c.toNat:Int) 58=false from(ZCR c 58).trans (decide_eq_false hc),Z7n (by omega)]
    simp only[cond_true,Bool.not_false]
    congr 2
    simp
    omega
 have:=key t [] rfl (by simp)
 rw[List.append_nil]at this
 exact this
theorem ZDp (s:List UInt8) (h:s.length<1000000000):callI tE Z7L [.str (S s)]=some [.sl ((Z7G s).1.map StE),.bool (Z7G s).2]:=by
 rw[ZCs]
 have key:∀(k:Nat) (p t:List UInt8) (acc:List (List UInt8)),t.length≤k→s=p++t→acc.length≤p.length→Z7g (S s) (p.length:Nat) (acc.map StE)=some [.sl ((acc++(Z7G t).1).map StE),.bool (Z7G t).2]:=by
  intro k
  induction k with
  |zero=>
   intro p t acc hk hs ha
   have:t=[]:=List.length_eq_zero_iff.mp (by omega)
   subst this
   rw[List.append_nil]at hs
   subst hs
   rw[Z84,ZE8,Z7T];simp
  |succ k ih=>
   intro p t acc hk hs ha
   by_cases ht:t=[]
   ·subst ht
    rw[List.append_nil]at hs
    subst hs
    rw[Z84,ZE8,Z7T];simp
   ·have htl:0<t.length:=List.length_pos_iff.mpr ht
    have hsl:s.length=p.length+t.length:=by rw[hs];simp
    rw[Z84,ltT (by rw[Z5z];omega),cond_true,hs,ZMX p t (by rw[←hs];omega)]
    cases hf:ZCa t with
    |none=>
     rw[ZBO ht hf]
     simp only[gA,ltT (show(-1:Int)<0 by decide),cond_true,List.append_nil]
    |some r=>
     obtain⟨y,e⟩:=Z9o.mp hf
     simp only[gA]
     rw[ltF (by omega),cond_false,Z5b,show fitM (Nat.succ acc.length) 16=true from Z97 (by omega),cond_true,ZBc,e,ZAZ]
     have hrl:0<(Z8o r).length:=by unfold Z8o;(first|omega|(simp only[List.length_append,List.length_cons,List.length_nil,List.length_map,List.length_take,List.length_drop,List.length_replicate,Z5z]at* <;>omega))
     have:=ih (p++Z8o r) y (acc++[r]) (by rw[e]at hk;simp at hk;omega) (by rw[hs,e];simp) (by simp;omega)
     rw[hs,e]at this
     rw[this];simp
 exact key s.length [] s [] (by omega) rfl (by simp)
theorem ZGk:∀(k:Nat) (s:List UInt8),s.length≤k→(Z7G s).1.length≤s.length:=by
 intro k
 induction k with
 |zero=>
  intro s h
  have:s=[]:=List.length_eq_zero_iff.mp (by omega)
  subst this;rw[Z7T];simp
 |succ k ih=>
  intro s h
  by_cases hs:s=[]
  ·subst hs;rw[Z7T];simp
  ·cases hf:ZCa s with
   |none=>rw[ZBO hs hf];simp
   |some r=>
    obtain⟨y,e⟩:=Z9o.mp hf
    have hrl:0<(Z8o r).length:=by unfold Z8o;(first|omega|(simp only[List.length_append,List.length_cons,List.length_nil,List.length_map,List.length_take,List.length_drop,List.length_replicate,Z5z]at* <;>omega))
    rw[e]at h⊢
    rw[ZAZ]
    simp only[List.length_append]at h
    have:=ih y (by omega)
    simp;omega
theorem ZJ5 {α:Type} {e:α→List Dat} (u:List α) (a:α) (h:u.length<4611686018427387904):w64 (lenI ((u++[a]).map e)-1)=(u.length:Int)∧eqI (lenI ((u++[a]).map e)) 0=false:=by
 rw[Z5L]
 refine⟨?_,eqF (by simp;omega)⟩
 simp only[List.length_append,List.length_cons,List.length_nil]
 rw[Z5Q ⟨by omega,by omega⟩];omega
theorem ZFl {α:Type} (l:List α):l=[]∨∃u a,l=u++[a]:=by
 rcases List.eq_nil_or_concat l with h|⟨u,a,h⟩
 ·exact .inl h
 ·exact .inr ⟨u,a,by simpa using h⟩
noncomputable def ZIP (s:List UInt8):List Dat:=match(Z7G s).1.getLast? with
 |some r=>[.str (S r),.bool true]
 |none=>[.str (S []),.bool false]
theorem ZHJ (s:List UInt8) (h:s.length<1000000000):callI tE Z9h [.str (S s)]=some (ZIP s):=by
 have hl:=ZGk s.length s (Nat.le_refl _)
 simp only[ZDM,ZDo s h,gA]
 unfold ZIP
 rcases ZFl (Z7G s).1 with e|⟨u,a,e⟩
 ·rw[e];rfl
 ·rw[e]at hl⊢
  simp only[List.length_append,List.length_cons,List.length_nil]at hl
  obtain⟨q1,q2⟩:=ZJ5 (e:=StE) u a (by omega)
  rw[q1,q2,ZFP,Z86,ZEG]
  simp only[StE,ZJr,List.getLast?_append,List.getLast?_singleton,Option.some_or,cond_true,cond_false]
theorem ZHK (s:List UInt8) (h:s.length<1000000000):callI tE Z9i [.str (S s)]=some (ZIP s):=by
 have hl:=ZGk s.length s (Nat.le_refl _)
 simp only[ZDN,ZDp s h,gA]
 unfold ZIP
 rcases ZFl (Z7G s).1 with e|⟨u,a,e⟩
 ·rw[e];rfl
 ·rw[e]at hl⊢
  simp only[List.length_append,List.length_cons,List.length_nil]at hl
  obtain⟨q1,q2⟩:=ZJ5 (e:=StE) u a (by omega)
  rw[q1,q2,ZFP,Z86,ZEG]
  simp only[StE,ZJr,List.getLast?_append,List.getLast?_singleton,Option.some_or,cond_true,cond_false]
noncomputable def ZLD (j r:List UInt8):List Dat:=bif(Z7G j).2&&leN (j++Z8o r).length 20000 then[.str (S (j++Z8o r)),.bool true]else[.str (S j),.bool false]
theorem ZCw (j r:List UInt8) (h:j.length<1000000000) (hr:r.length<1000000000):callI tE Z80 [.str (S j),.str (S r)]=some (ZLD j r):=by
 obtain⟨l1,l2⟩:=ZGB (r:=r) (by omega)
 simp only[ZCZ,ZDp j h,ZMK r (by omega),gA]
 unfold ZLD
 cases hw:(Z7G j).2
 ·rfl
 ·rw[Z5z,Z5z,Z5Q ⟨by omega,by omega⟩,Z5n (by omega),Z6c]
  by_cases hle:(j++Z8o r).length≤20000
  ·rw[ltF (by simp at hle;omega),ZLs hle];rfl
  ·rw[ltT (by simp at hle;omega),show leN (j++Z8o r).length 20000=false from decide_eq_false hle];rfl
theorem ZCx (j r:List UInt8) (h:j.length<1000000000) (hr:r.length<1000000000):callI tE Z7z [.str (S j),.str (S r)]=some (ZLD j r):=by
 obtain⟨l1,l2⟩:=ZGB (r:=r) (by omega)
 have h1:=Z9n (n:=r.length) (by omega)
 have h2:=Z9n (n:=chk r) (by have:=ZFj r;omega)
 have hc:=ZFj r
 have e:j++fmt (r.length:Nat)++[58]++r++[44]++fmt (chk r:Nat)++[59]=j++Z8o r:=by unfold Z8o;simp
 simp only[ZCY,ZDo j h,ZGi r (by omega),Z5z,Z6M (n:=(r.length:Int)) ⟨by omega,by omega⟩,Z6M (n:=((chk r:Nat):Int)) ⟨by omega,by omega⟩,gA]
 rw[Z5n (by omega),Z6c,Z5n (by simp;omega),Z6c,Z5n (by simp;omega),Z6c,Z5n (by simp;omega),Z6c,Z5n (by simp;omega),Z6c,Z5n (by simp;omega),Z6c,e,Z5z]
 simp only[cond_true]
 unfold ZLD
 cases hw:(Z7G j).2
 ·rfl
 ·by_cases hle:(j++Z8o r).length≤20000
  ·rw[ltF (by omega),ZLs hle];rfl
  ·rw[ltT (by omega),show leN (j++Z8o r).length 20000=false from decide_eq_false hle];rfl
def ZBo (r:Rw):List UInt8:=if r.ok then Z85 [46] [fmt r.k,fmt r.v,fmt r.w]else[]
theorem ZF0 {r:Rw} (h:r.ok=true):ZBo r=Z85 [46] [fmt r.k,fmt r.v,fmt r.w]:=if_pos h
theorem ZGC {r:Rw} (h:r.ok=false):ZBo r=[]:=if_neg (by simp[h])
theorem ZGl {r:Rw} (h:r.ok=true):I64 r.k∧I64 r.v∧I64 r.w∧r.k.natAbs<1000000000∧r.v.natAbs<1000000000∧r.w.natAbs<1000000000:=by
 have:=Rw.ok_iff.mp h
 exact⟨⟨by omega,by omega⟩,⟨by omega,by omega⟩,⟨by omega,by omega⟩,by omega,by omega,by omega⟩
theorem ZDQ (b x y z:List UInt8):Z85 b [x,y,z]=x++b++y++b++z:=by simp[Z85]
theorem ZHu (r:Rw):(ZBo r).length≤62:=by
 unfold ZBo
 split
 ·rename_i h
  obtain⟨h1,h2,h3,_⟩:=ZGl h
  have a1:=Z6Q h1
  have a2:=Z6Q h2
  have a3:=Z6Q h3
  rw[ZDQ];simp;omega
 ·simp
theorem ZCy {r:Rw} (h:r.ok=true):Z6a 46 (ZBo r)=[fmt r.k,fmt r.v,fmt r.w]:=by
 rw[ZF0 h]
 refine ZCF 46 _ (by simp) fun x hx=>?_
 simp only[List.mem_cons,List.not_mem_nil,or_false]at hx
 rcases hx with rfl|rfl|rfl<;>exact Z8x (by decide) (by decide) _
theorem ZHv (a b:Rw) (ha:a.ok=true) (hb:b.ok=true) (h:ZBo a=ZBo b):a=b:=by
 have e1:=ZCy ha
 rw[h,ZCy hb]at e1
 simp only[List.cons.injEq,and_true]at e1
 exact Rw.eq_of (Z9l e1.1).symm (Z9l e1.2.1).symm (Z9l e1.2.2).symm
theorem ZKr {r:Rw} (h:r.ok=true):ZBo r≠[]:=by
 rw[ZF0 h,ZDQ];simp
theorem ZFm {b:UInt8} (hb:ZAH b=false) (h45:b≠45) (h46:b≠46) (r:Rw):b∉ZBo r:=by
 unfold ZBo
 split
 ·rw[ZDQ]
  simp only[List.mem_append,List.mem_singleton,not_or]
  exact⟨⟨⟨⟨Z8x hb h45 _,h46⟩,Z8x hb h45 _⟩,h46⟩,Z8x hb h45 _⟩
 ·simp
theorem ZIQ (r:Rw):callI tE ZAF [.int r.k,.int r.v,.int r.w]=some [.str (S (ZBo r))]:=by
 simp only[ZE1,ZCo,gA]
 cases h:r.ok
 ·rw[ZGC h];rfl
 ·obtain⟨h1,h2,h3,_⟩:=ZGl h
  have a1:=Z6Q h1
  have a2:=Z6Q h2
  have a3:=Z6Q h3
  simp only[Bool.not_true,cond_false,Z6M h1,Z6M h2,Z6M h3,gA]
  rw[Z5n (by simp;omega),Z6c,Z5n (by simp;omega),Z6c,Z5n (by simp;omega),Z6c,Z5n (by simp;omega),Z6c,ZF0 h,ZDQ]
  rfl
theorem ZFn (r:Rw):callI tE Z8B [.int r.k,.int r.v,.int r.w]=some [.str (S (ZBo r))]:=by
 simp only[ZE5,ZEg,gA]
 cases h:r.ok
 ·rw[ZGC h];rfl
 ·obtain⟨h1,h2,h3,_⟩:=ZGl h
  have a1:=Z6Q h1
  have a2:=Z6Q h2
  have a3:=Z6Q h3
  simp only[Bool.not_true,cond_false,Z6W h1,Z6W h2,Z6W h3,gA]
  rw[Z5n (by simp;omega),Z6c,Z5n (by simp;omega),Z6c,Z5n (by simp;omega),Z6c,Z5n (by simp;omega),Z6c,ZF0 h,ZDQ]
  rfl
noncomputable def ZBn (s:List UInt8):Option Rw:=unf (fun r:Rw=>r.ok=true) ZBo s
theorem ZBe {s:List UInt8} {r:Rw}:ZBn s=some r↔r.ok=true∧ZBo r=s:=ZEK ZHv
theorem ZBf {s:List UInt8}:ZBn s=none↔∀r:Rw,r.ok=true→ZBo r≠s:=ZEL
noncomputable def pR (s:List UInt8):List Dat:=match ZBn s with
 |some r=>[.int r.k,.int r.v,.int r.w,.bool true]
 |none=>[.int 0,.int 0,.int 0,.bool false]
theorem ZLO {s:List UInt8} (h:(Z6a 46 s).length≠3):pR s=[.int 0,.int 0,.int 0,.bool false]:=by
 unfold pR
 rw[ZBf.mpr fun r hr e=>h (by rw[←e,ZCy hr];rfl)]
theorem ZMY {s a b c:List UInt8} (h:Z6a 46 s=[a,b,c]):pR s=bif isN a&&(isN b&&(isN c&&(⟨num a,num b,num c⟩:Rw).ok))then[.int (num a),.int (num b),.int (num c),.bool true]else[.int 0,.int 0,.int 0,.bool false]:=by
 have hs:Z85 [46] [a,b,c]=s:=by rw[←h];exact ZEI 46 s
 unfold pR
 cases hb:isN a&&(isN b&&(isN c&&(⟨num a,num b,num c⟩:Rw).ok))
 ·rw[ZBf.mpr fun r hr e=>?_]
  ·rfl
  ·have e2:=ZCy hr
   rw[e,h]at e2
   simp only[List.cons.injEq,and_true]at e2
   obtain⟨rfl,rfl,rfl⟩:=e2
   obtain⟨_,_,_,q1,q2,q3⟩:=ZGl hr
   obtain⟨u1,u2⟩:=ZAI q1
   obtain⟨u3,u4⟩:=ZAI q2
   obtain⟨u5,u6⟩:=ZAI q3
   rw[u1,u2,u3,u4,u5,u6]at hb
   have:(⟨r.k,r.v,r.w⟩:Rw)=r:=rfl
   rw[this,hr]at hb
   cases hb
 ·simp only[Bool.and_eq_true]at hb
  obtain⟨h1,h2,h3,h4⟩:=hb
  rw[ZBe.mpr ⟨h4,by rw[ZF0 h4];simp only[(ZEx h1).1,(ZEx h2).1,(ZEx h3).1];exact hs⟩]
  rfl
theorem ZJ6 (s:List UInt8) (hs:s.length<1099511627776):callI tE ZAf [.str (S s)]=some (pR s):=by
 rw[ZEb]
 have hc:=ZLJ 46 s hs
 rw[show((46:UInt8).toNat:Int)=46 from rfl]at hc
 simp only[hc,gA]
 rw[show eqI (lenI ((Z6a 46 s).map StE)) 3=decide ((Z6a 46 s).length=3)from ZEz StE _ 3]
 by_cases h3:(Z6a 46 s).length=3
 ·rw[decide_eq_true h3]
  obtain⟨a,b,c,hl⟩:=ZLL h3
  have la:a.length<4611686018427387904:=by have:=Z7S (b:=46) (s:=s) (x:=a) (by rw[hl];simp);omega
  have lb:b.length<4611686018427387904:=by have:=Z7S (b:=46) (s:=s) (x:=b) (by rw[hl];simp);omega
  have lc:c.length<4611686018427387904:=by have:=Z7S (b:=46) (s:=s) (x:=c) (by rw[hl];simp);omega
  rw[ZMY hl,hl]
  simp only[List.map_cons,List.map_nil,StE,ZMG,ZMH,ZMI,gA,ZC2 a la,ZC2 b lb,ZC2 c lc,ZIO,ZCo ⟨num a,num b,num c⟩,Bool.not_true,cond_false,ZIl]
  cases isN a<;>cases isN b<;>cases isN c<;>cases(⟨num a,num b,num c⟩:Rw).ok<;>rfl
 ·rw[decide_eq_false h3,ZLO h3];rfl
theorem ZJ7 (s:List UInt8) (hs:s.length<1099511627776):callI tE ZAg [.str (S s)]=some (pR s):=by
 rw[ZEc]
 have hc:=ZLK 46 s hs
 rw[show((46:UInt8).toNat:Int)=46 from rfl]at hc
 simp only[hc,gA]
 rw[show eqI (lenI ((Z6a 46 s).map StE)) 3=decide ((Z6a 46 s).length=3)from ZEz StE _ 3]
 by_cases h3:(Z6a 46 s).length=3
 ·rw[decide_eq_true h3]
  obtain⟨a,b,c,hl⟩:=ZLL h3
  have la:a.length<4611686018427387904:=by have:=Z7S (b:=46) (s:=s) (x:=a) (by rw[hl];simp);omega
  have lb:b.length<4611686018427387904:=by have:=Z7S (b:=46) (s:=s) (x:=b) (by rw[hl];simp);omega
  have lc:c.length<4611686018427387904:=by have:=Z7S (b:=46) (s:=s) (x:=c) (by rw[hl];simp);omega
  have hsj:Z85 [46] [a,b,c]=s:=by rw[←hl];exact ZEI 46 s
  have hne:s≠[]:=by rw[←hsj,ZDQ];simp
  rw[hl]
  simp only[List.map_cons,List.map_nil,StE,ZMG,ZMH,ZMI,gA,ZC3 a la,ZC3 b lb,ZC3 c lc,ZIO,ZFn ⟨num a,num b,num c⟩,Bool.not_true,cond_false,ZIl,ZCt]
  show(bif decide (ZBo ⟨num a,num b,num c⟩=s)then some [Dat.int (num a),.int (num b),.int (num c),.bool true]else some [.int 0,.int 0,.int 0,.bool false])=some (pR s)
  unfold pR
  by_cases he:ZBo ⟨num a,num b,num c⟩=s
  ·rw[decide_eq_true he]
   have hok:(⟨num a,num b,num c⟩:Rw).ok=true:=by
    cases h:(⟨num a,num b,num c⟩:Rw).ok with
    |true=>rfl
    |false=>rw[ZGC h]at he;exact absurd he.symm hne
   rw[ZBe.mpr ⟨hok,he⟩];rfl
  ·rw[decide_eq_false he,ZBf.mpr fun r hr e=>he ?_]
   ·rfl
   ·have e2:=ZCy hr
    rw[e,hl]at e2
    simp only[List.cons.injEq,and_true]at e2
    obtain⟨rfl,rfl,rfl⟩:=e2
    obtain⟨_,_,_,q1,q2,q3⟩:=ZGl hr
    rw[(ZAI q1).1,(ZAI q2).1,(ZAI q3).1]
    exact e
 ·rw[decide_eq_false h3,ZLO h3];rfl
def ZBp (l:List Rw):List UInt8:=Z85 [32] (l.map ZBo)
def Z6x (l:List Rw):List UInt8:=if aok l then ZBp l else[]
theorem Z9T {l:List Rw} (h:aok l=true):Z6x l=ZBp l:=if_pos h
theorem ZGm {l:List Rw} (h:aok l=false):Z6x l=[]:=if_neg (by simp[h])
theorem ZJ8 (l:List Rw):((l.map ZBo).map fun x=>x.length+[(32:UInt8)].length).sum≤63*l.length:=by
 induction l with
 |nil=>simp
 |cons a l ih=>
  have:=ZHu a
  simp only[List.map_cons,List.sum_cons,List.length_cons,List.length_nil]at ih⊢
  omega
theorem ZGn (l:List Rw):(ZBp l).length≤63*l.length:=Nat.le_trans (ZCv _ _) (ZJ8 l)
theorem Z6L (l:List Rw):(Z6x l).length≤1512:=by
 unfold Z6x
 split
 ·rename_i h;have:=Z6V h;have:=ZGn l;omega
 ·simp
theorem ZF1 {l:List Rw} (h:l≠[]):Z6a 32 (ZBp l)=l.map ZBo:=by
 refine ZCF 32 _ (by simpa using h) fun x hx=>?_
 obtain⟨r,_,rfl⟩:=List.mem_map.mp hx
 exact ZFm (by decide) (by decide) (by decide) r
theorem ZDq:∀{l m:List Rw},(∀r∈l,r.ok=true)→(∀r∈m,r.ok=true)→l.map ZBo=m.map ZBo→l=m
 |[],[],_,_,_=>rfl
 |[],_::_,_,_,h=>by simp at h
 |_::_,[],_,_,h=>by simp at h
 |a::l,b::m,h1,h2,h=>by
  simp only[List.map_cons,List.cons.injEq]at h
  rw[ZHv a b (h1 a (by simp)) (h2 b (by simp)) h.1,ZDq (fun r hr=>h1 r (by simp[hr])) (fun r hr=>h2 r (by simp[hr])) h.2]
theorem ZF2 {l:List Rw} (ha:∀r∈l,r.ok=true) (h:ZBp l=[]):l=[]:=by
 cases l with
 |nil=>rfl
 |cons a l=>
  have h1:=ZKr (ha a (by simp))
  cases l with
  |nil=>exact absurd h h1
  |cons b l=>
   have:ZBp (a::b::l)=ZBo a++[32]++ZBp (b::l):=Z9D (by simp)
   rw[this]at h
   simp at h
theorem ZGo {l m:List Rw} (h1:∀r∈l,r.ok=true) (h2:∀r∈m,r.ok=true) (h:ZBp l=ZBp m):l=m:=by
 by_cases hl:l=[]
 ·subst hl
  exact(ZF2 h2 h.symm).symm
 ·by_cases hm:m=[]
  ·subst hm;exact ZF2 h1 h
  ·have e:=ZF1 hl
   rw[h,ZF1 hm]at e
   exact(ZDq h2 h1 e).symm
theorem ZJ9 (l m:List Rw) (h1:aok l=true) (h2:aok m=true) (h:Z6x l=Z6x m):l=m:=by
 rw[Z9T h1,Z9T h2]at h
 exact ZGo (ZEh h1) (ZEh h2) h
noncomputable def ZBg (s:List UInt8):Option (List Rw):=unf (fun l=>aok l=true) Z6x s
theorem ZA8 {s:List UInt8} {l:List Rw}:ZBg s=some l↔aok l=true∧Z6x l=s:=ZEK ZJ9
theorem ZDr {s:List UInt8}:ZBg s=none↔∀l:List Rw,aok l=true→Z6x l≠s:=ZEL
noncomputable def pRs (s:List UInt8):List Dat:=match ZBg s with
 |some l=>[.sl (l.map Rw.e),.bool true]
 |none=>[.sl [],.bool false]
theorem ZJA:pRs []=[.sl [],.bool true]:=by
 unfold pRs
 rw[show ZBg []=some []from ZA8.mpr ⟨rfl,rfl⟩];rfl
theorem ZKs (u:List (List UInt8)) (r:Rw):List.append (u.map StE) [[Dat.str (S (ZBo r))]]=(u++[ZBo r]).map StE:=by simp[StE]
theorem ZKt {l:List Rw} (h:l.length<1099511627776):((l.map ZBo).map fun x=>x.length+[(32:UInt8)].length).sum<4611686018427387904:=by
 have:=ZJ8 l;omega
theorem ZCz (l:List Rw) (h:l.length<1099511627776):callI tE Z7A [.sl (l.map Rw.e)]=some [.str (S (ZBp l))]:=by
 rw[ZEW]
 have:=Z6d (l:=l) (L:=fun(s:List (List UInt8)) i=>Z6h (l.map Rw.e) (lenI (l.map Rw.e)) i (s.map StE)) (F:=fun _ _=>some [.str (S (ZBp l))]) (I:=fun s u _=>s=u.map ZBo) (by omega) (fun u r v s e hI=>by
  have hul:u.length<1099511627776:=by rw[e]at h;simp at h;omega
  refine .inl ⟨(u++[r]).map ZBo,?_,rfl,rfl⟩
  show Z6h _ _ _ _=Z6h _ _ _ _
  subst e
  rw[ZAP,hI]
  simp only[ZFO,ZFP,Z86,ZEG,cond_true,Rw.e,gA,ZIQ,Z5b]
  rw[show fitM (Nat.succ (u.map ZBo).length) 16=true from Z97 (by simp;omega),ZKs]
  simp) (fun s hs=>by
  show Z6h _ _ _ _=_
  rw[ZAP,ZEd,cond_false,hs,ZHG [32] (l.map ZBo) (by simp;omega) (ZKt h)];rfl) [] rfl
 exact this
theorem ZCb (l:List Rw):callI tE Z7i [.sl (l.map Rw.e)]=some [.str (S (Z6x l))]:=by
 simp only[ZDH,ZBJ,gA]
 cases h:aok l
 ·rw[ZGm h];rfl
 ·have:=Z6V h
  rw[Bool.not_true,cond_false,ZCz l (by omega),Z9T h];rfl
theorem Z9p (l:List Rw) (h:l.length<1099511627776):callI tE Z5s [.sl (l.map Rw.e)]=some [.str (S (Z6x l))]:=by
 rw[ZDL]
 cases hok:aok l
 ·rw[ZGm hok,Z8H,ZA7 l (by omega),hok]
  cases ltI 0 (lenI (l.map Rw.e))<;>rfl
 ·rw[Z9T hok]
  have:=Z6d (l:=l) (L:=fun s i=>Z61 (l.map Rw.e) (S s) i) (F:=fun _ _=>some [.str (S (ZBp l))]) (I:=fun s u _=>s=ZBp u) (by omega) (fun u r v s e hI=>by
   refine .inl ⟨ZBp (u++[r]),?_,rfl,rfl⟩
   show Z61 _ _ _=Z61 _ _ _
   have hul:u.length<1099511627776:=by rw[e]at h;simp at h;omega
   have l1:=ZGn u
   have l2:=ZHu r
   rw[Z8H,ZA7 l (by omega),hok]
   subst e
   simp only[ZFO,ZFP,Z86,ZEG,cond_true,Rw.e,gA,ZFn,hI]
   unfold ZBp at*
   have e1:(u++[r]).map ZBo=u.map ZBo++[ZBo r]:=by simp
   rw[e1,ZHF]
   by_cases hu:u=[]
   ·subst hu
    rw[if_pos (by rfl),ltF (by simp),cond_false,Z5n (by simp[Z85];omega),Z6c];rfl
   ·have hul:0<u.length:=List.length_pos_iff.mpr hu
    rw[if_neg (by simpa using hu),ltT (by omega),Z5n (by simp;omega),Z6c,Z5n (by simp;omega),Z6c];rfl) (fun s hs=>by
   show Z61 _ _ _=_
   rw[Z8H,ZEd,cond_false,hs]) [] rfl
  exact this
theorem ZHw {s x:List UInt8} {u v:List (List UInt8)} (hne:s≠[]) (e:Z6a 32 s=u++x::v) (h:ZBn x=none):pRs s=[.sl [],.bool false]:=by
 unfold pRs
 rw[ZDr.mpr fun l hl he=>?_]
 rw[Z9T hl]at he
 have hl0:l≠[]:=by rintro rfl;exact hne he.symm
 have e2:=ZF1 hl0
 rw[he,e]at e2
 have hx:x∈l.map ZBo:=by rw[←e2];simp
 obtain⟨r,hr,rfl⟩:=List.mem_map.mp hx
 exact ZBf.mp h r (ZEh hl r hr) rfl
theorem ZJB {s:List UInt8} {out:List Rw} (hne:s≠[]) (e:Z6a 32 s=out.map ZBo) (ha:∀r∈out,r.ok=true):(bif aok out then some [Dat.sl (out.map Rw.e),.bool true]else some [.sl [],.bool false])=some (pRs s):=by
 have hs:ZBp out=s:=by unfold ZBp;rw[←e];exact ZEI 32 s
 unfold pRs
 cases h:aok out
 ·rw[ZDr.mpr fun l hl he=>?_]
  ·rfl
  ·rw[Z9T hl,←hs]at he
   rw[ZGo (ZEh hl) ha he,h]at hl
   cases hl
 ·rw[ZA8.mpr ⟨h,by rw[Z9T h];exact hs⟩];rfl
theorem ZJC {x:List UInt8} {r:Rw} (h:ZBn x=some r):pR x=[.int r.k,.int r.v,.int r.w,.bool true]:=by unfold pR;rw[h]
theorem ZJD {x:List UInt8} (h:ZBn x=none):pR x=[.int 0,.int 0,.int 0,.bool false]:=by unfold pR;rw[h]
theorem ZKP (u:List Rw) (r:Rw):List.append (u.map Rw.e) [[Dat.int r.k,.int r.v,.int r.w]]=(u++[r]).map Rw.e:=by simp[Rw.e]
theorem ZDR (s:List UInt8) (hs:s.length<1073741824):callI tE Z7H [.str (S s)]=some (pRs s):=by
 rw[ZE6]
 by_cases hne:s=[]
 ·subst hne;rw[ZJA,show eqS (S []) (S [])=true from(ZCt _ _).trans (decide_eq_true rfl)];rfl
 ·rw[show eqS (S s) (S [])=false from(ZCt _ _).trans (decide_eq_false hne),cond_false]
  have hc:=ZLJ 32 s (by omega)
  rw[show((32:UInt8).toNat:Int)=32 from rfl]at hc
  have hcl:=ZAY 32 s
  simp only[hc,gA]
  have:=Z6d (l:=Z6a 32 s) (L:=fun(o:List Rw) i=>Z5u (lenI ((Z6a 32 s).map StE)) i (o.map Rw.e) ((Z6a 32 s).map StE)) (F:=fun _ _=>some (pRs s)) (I:=fun o u _=>u=o.map ZBo∧∀r∈o,r.ok=true) (by omega) (fun u x v o e hI=>by
   have hx:x.length≤s.length:=Z7S (b:=32) (by rw[e];simp)
   have hul:u.length<1099511627776:=by rw[e]at hcl;simp at hcl;omega
   have hol:o.length=u.length:=by rw[hI.1];simp
   have step:Z5u (lenI ((Z6a 32 s).map StE)) u.length (o.map Rw.e) ((Z6a 32 s).map StE)=match ZBn x with
     |some r=>Z5u (lenI ((Z6a 32 s).map StE)) (w64 (u.length+1)) ((o++[r]).map Rw.e) ((Z6a 32 s).map StE)
     |none=>some [.sl [],.bool false]:=by
    rw[ZA6,e]
    simp only[ZFO,ZFP,Z86,ZEG,cond_true,StE,gA,ZJ6 x (by omega)]
    cases hp:ZBn x with
    |none=>rw[ZJD hp];rfl
    |some r=>
     rw[ZJC hp,Z5b,show fitM (Nat.succ o.length) 24=true from Z97 (by omega)]
     simp only[gA,ZKP]
     rfl
   cases hp:ZBn x with
   |none=>
    refine .inr ?_
    show Z5u _ _ _ _=_
    rw[step,hp,ZHw hne e hp]
   |some r=>
    obtain⟨q1,q2⟩:=ZBe.mp hp
    refine .inl ⟨o++[r],?_,⟨by rw[hI.1];simp[q2],fun z hz=>?_⟩,rfl⟩
    ·show Z5u _ _ _ _=_
     rw[step,hp]
    ·rcases List.mem_append.mp hz with hz|hz
     ·exact hI.2 z hz
     ·simp at hz;subst hz;exact q1) (fun o hI=>by
   show Z5u _ _ _ _=_
   rw[ZA6,ZEd,cond_false,ZBJ]
   simp only[gA,ZIl]
   exact ZJB hne hI.1 hI.2) [] ⟨rfl,by simp⟩
  exact this
theorem ZDS (s:List UInt8) (hs:s.length<1073741824):callI tE Z65 [.str (S s)]=some (pRs s):=by
 rw[ZE7]
 have hc:=ZLK 32 s (by omega)
 rw[show((32:UInt8).toNat:Int)=32 from rfl]at hc
 have hcl:=ZAY 32 s
 simp only[hc,gA]
 by_cases hne:s=[]
 ·subst hne
  rw[Z8Y,ZJA,show eqS (S []) (S [])=true from(ZCt _ _).trans (decide_eq_true rfl)]
  have:=ZA7 [] (by simp)
  simp only[List.map_nil]at this
  rw[this]
  cases ltI 0 (lenI ((Z6a 32 []).map StE))<;>rfl
 ·have:=Z6d (l:=Z6a 32 s) (L:=fun(o:List Rw) i=>Z5v (S s) i (o.map Rw.e) ((Z6a 32 s).map StE)) (F:=fun _ _=>some (pRs s)) (I:=fun o u _=>u=o.map ZBo∧∀r∈o,r.ok=true) (by omega) (fun u x v o e hI=>by
   have hx:x.length≤s.length:=Z7S (b:=32) (by rw[e];simp)
   have hul:u.length<1099511627776:=by rw[e]at hcl;simp at hcl;omega
   have hol:o.length=u.length:=by rw[hI.1];simp
   have step:Z5v (S s) u.length (o.map Rw.e) ((Z6a 32 s).map StE)=match ZBn x with
     |some r=>Z5v (S s) (w64 (u.length+1)) ((o++[r]).map Rw.e) ((Z6a 32 s).map StE)
     |none=>some [.sl [],.bool false]:=by
    rw[Z8Y,e,show eqS (S s) (S [])=false from(ZCt _ _).trans (decide_eq_false hne)]
    simp only[ZFO,ZFP,Z86,ZEG,cond_true,Bool.not_false,StE,gA,ZJ7 x (by omega)]
    cases hp:ZBn x with
    |none=>rw[ZJD hp];rfl
    |some r=>
     rw[ZJC hp,Z5b,show fitM (Nat.succ o.length) 24=true from Z97 (by omega)]
     simp only[gA,ZKP]
     rfl
   cases hp:ZBn x with
   |none=>
    refine .inr ?_
    show Z5v _ _ _ _=_
    rw[step,hp,ZHw hne e hp]
   |some r=>
    obtain⟨q1,q2⟩:=ZBe.mp hp
    refine .inl ⟨o++[r],?_,⟨by rw[hI.1];simp[q2],fun z hz=>?_⟩,rfl⟩
    ·show Z5v _ _ _ _=_
     rw[step,hp]
    ·rcases List.mem_append.mp hz with hz|hz
     ·exact hI.2 z hz
     ·simp at hz;subst hz;exact q1) (fun o hI=>by
   show Z5v _ _ _ _=_
   have hol:o.length=(Z6a 32 s).length:=by rw[hI.1];simp
   rw[Z8Y,ZEd,cond_false,ZA7 o (by omega)]
   simp only[gA,ZIl]
   exact ZJB hne hI.1 hI.2) [] ⟨rfl,by simp⟩
  exact this
theorem ZLP (k:Int):(bif ltI 0 k then k else 0)=((k.toNat:Nat):Int):=by
 by_cases h:0<k
 ·rw[ltT h,cond_true];omega
 ·rw[ltF (by omega),cond_false];omega
theorem ZLQ (n:Nat) (k:Int):(bif ltI 0 (bif ltI (n:Int) k then(n:Int)else k)then(bif ltI (n:Int) k then(n:Int)else k)else 0)=((min n k.toNat:Nat):Int):=by
 by_cases h:(n:Int)<k
 ·rw[ltT h,cond_true,ZLP];omega
 ·rw[ltF (show k≤(n:Int)by omega),cond_false,ZLP];omega
theorem ZLR (s:List UInt8) (n:Int):callI tE ZAh [.str (S s),.int n]=some [.str (S (s.take n.toNat))]:=by
 rw[ZEm]
 simp only[Z5z,ZLQ,Z86,ZIu,List.drop_zero]
 rw[leT (by omega),leT (by omega)]
 simp only[Bool.and_self,cond_true]
 congr 3
 by_cases h:n.toNat≤s.length
 ·rw[Nat.min_eq_right h]
 ·rw[Nat.min_eq_left (by omega),List.take_length,List.take_of_length_le (by omega)]
theorem ZLS (s:List UInt8) (n:Int):callI tE ZAe [.str (S s),.int n]=some [.str (S (s.take n.toNat))]:=by
 rw[ZEl]
 simp only[Z5z,ZLQ,Z86,ZIu,List.drop_zero]
 rw[leT (by omega),leT (by omega)]
 simp only[Bool.and_self,cond_true]
 congr 3
 by_cases h:n.toNat≤s.length
 ·rw[Nat.min_eq_right h]
 ·rw[Nat.min_eq_left (by omega),List.take_length,List.take_of_length_le (by omega)]
theorem ZHx (r:List UInt8):0<(Z8o r).length:=by unfold Z8o;(first|omega|(simp only[List.length_append,List.length_cons,List.length_nil,List.length_map,List.length_take,List.length_drop,List.length_replicate,Z5z]at* <;>omega))
theorem ZJE:∀(n:Nat) (j t:List UInt8),j.length≤n→(Z7G j).2=true→Z7G (j++t)=((Z7G j).1++(Z7G t).1,(Z7G t).2):=by
 intro n
 induction n with
 |zero=>
  intro j t hn h
  have:j=[]:=List.length_eq_zero_iff.mp (by omega)
  subst this
  rw[Z7T];simp
 |succ n ih=>
  intro j t hn h
  by_cases h0:j=[]
  ·subst h0;rw[Z7T];simp
  ·cases hf:ZCa j with
   |none=>rw[ZBO h0 hf]at h;cases h
   |some r=>
    obtain⟨y,rfl⟩:=Z9o.mp hf
    have hr:=ZHx r
    rw[ZAZ]at h⊢
    rw[List.append_assoc,ZAZ,ih y t (by simp at hn;omega) h]
    simp
theorem ZJF:∀(n:Nat) (s:List UInt8) (k:Nat),s.length≤n→∃m,(Z7G (s.take k)).1=(Z7G s).1.take m:=by
 intro n
 induction n with
 |zero=>
  intro s k hn
  have:s=[]:=List.length_eq_zero_iff.mp (by omega)
  subst this
  exact⟨0,by rw[List.take_nil,Z7T];rfl⟩
 |succ n ih=>
  intro s k hn
  by_cases h0:s.take k=[]
  ·exact⟨0,by rw[h0,Z7T];simp⟩
  ·cases hf:ZCa (s.take k)with
   |none=>exact⟨0,by rw[ZBO h0 hf];simp⟩
   |some r=>
    obtain⟨y,hy⟩:=Z9o.mp hf
    have hr:=ZHx r
    have hs:s=Z8o r++(y++s.drop k):=by rw[←List.append_assoc,←hy,List.take_append_drop]
    have hk:(y++s.drop k).take y.length=y:=List.take_left
    obtain⟨m,hm⟩:=ih (y++s.drop k) y.length (by have:=congrArg List.length hs;simp only[List.length_append]at this⊢;omega)
    rw[hk]at hm
    refine⟨m+1,?_⟩
    rw[hy,ZAZ]
    conv=>rhs;rw[hs]
    rw[ZAZ,List.take_succ_cons,hm]
set_option maxRecDepth 100000
noncomputable def Z5X (x0 x1 x2:Int) (x3:Rows):Option (List Dat):=loopK tE Z5d 0 ⟨[(0,(.own (1000000,0))),(1,(.i .i64 x0)),(2,(.i .i64 x1)),(3,(.fn 179 [])),(8,(.i .i64 x2))],[((1000000,0),(.row 105 x3 Bool.true 0 []))]⟩
noncomputable def Z5Y (x0 x1 x2 x3:Int) (x4:Rows):Option (List Dat):=loopK tE Z5d 1 ⟨[(0,(.own (1000000,0))),(1,(.i .i64 x0)),(2,(.i .i64 x1)),(3,(.fn 179 [])),(8,(.i .i64 x2)),(9,(.i .i64 x3))],[((1000000,0),(.row 105 x4 Bool.true 0 []))]⟩
theorem Z68 (x0 x1 x2:Int) (x3:Rows):Z5X x0 x1 x2 x3=(bif(ltI x2 x1)then(Z5Y x0 x1 x2 x2 x3)else(some [(.sl x3)])):=(loopK_run (by kernel_rfl)).trans (by kernel_rfl)
theorem Z69 (x0 x1 x2 x3:Int) (x4:Rows):Z5Y x0 x1 x2 x3 x4=(bif(ltI x0 x3)then(bif(inR x3 (lenI x4))then(bif(inR (w64 (x3-1)) (lenI x4))then(((callI tE Z5R [(.int (gn (at' x4 (tn x3)))),(.int (gn (tk 1 (at' x4 (tn x3))))),(.int (gn (tk 2 (at' x4 (tn x3))))),(.int (gn (at' x4 (tn (w64 (x3-1)))))),(.int (gn (tk 1 (at' x4 (tn (w64 (x3-1))))))),(.int (gn (tk 2 (at' x4 (tn (w64 (x3-1)))))))])).bind (fun r0=>(bif(ltI (gn r0) 0)then(bif(inR (w64 (x3-1)) (lenI x4))then(bif(inR x3 (lenI x4))then(bif(inR x3 (lenI x4))then(bif(inR (w64 (x3-1)) (lenI (updR x4 (tn x3) 0 [(.int (gn (at' x4 (tn (w64 (x3-1)))))),(.int (gn (tk 1 (at' x4 (tn (w64 (x3-1))))))),(.int (gn (tk 2 (at' x4 (tn (w64 (x3-1)))))))])))then(Z5Y x0 x1 x2 (w64 (x3-1)) (updR (updR x4 (tn x3) 0 [(.int (gn (at' x4 (tn (w64 (x3-1)))))),(.int (gn (tk 1 (at' x4 (tn (w64 (x3-1))))))),(.int (gn (tk 2 (at' x4 (tn (w64 (x3-1)))))))]) (tn (w64 (x3-1))) 0 [(.int (gn (at' x4 (tn x3)))),(.int (gn (tk 1 (at' x4 (tn x3))))),(.int (gn (tk 2 (at' x4 (tn x3)))))]))else none)else none)else none)else none)else(Z5X x0 x1 (w64 (x2+1)) x4))))else none)else none)else(Z5X x0 x1 (w64 (x2+1)) x4)):=(loopK_run (by kernel_rfl)).trans (by kernel_rfl)
theorem Z7U (a0:Rows) (a1 a2:Int):callI tE Z5d [.sl a0,.int a1,.int a2]=(Z5X a1 a2 (w64 (a1+1)) a0):=(callI_run rfl (by kernel_rfl)).trans (by kernel_rfl)
noncomputable def Z5i (x0 x1 x2 x3:Int) (x4:Rows):Option (List Dat):=loopK tE Z5k 0 ⟨[(0,(.own (1000000,0))),(1,(.i .i64 x0)),(2,(.i .i64 x1)),(3,(.i .i64 x2)),(10,(.i .i64 x3))],[((1000000,0),(.row 105 x4 Bool.true 0 []))]⟩
theorem Z7F (x0 x1 x2 x3:Int) (x4:Rows):Z5i x0 x1 x2 x3 x4=(bif(ltI x3 x2)then(bif(inR (w64 (x1+x3)) (lenI x4))then(bif(inR (w64 (x0+x3)) (lenI x4))then(bif(inR (w64 (x0+x3)) (lenI x4))then(bif(inR (w64 (x1+x3)) (lenI (updR x4 (tn (w64 (x0+x3))) 0 [(.int (gn (at' x4 (tn (w64 (x1+x3)))))),(.int (gn (tk 1 (at' x4 (tn (w64 (x1+x3))))))),(.int (gn (tk 2 (at' x4 (tn (w64 (x1+x3)))))))])))then(Z5i x0 x1 x2 (w64 (x3+1)) (updR (updR x4 (tn (w64 (x0+x3))) 0 [(.int (gn (at' x4 (tn (w64 (x1+x3)))))),(.int (gn (tk 1 (at' x4 (tn (w64 (x1+x3))))))),(.int (gn (tk 2 (at' x4 (tn (w64 (x1+x3)))))))]) (tn (w64 (x1+x3))) 0 [(.int (gn (at' x4 (tn (w64 (x0+x3)))))),(.int (gn (tk 1 (at' x4 (tn (w64 (x0+x3))))))),(.int (gn (tk 2 (at' x4 (tn (w64 (x0+x3)))))))]))else none)else none)else none)else none)else(some [(.sl x4)])):=(loopK_run (by kernel_rfl)).trans (by kernel_rfl)
theorem ZAJ (a0:Rows) (a1 a2 a3:Int):callI tE Z5k [.sl a0,.int a1,.int a2,.int a3]=(Z5i a1 a2 a3 0 a0):=(callI_run rfl (by kernel_rfl)).trans (by kernel_rfl)
noncomputable def Z5w (x0 x1 x2 x3 x4:Int) (x5:Rows):Option (List Dat):=loopK tE Z6A 0 ⟨[(0,(.own (1000000,0))),(1,(.i .i64 x0)),(2,(.i .i64 x1)),(3,(.i .i64 x2)),(4,(.fn 179 [])),(10,(.i .i64 x3)),(11,(.i .i64 x4))],[((1000000,0),(.row 105 x5 Bool.true 0 []))]⟩
theorem Z9q (x0 x1 x2 x3 x4:Int) (x5:Rows):Z5w x0 x1 x2 x3 x4 x5=(bif(!(eqI x3 x4))then(bif(ltI x4 x3)then(((callI tE Z5k [(.sl x5),(.int (w64 (x1-x3))),(.int x1),(.int x4)])).bind (fun r0=>(Z5w x0 x1 x2 (w64 (x3-x4)) x4 (gl r0))))else(((callI tE Z5k [(.sl x5),(.int (w64 (x1-x3))),(.int (w64 ((w64 (x1+x4))-x3))),(.int x3)])).bind (fun r0=>(Z5w x0 x1 x2 x3 (w64 (x4-x3)) (gl r0)))))else(((callI tE Z5k [(.sl x5),(.int (w64 (x1-x3))),(.int x1),(.int x3)])).bind (fun r0=>(some [(.sl (gl r0))])))):=(loopK_run (by kernel_rfl)).trans (by kernel_rfl)
theorem ZAw (a0:Rows) (a1 a2 a3:Int):callI tE Z6A [.sl a0,.int a1,.int a2,.int a3]=(Z5w a1 a2 a3 (w64 (a2-a1)) (w64 (a3-a2)) a0):=(callI_run rfl (by kernel_rfl)).trans (by kernel_rfl)
noncomputable def Z5S (x0 x1 x2 x3 x4:Int) (x5:Rows):Option (List Dat):=loopK tE Za 0 ⟨[(0,(.own (1000000,0))),(1,(.i .i64 x0)),(2,(.i .i64 x1)),(3,(.i .i64 x2)),(4,(.fn 179 [])),(10,(.i .i64 x3)),(11,(.i .i64 x4))],[((1000000,0),(.row 105 x5 Bool.true 0 []))]⟩
noncomputable def Z5T (x0 x1 x2 x3 x4:Int) (x5:Rows):Option (List Dat):=loopK tE Za 2 ⟨[(0,(.own (1000000,0))),(1,(.i .i64 x0)),(2,(.i .i64 x1)),(3,(.i .i64 x2)),(4,(.fn 179 [])),(14,(.i .i64 x3)),(15,(.i .i64 x4))],[((1000000,0),(.row 105 x5 Bool.true 0 []))]⟩
noncomputable def Z5M (x0 x1 x2 x3 x4 x5 x6 x7:Int) (x8:Rows):Option (List Dat):=loopK tE Za 4 ⟨[(0,(.own (1000000,0))),(1,(.i .i64 x0)),(2,(.i .i64 x1)),(3,(.i .i64 x2)),(4,(.fn 179 [])),(18,(.i .i64 x3)),(19,(.i .i64 x4)),(20,(.i .i64 x5)),(21,(.i .i64 x6)),(22,(.i .i64 x7))],[((1000000,0),(.row 105 x8 Bool.true 0 []))]⟩
noncomputable def Z5U (x0 x1 x2 x3 x4:Int) (x5:Rows):Option (List Dat):=loopK tE Za 1 ⟨[(0,(.own (1000000,0))),(1,(.i .i64 x0)),(2,(.i .i64 x1)),(3,(.i .i64 x2)),(10,(.i .i64 x3)),(13,(.i .i64 x4))],[((1000000,0),(.row 105 x5 Bool.true 0 []))]⟩
noncomputable def Z5V (x0 x1 x2 x3 x4:Int) (x5:Rows):Option (List Dat):=loopK tE Za 3 ⟨[(0,(.own (1000000,0))),(1,(.i .i64 x0)),(2,(.i .i64 x1)),(3,(.i .i64 x2)),(14,(.i .i64 x3)),(17,(.i .i64 x4))],[((1000000,0),(.row 105 x5 Bool.true 0 []))]⟩
theorem Z7V (x0 x1 x2 x3 x4:Int) (x5:Rows):Z5S x0 x1 x2 x3 x4 x5=(bif(ltI x3 x4)then(bif(inR (w64 ((Go.IntKind.wrap .u64 (w64 (x3+x4)))/(Int.pow 2 (ite ((tn 1)≤(Go.IntKind.bits .u64)) (tn 1) 64)))) (lenI x5))then(bif(inR x0 (lenI x5))then(((callI tE Z5R [(.int (gn (at' x5 (tn (w64 ((Go.IntKind.wrap .u64 (w64 (x3+x4)))/(Int.pow 2 (ite ((tn 1)≤(Go.IntKind.bits .u64)) (tn 1) 64)))))))),(.int (gn (tk 1 (at' x5 (tn (w64 ((Go.IntKind.wrap .u64 (w64 (x3+x4)))/(Int.pow 2 (ite ((tn 1)≤(Go.IntKind.bits .u64)) (tn 1) 64))))))))),(.int (gn (tk 2 (at' x5 (tn (w64 ((Go.IntKind.wrap .u64 (w64 (x3+x4)))/(Int.pow 2 (ite ((tn 1)≤(Go.IntKind.bits .u64)) (tn 1) 64))))))))),(.int (gn (at' x5 (tn x0)))),(.int (gn (tk 1 (at' x5 (tn x0))))),(.int (gn (tk 2 (at' x5 (tn x0)))))])).bind (fun r0=>(bif(ltI (gn r0) 0)then(Z5S x0 x1 x2 (w64 ((w64 ((Go.IntKind.wrap .u64 (w64 (x3+x4)))/(Int.pow 2 (ite ((tn 1)≤(Go.IntKind.bits .u64)) (tn 1) 64))))+1)) x4 x5)else(Z5S x0 x1 x2 x3 (w64 ((Go.IntKind.wrap .u64 (w64 (x3+x4)))/(Int.pow 2 (ite ((tn 1)≤(Go.IntKind.bits .u64)) (tn 1) 64)))) x5))))else none)else none)else(Z5U x0 x1 x2 x3 x0 x5)):=(loopK_run (by kernel_rfl)).trans (by kernel_rfl)
theorem Z7W (x0 x1 x2 x3 x4:Int) (x5:Rows):Z5T x0 x1 x2 x3 x4 x5=(bif(ltI x3 x4)then(bif(inR x1 (lenI x5))then(bif(inR (w64 ((Go.IntKind.wrap .u64 (w64 (x3+x4)))/(Int.pow 2 (ite ((tn 1)≤(Go.IntKind.bits .u64)) (tn 1) 64)))) (lenI x5))then(((callI tE Z5R [(.int (gn (at' x5 (tn x1)))),(.int (gn (tk 1 (at' x5 (tn x1))))),(.int (gn (tk 2 (at' x5 (tn x1))))),(.int (gn (at' x5 (tn (w64 ((Go.IntKind.wrap .u64 (w64 (x3+x4)))/(Int.pow 2 (ite ((tn 1)≤(Go.IntKind.bits .u64)) (tn 1) 64)))))))),(.int (gn (tk 1 (at' x5 (tn (w64 ((Go.IntKind.wrap .u64 (w64 (x3+x4)))/(Int.pow 2 (ite ((tn 1)≤(Go.IntKind.bits .u64)) (tn 1) 64))))))))),(.int (gn (tk 2 (at' x5 (tn (w64 ((Go.IntKind.wrap .u64 (w64 (x3+x4)))/(Int.pow 2 (ite ((tn 1)≤(Go.IntKind.bits .u64)) (tn 1) 64)))))))))])).bind (fun r0=>(bif(!(ltI (gn r0) 0))then(Z5T x0 x1 x2 (w64 ((w64 ((Go.IntKind.wrap .u64 (w64 (x3+x4)))/(Int.pow 2 (ite ((tn 1)≤(Go.IntKind.bits .u64)) (tn 1) 64))))+1)) x4 x5)else(Z5T x0 x1 x2 x3 (w64 ((Go.IntKind.wrap .u64 (w64 (x3+x4)))/(Int.pow 2 (ite ((tn 1)≤(Go.IntKind.bits .u64)) (tn 1) 64)))) x5))))else none)else none)else(Z5V x0 x1 x2 x3 x1 x5)):=(loopK_run (by kernel_rfl)).trans (by kernel_rfl)
theorem Z7X (x0 x1 x2 x3 x4 x5 x6 x7:Int) (x8:Rows):Z5M x0 x1 x2 x3 x4 x5 x6 x7 x8=(bif(ltI x5 x6)then(bif(inR (w64 (x7-(w64 ((Go.IntKind.wrap .u64 (w64 (x5+x6)))/(Int.pow 2 (ite ((tn 1)≤(Go.IntKind.bits .u64)) (tn 1) 64)))))) (lenI x8))then(bif(inR (w64 ((Go.IntKind.wrap .u64 (w64 (x5+x6)))/(Int.pow 2 (ite ((tn 1)≤(Go.IntKind.bits .u64)) (tn 1) 64)))) (lenI x8))then(((callI tE Z5R [(.int (gn (at' x8 (tn (w64 (x7-(w64 ((Go.IntKind.wrap .u64 (w64 (x5+x6)))/(Int.pow 2 (ite ((tn 1)≤(Go.IntKind.bits .u64)) (tn 1) 64)))))))))),(.int (gn (tk 1 (at' x8 (tn (w64 (x7-(w64 ((Go.IntKind.wrap .u64 (w64 (x5+x6)))/(Int.pow 2 (ite ((tn 1)≤(Go.IntKind.bits .u64)) (tn 1) 64))))))))))),(.int (gn (tk 2 (at' x8 (tn (w64 (x7-(w64 ((Go.IntKind.wrap .u64 (w64 (x5+x6)))/(Int.pow 2 (ite ((tn 1)≤(Go.IntKind.bits .u64)) (tn 1) 64))))))))))),(.int (gn (at' x8 (tn (w64 ((Go.IntKind.wrap .u64 (w64 (x5+x6)))/(Int.pow 2 (ite ((tn 1)≤(Go.IntKind.bits .u64)) (tn 1) 64)))))))),(.int (gn (tk 1 (at' x8 (tn (w64 ((Go.IntKind.wrap .u64 (w64 (x5+x6)))/(Int.pow 2 (ite ((tn 1)≤(Go.IntKind.bits .u64)) (tn 1) 64))))))))),(.int (gn (tk 2 (at' x8 (tn (w64 ((Go.IntKind.wrap .u64 (w64 (x5+x6)))/(Int.pow 2 (ite ((tn 1)≤(Go.IntKind.bits .u64)) (tn 1) 64)))))))))])).bind (fun r0=>(bif(!(ltI (gn r0) 0))then(Z5M x0 x1 x2 x3 x4 (w64 ((w64 ((Go.IntKind.wrap .u64 (w64 (x5+x6)))/(Int.pow 2 (ite ((tn 1)≤(Go.IntKind.bits .u64)) (tn 1) 64))))+1)) x6 x7 x8)else(Z5M x0 x1 x2 x3 x4 x5 (w64 ((Go.IntKind.wrap .u64 (w64 (x5+x6)))/(Int.pow 2 (ite ((tn 1)≤(Go.IntKind.bits .u64)) (tn 1) 64)))) x7 x8))))else none)else none)else(bif(ltI x5 x1)then(bif(ltI x1 (w64 (x4-x5)))then(((callI tE Z6A [(.sl x8),(.int x5),(.int x1),(.int (w64 (x4-x5)))])).bind (fun r0=>(bif(ltI x0 x5)then(bif(ltI x5 x3)then(((callI tE Za [(.sl (gl r0)),(.int x0),(.int x5),(.int x3)])).bind (fun r1=>(bif(ltI x3 (w64 (x4-x5)))then(bif(ltI (w64 (x4-x5)) x2)then(((callI tE Za [(.sl (gl r1)),(.int x3),(.int (w64 (x4-x5))),(.int x2)])).bind (fun r2=>(some [(.sl (gl r2))])))else(some [(.sl (gl r1))]))else(some [(.sl (gl r1))]))))else(bif(ltI x3 (w64 (x4-x5)))then(bif(ltI (w64 (x4-x5)) x2)then(((callI tE Za [(.sl (gl r0)),(.int x3),(.int (w64 (x4-x5))),(.int x2)])).bind (fun r1=>(some [(.sl (gl r1))])))else(some [(.sl (gl r0))]))else(some [(.sl (gl r0))])))else(bif(ltI x3 (w64 (x4-x5)))then(bif(ltI (w64 (x4-x5)) x2)then(((callI tE Za [(.sl (gl r0)),(.int x3),(.int (w64 (x4-x5))),(.int x2)])).bind (fun r1=>(some [(.sl (gl r1))])))else(some [(.sl (gl r0))]))else(some [(.sl (gl r0))])))))else(bif(ltI x0 x5)then(bif(ltI x5 x3)then(((callI tE Za [(.sl x8),(.int x0),(.int x5),(.int x3)])).bind (fun r0=>(bif(ltI x3 (w64 (x4-x5)))then(bif(ltI (w64 (x4-x5)) x2)then(((callI tE Za [(.sl (gl r0)),(.int x3),(.int (w64 (x4-x5))),(.int x2)])).bind (fun r1=>(some [(.sl (gl r1))])))else(some [(.sl (gl r0))]))else(some [(.sl (gl r0))]))))else(bif(ltI x3 (w64 (x4-x5)))then(bif(ltI (w64 (x4-x5)) x2)then(((callI tE Za [(.sl x8),(.int x3),(.int (w64 (x4-x5))),(.int x2)])).bind (fun r0=>(some [(.sl (gl r0))])))else(some [(.sl x8)]))else(some [(.sl x8)])))else(bif(ltI x3 (w64 (x4-x5)))then(bif(ltI (w64 (x4-x5)) x2)then(((callI tE Za [(.sl x8),(.int x3),(.int (w64 (x4-x5))),(.int x2)])).bind (fun r0=>(some [(.sl (gl r0))])))else(some [(.sl x8)]))else(some [(.sl x8)]))))else(bif(ltI x0 x5)then(bif(ltI x5 x3)then(((callI tE Za [(.sl x8),(.int x0),(.int x5),(.int x3)])).bind (fun r0=>(bif(ltI x3 (w64 (x4-x5)))then(bif(ltI (w64 (x4-x5)) x2)then(((callI tE Za [(.sl (gl r0)),(.int x3),(.int (w64 (x4-x5))),(.int x2)])).bind (fun r1=>(some [(.sl (gl r1))])))else(some [(.sl (gl r0))]))else(some [(.sl (gl r0))]))))else(bif(ltI x3 (w64 (x4-x5)))then(bif(ltI (w64 (x4-x5)) x2)then(((callI tE Za [(.sl x8),(.int x3),(.int (w64 (x4-x5))),(.int x2)])).bind (fun r0=>(some [(.sl (gl r0))])))else(some [(.sl x8)]))else(some [(.sl x8)])))else(bif(ltI x3 (w64 (x4-x5)))then(bif(ltI (w64 (x4-x5)) x2)then(((callI tE Za [(.sl x8),(.int x3),(.int (w64 (x4-x5))),(.int x2)])).bind (fun r0=>(some [(.sl (gl r0))])))else(some [(.sl x8)]))else(some [(.sl x8)]))))):=(loopK_run (by kernel_rfl)).trans (by kernel_rfl)
theorem Z7Y (x0 x1 x2 x3 x4:Int) (x5:Rows):Z5U x0 x1 x2 x3 x4 x5=(bif(ltI x4 (w64 (x3-1)))then(bif(inR (w64 (x4+1)) (lenI x5))then(bif(inR x4 (lenI x5))then(bif(inR x4 (lenI x5))then(bif(inR (w64 (x4+1)) (lenI (updR x5 (tn x4) 0 [(.int (gn (at' x5 (tn (w64 (x4+1)))))),(.int (gn (tk 1 (at' x5 (tn (w64 (x4+1))))))),(.int (gn (tk 2 (at' x5 (tn (w64 (x4+1)))))))])))then(Z5U x0 x1 x2 x3 (w64 (x4+1)) (updR (updR x5 (tn x4) 0 [(.int (gn (at' x5 (tn (w64 (x4+1)))))),(.int (gn (tk 1 (at' x5 (tn (w64 (x4+1))))))),(.int (gn (tk 2 (at' x5 (tn (w64 (x4+1)))))))]) (tn (w64 (x4+1))) 0 [(.int (gn (at' x5 (tn x4)))),(.int (gn (tk 1 (at' x5 (tn x4))))),(.int (gn (tk 2 (at' x5 (tn x4)))))]))else none)else none)else none)else none)else(some [(.sl x5)])):=(loopK_run (by kernel_rfl)).trans (by kernel_rfl)
theorem Z7Z (x0 x1 x2 x3 x4:Int) (x5:Rows):Z5V x0 x1 x2 x3 x4 x5=(bif(ltI x3 x4)then(bif(inR (w64 (x4-1)) (lenI x5))then(bif(inR x4 (lenI x5))then(bif(inR x4 (lenI x5))then(bif(inR (w64 (x4-1)) (lenI (updR x5 (tn x4) 0 [(.int (gn (at' x5 (tn (w64 (x4-1)))))),(.int (gn (tk 1 (at' x5 (tn (w64 (x4-1))))))),(.int (gn (tk 2 (at' x5 (tn (w64 (x4-1)))))))])))then(Z5V x0 x1 x2 x3 (w64 (x4-1)) (updR (updR x5 (tn x4) 0 [(.int (gn (at' x5 (tn (w64 (x4-1)))))),(.int (gn (tk 1 (at' x5 (tn (w64 (x4-1))))))),(.int (gn (tk 2 (at' x5 (tn (w64 (x4-1)))))))]) (tn (w64 (x4-1))) 0 [(.int (gn (at' x5 (tn x4)))),(.int (gn (tk 1 (at' x5 (tn x4))))),(.int (gn (tk 2 (at' x5 (tn x4)))))]))else none)else none)else none)else none)else(some [(.sl x5)])):=(loopK_run (by kernel_rfl)).trans (by kernel_rfl)
theorem Z6P (a0:Rows) (a1 a2 a3:Int):callI tE Za [.sl a0,.int a1,.int a2,.int a3]=(bif(eqI (w64 (a2-a1)) 1)then(Z5S a1 a2 a3 a2 a3 a0)else(bif(eqI (w64 (a3-a2)) 1)then(Z5T a1 a2 a3 a1 a2 a0)else(bif(ltI (w64 ((Go.IntKind.wrap .u64 (w64 (a1+a3)))/(Int.pow 2 (ite ((tn 1)≤(Go.IntKind.bits .u64)) (tn 1) 64)))) a2)then(Z5M a1 a2 a3 (w64 ((Go.IntKind.wrap .u64 (w64 (a1+a3)))/(Int.pow 2 (ite ((tn 1)≤(Go.IntKind.bits .u64)) (tn 1) 64)))) (w64 ((w64 ((Go.IntKind.wrap .u64 (w64 (a1+a3)))/(Int.pow 2 (ite ((tn 1)≤(Go.IntKind.bits .u64)) (tn 1) 64))))+a2)) (w64 ((w64 ((w64 ((Go.IntKind.wrap .u64 (w64 (a1+a3)))/(Int.pow 2 (ite ((tn 1)≤(Go.IntKind.bits .u64)) (tn 1) 64))))+a2))-a3)) (w64 ((Go.IntKind.wrap .u64 (w64 (a1+a3)))/(Int.pow 2 (ite ((tn 1)≤(Go.IntKind.bits .u64)) (tn 1) 64)))) (w64 ((w64 ((w64 ((Go.IntKind.wrap .u64 (w64 (a1+a3)))/(Int.pow 2 (ite ((tn 1)≤(Go.IntKind.bits .u64)) (tn 1) 64))))+a2))-1)) a0)else(Z5M a1 a2 a3 (w64 ((Go.IntKind.wrap .u64 (w64 (a1+a3)))/(Int.pow 2 (ite ((tn 1)≤(Go.IntKind.bits .u64)) (tn 1) 64)))) (w64 ((w64 ((Go.IntKind.wrap .u64 (w64 (a1+a3)))/(Int.pow 2 (ite ((tn 1)≤(Go.IntKind.bits .u64)) (tn 1) 64))))+a2)) a1 a2 (w64 ((w64 ((w64 ((Go.IntKind.wrap .u64 (w64 (a1+a3)))/(Int.pow 2 (ite ((tn 1)≤(Go.IntKind.bits .u64)) (tn 1) 64))))+a2))-1)) a0)))):=(callI_run rfl (by kernel_rfl)).trans (by kernel_rfl)
noncomputable def Z5x (x0 x1 x2 x3:Int) (x4:Rows):Option (List Dat):=loopK tE Z6B 0 ⟨[(0,(.own (1000000,0))),(1,(.i .i64 x0)),(2,(.fn 179 [])),(6,(.i .i64 x1)),(7,(.i .i64 x2)),(8,(.i .i64 x3))],[((1000000,0),(.row 105 x4 Bool.true 0 []))]⟩
noncomputable def Z5P (x0 x1:Int) (x2:Rows):Option (List Dat):=loopK tE Z6B 1 ⟨[(0,(.own (1000000,0))),(1,(.i .i64 x0)),(2,(.fn 179 [])),(6,(.i .i64 x1))],[((1000000,0),(.row 105 x2 Bool.true 0 []))]⟩
noncomputable def Z5y (x0 x1 x2 x3:Int) (x4:Rows):Option (List Dat):=loopK tE Z6B 2 ⟨[(0,(.own (1000000,0))),(1,(.i .i64 x0)),(2,(.fn 179 [])),(6,(.i .i64 x1)),(7,(.i .i64 x2)),(8,(.i .i64 x3))],[((1000000,0),(.row 105 x4 Bool.true 0 []))]⟩
theorem Z6i (x0 x1 x2 x3:Int) (x4:Rows):Z5x x0 x1 x2 x3 x4=(bif(leI x3 x0)then(((callI tE Z5d [(.sl x4),(.int x2),(.int x3)])).bind (fun r0=>(Z5x x0 x1 x3 (w64 (x3+x1)) (gl r0))))else(((callI tE Z5d [(.sl x4),(.int x2),(.int x0)])).bind (fun r0=>(Z5P x0 x1 (gl r0))))):=(loopK_run (by kernel_rfl)).trans (by kernel_rfl)
theorem Z5o (x0 x1:Int) (x2:Rows):Z5P x0 x1 x2=(bif(ltI x1 x0)then(Z5y x0 x1 0 (w64 (2*x1)) x2)else(some [(.sl x2)])):=(loopK_run (by kernel_rfl)).trans (by kernel_rfl)
theorem Z6j (x0 x1 x2 x3:Int) (x4:Rows):Z5y x0 x1 x2 x3 x4=(bif(leI x3 x0)then(((callI tE Za [(.sl x4),(.int x2),(.int (w64 (x2+x1))),(.int x3)])).bind (fun r0=>(Z5y x0 x1 x3 (w64 (x3+(w64 (2*x1)))) (gl r0))))else(bif(ltI (w64 (x2+x1)) x0)then(((callI tE Za [(.sl x4),(.int x2),(.int (w64 (x2+x1))),(.int x0)])).bind (fun r0=>(Z5P x0 (w64 (x1*2)) (gl r0))))else(Z5P x0 (w64 (x1*2)) x4))):=(loopK_run (by kernel_rfl)).trans (by kernel_rfl)
theorem ZAx (a0:Rows) (a1:Int):callI tE Z6B [.sl a0,.int a1]=(Z5x a1 20 0 20 a0):=(callI_run rfl (by kernel_rfl)).trans (by kernel_rfl)
theorem ZAl (a0:Rows):callI tE Z78 [.sl a0]=(((callI tE Z6B [(.sl a0),(.int (lenI a0))])).bind (fun r0=>(some [(.sl (gl r0))]))):=(callI_run rfl (by kernel_rfl)).trans (by kernel_rfl)
set_option maxRecDepth 10000
theorem ZM1 (r:Rw):[Dat.int r.k,.int r.v,.int r.w]=r.e:=rfl
theorem ZLT (u v:List Rw) (a d:Rw):updR ((u++a::v).map Rw.e) u.length 0 d.e=(u++d::v).map Rw.e:=by
 rw[ZLx]
 have:setRange (Rw.e a) 0 d.e=d.e:=rfl
 rw[this]
 simp
theorem gk (r:Rw):gn r.e=r.k:=rfl
theorem gv (r:Rw):gn (tk 1 r.e)=r.v:=rfl
theorem gw (r:Rw):gn (tk 2 r.e)=r.w:=rfl
theorem ZDs {α:Type} {e:α→List Dat} {l u v:List α} {a:α} {i:Nat} (h:l=u++a::v) (hi:u.length=i):at' (l.map e) i=e a:=by rw[h,←hi];exact ZEG u v a
theorem ZBq {α:Type} {e:α→List Dat} {l:List α} {i:Nat} (hi:i<l.length):inR (i:Int) (lenI (l.map e))=true:=ZDl (by omega) (by rw[Z5L];omega)
theorem ZIR {l u v:List Rw} {a d:Rw} {i:Nat} (h:l=u++a::v) (hi:u.length=i):updR (l.map Rw.e) i 0 [.int d.k,.int d.v,.int d.w]=(u++d::v).map Rw.e:=by rw[h,←hi];exact ZLT u v a d
theorem ZJG {l p q s:List Rw} {a b:Rw} {i j:Nat} (h:l=p++a::(q++b::s)) (hi:p.length=i) (hj:p.length+1+q.length=j) (hl:l.length<4611686018427387904) {X:Option (List Dat)} {K:Rows→Option (List Dat)} (hK:K ((p++b::(q++a::s)).map Rw.e)=X):
  (bif inR (j:Int) (lenI (l.map Rw.e))then(bif inR (i:Int) (lenI (l.map Rw.e))then(bif inR (i:Int) (lenI (l.map Rw.e))then
   (bif inR (j:Int) (lenI (updR (l.map Rw.e) (tn (i:Int)) 0 [.int (gn (at' (l.map Rw.e) (tn (j:Int)))),.int (gn (tk 1 (at' (l.map Rw.e) (tn (j:Int))))),.int (gn (tk 2 (at' (l.map Rw.e) (tn (j:Int)))))]))then
    K (updR (updR (l.map Rw.e) (tn (i:Int)) 0 [.int (gn (at' (l.map Rw.e) (tn (j:Int)))),.int (gn (tk 1 (at' (l.map Rw.e) (tn (j:Int))))),.int (gn (tk 2 (at' (l.map Rw.e) (tn (j:Int)))))]) (tn (j:Int)) 0 [.int (gn (at' (l.map Rw.e) (tn (i:Int)))),.int (gn (tk 1 (at' (l.map Rw.e) (tn (i:Int))))),.int (gn (tk 2 (at' (l.map Rw.e) (tn (i:Int)))))])
    else none)else none)else none)else none)=X:=by
 have hb:at' (l.map Rw.e) j=b.e:=ZDs (u:=p++a::q) (v:=s) (by rw[h];simp) (by simp;omega)
 have ha:at' (l.map Rw.e) i=a.e:=ZDs h hi
 have hlen:l.length=p.length+1+q.length+1+s.length:=by rw[h];simp;omega
 have h1:updR (l.map Rw.e) i 0 [.int b.k,.int b.v,.int b.w]=(p++b::(q++b::s)).map Rw.e:=ZIR h hi
 have h2:updR ((p++b::(q++b::s)).map Rw.e) j 0 [.int a.k,.int a.v,.int a.w]=(p++b::(q++a::s)).map Rw.e:=by
  rw[ZIR (u:=p++b::q) (v:=s) (a:=b) (by simp) (by simp;omega)]
  simp
 simp only[Z86,hb,ha,gk,gv,gw,h1,h2]
 rw[ZBq (by omega),ZBq (by omega),ZBq (by simp;omega)]
 exact hK
theorem ZDt:∀(u2 v2:List Rw) (p u1 q v1 s:List Rw),u2.length=v2.length→u1.length=v1.length→(p++(v1++(u2++(q++(u1++(v2++s)))))).length<4611686018427387904→
  Z5i (p.length:Nat) ((p.length+v1.length+u2.length+q.length:Nat):Int) ((v1.length+u2.length:Nat):Int) (v1.length:Nat) ((p++(v1++(u2++(q++(u1++(v2++s)))))).map Rw.e)=
   some [.sl ((p++(v1++(v2++(q++(u1++(u2++s)))))).map Rw.e)]
 |[],[],p,u1,q,v1,s,_,_,_=>by
  rw[Z7F,ltF (by simp),cond_false]
 |[],_::_,_,_,_,_,_,h,_,_=>by simp at h
 |_::_,[],_,_,_,_,_,h,_,_=>by simp at h
 |c::u2,d::v2,p,u1,q,v1,s,h,h2,hl=>by
  have hl':=hl
  simp only[List.length_append,List.length_cons]at hl' h
  rw[Z7F,ltT (by simp only[List.length_cons];omega),cond_true]
  rw[show w64 ((p.length:Int)+(v1.length:Nat))=((p.length+v1.length:Nat):Int)by rw[Z5Q ⟨by omega,by omega⟩];omega]
  rw[show w64 (((p.length+v1.length+(c::u2).length+q.length:Nat):Int)+(v1.length:Nat))=((p.length+v1.length+(c::u2).length+q.length+v1.length:Nat):Int)by simp only[List.length_cons];rw[Z5Q ⟨by omega,by omega⟩];omega]
  refine ZJG (l:=p++(v1++(c::u2++(q++(u1++(d::v2++s)))))) (p:=p++v1) (q:=u2++(q++u1)) (s:=v2++s) (a:=c) (b:=d) (by simp) (by simp) (by simp;omega) hl
   (K:=fun X=>Z5i (p.length:Nat) ((p.length+v1.length+(c::u2).length+q.length:Nat):Int) ((v1.length+(c::u2).length:Nat):Int) (w64 ((v1.length:Nat)+1)) X) ?_
  have ih:=ZDt u2 v2 p (u1++[c]) q (v1++[d]) s (by omega) (by simp[h2]) (by simp only[List.length_append,List.length_cons,List.length_nil];omega)
  show Z5i _ _ _ _ _=_
  rw[Z7n (by omega)]
  have e1:(p++v1++d::(u2++(q++u1)++c::(v2++s)))=(p++(v1++[d]++(u2++(q++(u1++[c]++(v2++s)))))):=by simp
  have e2:(p++(v1++(d::v2++(q++(u1++(c::u2++s))))))=(p++(v1++[d]++(v2++(q++(u1++[c]++(u2++s)))))):=by simp
  rw[e1,e2,←ih]
  congr 1<;>simp only[List.length_append,List.length_cons,List.length_nil]<;>omega
theorem ZF3 (p u q v s:List Rw) (h:u.length=v.length) (hl:(p++(u++(q++(v++s)))).length<4611686018427387904) {a b n:Int} (ha:a=(p.length:Nat)) (hb:b=((p.length+u.length+q.length:Nat):Int)) (hn:n=(u.length:Nat)):
  callI tE Z5k [.sl ((p++(u++(q++(v++s)))).map Rw.e),.int a,.int b,.int n]=some [.sl ((p++(v++(q++(u++s)))).map Rw.e)]:=by
 rw[ZAJ,ha,hb,hn]
 have:=ZDt u v p [] q [] s h rfl (by simpa using hl)
 simp only[List.nil_append,List.length_nil,Nat.add_zero,Nat.zero_add]at this
 exact this
theorem ZJH:∀(n:Nat) (u v p s:List Rw) (a m b:Int) (m0:Nat),u.length+v.length≤n→0<u.length→0<v.length→(p++(u++(v++s))).length<1152921504606846976→m0=p.length+u.length→m=(m0:Nat)→
  Z5w a m b (u.length:Nat) (v.length:Nat) ((p++(u++(v++s))).map Rw.e)=some [.sl ((p++(v++(u++s))).map Rw.e)]:=by
 intro n
 induction n with
 |zero=>intro u v p s a m b m0 h h1 h2;omega
 |succ n ih=>
  intro u v p s a m b m0 h h1 h2 hl hm0 hm
  have hl':=hl
  simp only[List.length_append]at hl'
  rw[Z9q,hm]
  have e0:w64 ((m0:Int)-(u.length:Nat))=(p.length:Nat):=by rw[Z5Q ⟨by omega,by omega⟩];omega
  by_cases he:u.length=v.length
  ·have:=ZF3 p u [] v s he (by simp only[List.length_append,List.length_nil];omega) (a:=(p.length:Nat)) (b:=(m0:Nat)) (n:=(u.length:Nat)) rfl (by simp only[List.length_nil];omega) rfl
   simp only[List.nil_append]at this
   rw[eqT (by omega),Bool.not_true,cond_false,e0,this]
   rfl
  ·rw[eqF (by omega),Bool.not_false,cond_true]
   by_cases hlt:v.length<u.length
   ·rw[ltT (by omega),cond_true,e0]
    obtain⟨u1,u2,rfl,hu1⟩:∃u1 u2,u=u1++u2∧u1.length=v.length:=⟨u.take v.length,u.drop v.length,(List.take_append_drop _ _).symm,by simp;omega⟩
    simp only[List.length_append]at*
    have:=ZF3 p u1 u2 v s hu1 (by simp only[List.length_append];omega) (a:=(p.length:Nat)) (b:=(m0:Nat)) (n:=(v.length:Nat)) rfl (by omega) (by omega)
    rw[show p++(u1++u2++(v++s))=p++(u1++(u2++(v++s)))by simp,this]
    simp only[gA]
    rw[show w64 (((u1.length+u2.length:Nat):Int)-(v.length:Nat))=(u2.length:Nat)by rw[Z5Q ⟨by omega,by omega⟩];omega]
    have:=ih u2 u1 (p++v) s a m b m0 (by omega) (by omega) (by omega) (by simp only[List.length_append];omega) (by simp only[List.length_append];omega) hm
    rw[hm,hu1]at this
    rw[show p++(v++(u2++(u1++s)))=p++v++(u2++(u1++s))by simp,this]
    simp
   ·rw[ltF (by omega),cond_false,e0]
    obtain⟨v1,v2,rfl,hv2⟩:∃v1 v2,v=v1++v2∧v2.length=u.length:=⟨v.take (v.length-u.length),v.drop (v.length-u.length),(List.take_append_drop _ _).symm,by simp;omega⟩
    simp only[List.length_append]at*
    have e1:w64 (w64 ((m0:Int)+((v1.length+v2.length:Nat):Int))-(u.length:Nat))=((p.length+u.length+v1.length:Nat):Int):=by
     rw[Z5Q (n:=(m0:Int)+((v1.length+v2.length:Nat):Int)) ⟨by omega,by omega⟩,Z5Q ⟨by omega,by omega⟩];omega
    have:=ZF3 p u v1 v2 s hv2.symm (by simp only[List.length_append];omega) (a:=(p.length:Nat)) (b:=((p.length+u.length+v1.length:Nat):Int)) (n:=(u.length:Nat)) rfl rfl rfl
    rw[e1,show p++(u++(v1++v2++s))=p++(u++(v1++(v2++s)))by simp,this]
    simp only[gA]
    rw[show w64 (((v1.length+v2.length:Nat):Int)-(u.length:Nat))=(v1.length:Nat)by rw[Z5Q ⟨by omega,by omega⟩];omega]
    have:=ih v2 v1 p (u++s) a m b m0 (by omega) (by omega) (by omega) (by simp only[List.length_append];omega) (by omega) hm
    rw[hm,hv2]at this
    rw[this]
    simp
theorem ZLU (p u v s:List Rw) (h1:0<u.length) (h2:0<v.length) (hl:(p++(u++(v++s))).length<1152921504606846976) {a m b:Int} (ha:a=(p.length:Nat)) (hm:m=((p.length+u.length:Nat):Int)) (hb:b=((p.length+u.length+v.length:Nat):Int)):
  callI tE Z6A [.sl ((p++(u++(v++s))).map Rw.e),.int a,.int m,.int b]=some [.sl ((p++(v++(u++s))).map Rw.e)]:=by
 have hl':=hl
 simp only[List.length_append]at hl'
 rw[ZAw,show w64 (m-a)=(u.length:Nat)by rw[ha,hm,Z5Q ⟨by omega,by omega⟩];omega,show w64 (b-m)=(v.length:Nat)by rw[hb,hm,Z5Q ⟨by omega,by omega⟩];omega]
 exact ZJH _ u v p s a m b _ (Nat.le_refl _) h1 h2 hl rfl hm
theorem ZK2 {l p s:List Rw} {a b:Rw} {i j:Nat} (h:l=p++a::b::s) (hi:p.length=i) (hj:j=i+1) (hl:l.length<4611686018427387904) {X:Option (List Dat)} {K:Rows→Option (List Dat)} (hK:K ((p++b::a::s).map Rw.e)=X):
  (bif inR (i:Int) (lenI (l.map Rw.e))then(bif inR (j:Int) (lenI (l.map Rw.e))then(bif inR (j:Int) (lenI (l.map Rw.e))then
   (bif inR (i:Int) (lenI (updR (l.map Rw.e) (tn (j:Int)) 0 [.int (gn (at' (l.map Rw.e) (tn (i:Int)))),.int (gn (tk 1 (at' (l.map Rw.e) (tn (i:Int))))),.int (gn (tk 2 (at' (l.map Rw.e) (tn (i:Int)))))]))then
    K (updR (updR (l.map Rw.e) (tn (j:Int)) 0 [.int (gn (at' (l.map Rw.e) (tn (i:Int)))),.int (gn (tk 1 (at' (l.map Rw.e) (tn (i:Int))))),.int (gn (tk 2 (at' (l.map Rw.e) (tn (i:Int)))))]) (tn (i:Int)) 0 [.int (gn (at' (l.map Rw.e) (tn (j:Int)))),.int (gn (tk 1 (at' (l.map Rw.e) (tn (j:Int))))),.int (gn (tk 2 (at' (l.map Rw.e) (tn (j:Int)))))])
    else none)else none)else none)else none)=X:=by
 have hb:at' (l.map Rw.e) j=b.e:=ZDs (u:=p++[a]) (v:=s) (by rw[h];simp) (by simp;omega)
 have ha:at' (l.map Rw.e) i=a.e:=ZDs h hi
 have hlen:l.length=p.length+1+1+s.length:=by rw[h];simp;omega
 have h1:updR (l.map Rw.e) j 0 [.int a.k,.int a.v,.int a.w]=(p++a::a::s).map Rw.e:=by
  rw[ZIR (u:=p++[a]) (v:=s) (a:=b) (by rw[h];simp) (by simp;omega)]
  simp
 have h2:updR ((p++a::a::s).map Rw.e) i 0 [.int b.k,.int b.v,.int b.w]=(p++b::a::s).map Rw.e:=ZIR rfl hi
 simp only[Z86,hb,ha,gk,gv,gw,h1,h2]
 rw[ZBq (by omega),ZBq (by omega),ZBq (by simp;omega)]
 exact hK
theorem ZF4 (i j:Nat) (h:i+j<4611686018427387904):w64 ((Go.IntKind.wrap .u64 (w64 ((i:Int)+(j:Int))))/(Int.pow 2 (ite ((tn 1)≤(Go.IntKind.bits .u64)) (tn 1) 64)))=(((i+j)/2:Nat):Int):=by
 have e1:(Int.pow 2 (ite ((tn 1)≤(Go.IntKind.bits .u64)) (tn 1) 64))=2:=rfl
 have e2:Go.IntKind.wrap .u64 ((i:Int)+(j:Int))=(i:Int)+(j:Int):=by
  have e:(2:Int)^64=18446744073709551616:=by decide
  simp only[IntKind.wrap,IntKind.signed,IntKind.bits,Bool.false_and,Bool.false_eq_true,if_false,e]
  omega
 rw[e1,Z5Q (n:=(i:Int)+(j:Int)) ⟨by omega,by omega⟩,e2,Z5Q ⟨by omega,by omega⟩]
 omega
abbrev Srt (l:List Rw):Prop:=l.Pairwise Rw.le
theorem Z8p:∀{l l':List Rw},l.Perm l'→Srt l→Srt l'→l=l'
 |[],l',h,_,_=>by have:=h.length_eq;exact(List.length_eq_zero_iff.mp (by simpa using this.symm)).symm
 |a::l,[],h,_,_=>by have:=h.length_eq;simp at this
 |a::l,b::l',h,s,s'=>by
  have hab:a=b:=by
   have h1:b∈a::l:=h.mem_iff.mpr (by simp)
   have h2:a∈b::l':=h.mem_iff.mp (by simp)
   rcases List.mem_cons.mp h1 with h1|h1
   ·exact h1.symm
   ·rcases List.mem_cons.mp h2 with h2|h2
    ·exact h2
    ·exact Rw.le_antisymm ((List.pairwise_cons.mp s).1 b h1) ((List.pairwise_cons.mp s').1 a h2)
  subst hab
  rw[Z8p (h.cons_inv) (List.pairwise_cons.mp s).2 (List.pairwise_cons.mp s').2]
theorem bs {β:Type} {L:Nat→Nat→β} {K:Nat→β} {t lo hi:Nat} (hs:∀i j,lo≤i→i<j→j≤hi→L i j=if(i+j)/2<t then L ((i+j)/2+1) j else L i ((i+j)/2)) (he:∀i,lo≤i→i≤hi→L i i=K i):
  ∀(n i j:Nat),j-i≤n→lo≤i→i≤t→t≤j→j≤hi→L i j=K t:=by
 intro n
 induction n with
 |zero=>
  intro i j h h1 h2 h3 h4
  have e1:i=t:=by omega
  have e2:j=t:=by omega
  rw[e1,e2]
  exact he t (by omega) (by omega)
 |succ n ih=>
  intro i j h h1 h2 h3 h4
  by_cases hij:i<j
  ·rw[hs i j h1 hij h4]
   split
   ·exact ih _ _ (by omega) (by omega) (by omega) h3 h4
   ·exact ih _ _ (by omega) h1 h2 (by omega) (by omega)
  ·have e1:i=t:=by omega
   have e2:j=t:=by omega
   rw[e1,e2]
   exact he t (by omega) (by omega)
theorem ZEM (P:Nat→Prop) [DecidablePred P] (lo:Nat):∀(n:Nat),(∀c d,lo≤c→c≤d→d<lo+n→P d→P c)→∃t,lo≤t∧t≤lo+n∧∀c,lo≤c→c<lo+n→(P c↔c<t)
 |0,_=>⟨lo,Nat.le_refl _,Nat.le_refl _,fun c h1 h2=>by omega⟩
 |n+1,hm=>by
  obtain⟨t,h1,h2,h3⟩:=ZEM P lo n (fun c d a b e=>hm c d a b (by omega))
  by_cases hp:P (lo+n)
  ·refine⟨lo+n+1,by omega,by omega,fun c a b=>⟨fun _=>by omega,fun _=>hm c (lo+n) a (by omega) (by omega) hp⟩⟩
  ·refine⟨t,h1,by omega,fun c a b=>?_⟩
   by_cases hc:c<lo+n
   ·exact h3 c a hc
   ·have:c=lo+n:=by omega
    subst this
    exact⟨fun h=>absurd h hp,fun h=>by omega⟩
def nth (x:List Rw) (i:Nat):Rw:=x.getD i ⟨0,0,0⟩
theorem ZHy {x:List Rw} {i:Nat} (h:i<x.length):at' (x.map Rw.e) i=(nth x i).e:=by
 obtain⟨u,a,v,rfl,rfl⟩:∃u a v,x=u++a::v∧u.length=i:=⟨x.take i,x[i],x.drop (i+1),by
  have:=List.take_append_drop i x
  rw[List.drop_eq_getElem_cons h]at this
  exact this.symm,by simp;omega⟩
 rw[ZEG]
 simp[nth,List.getD_eq_getElem?_getD]
theorem Z8P (u v:List Rw) {i:Nat} (h:i<u.length):nth (u++v) i=nth u i:=by
 simp[nth,List.getD_eq_getElem?_getD,List.getElem?_append_left h]
theorem Z6e (u v:List Rw) {i:Nat} (h:u.length≤i):nth (u++v) i=nth v (i-u.length):=by
 simp[nth,List.getD_eq_getElem?_getD,List.getElem?_append_right h]
theorem ZC4 {u:List Rw} {a:Rw} (h:a∈u):∃i,i<u.length∧nth u i=a:=by
 obtain⟨i,hi⟩:=List.getElem?_of_mem h
 obtain⟨h1,h2⟩:=List.getElem?_eq_some_iff.mp hi
 exact⟨i,h1,by simp[nth,List.getD_eq_getElem?_getD,hi]⟩
theorem ZF5 {u:List Rw} (h:Srt u) {i j:Nat} (hij:i≤j) (hj:j<u.length):Rw.le (nth u i) (nth u j):=by
 by_cases e:i=j
 ·subst e;exact Rw.le_rfl _
 ·have:=List.pairwise_iff_getElem.mp h i j (by omega) hj (by omega)
  simpa[nth,List.getD_eq_getElem?_getD,hj,show i<u.length by omega]using this
theorem ZF6 {u:List Rw} {t:Nat} (h:t≤u.length):∃u1 u2,u=u1++u2∧u1.length=t:=⟨u.take t,u.drop t,(List.take_append_drop _ _).symm,by simp;omega⟩
theorem ZGp {x:List Rw} {i j:Nat} (hi:i<x.length) (hj:j<x.length) {X:Option (List Dat)} {K:List Dat→Option (List Dat)} (h:K [.int (ZIf (nth x i) (nth x j))]=X):
  (callI tE Z5R [.int (gn (at' (x.map Rw.e) (tn (i:Int)))),.int (gn (tk 1 (at' (x.map Rw.e) (tn (i:Int))))),.int (gn (tk 2 (at' (x.map Rw.e) (tn (i:Int))))),.int (gn (at' (x.map Rw.e) (tn (j:Int)))),.int (gn (tk 1 (at' (x.map Rw.e) (tn (j:Int))))),.int (gn (tk 2 (at' (x.map Rw.e) (tn (j:Int)))))]).bind K=X:=by
 simp only[Z86,ZHy hi,ZHy hj,gk,gv,gw]
 rw[ZCE]
 exact h
theorem ZCc (a b:Nat) (h:a+b<9223372036854775807):w64 ((a:Int)+(b:Int))=((a+b:Nat):Int):=by rw[Z5Q ⟨by omega,by omega⟩];omega
theorem ZBB {a b:Nat} (h:b≤a) (h2:a<9223372036854775807):w64 ((a:Int)-(b:Int))=((a-b:Nat):Int):=by rw[Z5Q ⟨by omega,by omega⟩];omega
theorem ZB4 {a:Nat} (h:1≤a) (h2:a<9223372036854775807):w64 ((a:Int)-1)=((a-1:Nat):Int):=by rw[Z5Q ⟨by omega,by omega⟩];omega
theorem ZLV (a m b:Int):∀(v:List Rw) (c:Rw) (p s:List Rw) (k t:Nat),(p++c::(v++s)).length<1152921504606846976→k=p.length→t=p.length+1+v.length→
  Z5U a m b (t:Nat) (k:Nat) ((p++c::(v++s)).map Rw.e)=some [.sl ((p++(v++c::s)).map Rw.e)]
 |[],c,p,s,k,t,hl,hk,ht=>by
  simp only[List.length_nil,List.length_append,List.length_cons]at ht hl
  rw[Z7Y,ZB4 (by omega) (by omega),ltF (by omega),cond_false]
  rfl
 |d::v,c,p,s,k,t,hl,hk,ht=>by
  have hl':=hl
  simp only[List.length_append,List.length_cons]at hl' ht
  rw[Z7Y,ZB4 (by omega) (by omega),ltT (by omega),cond_true,Z7n (by omega)]
  refine ZJG (l:=p++c::(d::v++s)) (p:=p) (q:=[]) (s:=v++s) (a:=c) (b:=d) (by simp) hk.symm (by simp;omega) (by omega) (K:=fun X=>Z5U a m b (t:Nat) ((k+1:Nat):Int) X) ?_
  have ih:=ZLV a m b v c (p++[d]) s (k+1) t (by simp only[List.length_append,List.length_cons,List.length_nil];omega) (by simp;omega) (by simp;omega)
  show Z5U _ _ _ _ _ _=_
  rw[show p++d::([]++c::(v++s))=p++[d]++c::(v++s)by simp,ih]
  simp
theorem ZKu (a m b:Int):∀(n:Nat) (u:List Rw) (c:Rw) (p s:List Rw) (k t:Nat),u.length=n→(p++(u++c::s)).length<1152921504606846976→k=p.length+u.length→t=p.length→
  Z5V a m b (t:Nat) (k:Nat) ((p++(u++c::s)).map Rw.e)=some [.sl ((p++c::(u++s)).map Rw.e)]:=by
 intro n
 induction n with
 |zero=>
  intro u c p s k t hn hl hk ht
  have:u=[]:=List.length_eq_zero_iff.mp hn
  subst this
  simp only[List.length_nil]at hk
  rw[Z7Z,ltF (by omega),cond_false]
  rfl
 |succ n ih=>
  intro u c p s k t hn hl hk ht
  obtain⟨u',d,rfl⟩:∃u' d,u=u'++[d]:=by
   obtain⟨l',x,e⟩:=snoc_of (n:=n) (l:=u) hn
   exact⟨l',x,e⟩
  simp only[List.length_append,List.length_cons,List.length_nil]at hl hk hn
  rw[Z7Z,ltT (by omega),cond_true,ZB4 (by omega) (by omega)]
  refine ZK2 (l:=p++(u'++[d]++c::s)) (p:=p++u') (s:=s) (a:=d) (b:=c) (by simp) (by simp;omega) (by omega) (by simp only[List.length_append,List.length_cons,List.length_nil];omega) (K:=fun X=>Z5V a m b (t:Nat) ((k-1:Nat):Int) X) ?_
  have:=ih u' c p (d::s) (k-1) t (by omega) (by simp only[List.length_append,List.length_cons];omega) (by omega) ht
  show Z5V _ _ _ _ _ _=_
  rw[show p++u'++c::d::s=p++(u'++c::(d::s))by simp,this]
  simp
def Mg (u v w:List Rw):Prop:=w.Perm (u++v)∧Srt w
theorem Rw.le_lt {a b c:Rw} (h:Rw.le a b) (h2:Rw.lt b c):Rw.lt a c:=by unfold Rw.le Rw.lt at*;omega
theorem ZLW (c:Rw) (v p s:List Rw) (hv:Srt v) (hl:(p++(c::(v++s))).length<1152921504606846976) {a m b:Nat} (ha:a=p.length) (hm:m=a+1) (hb:b=m+v.length):
  ∃w,Mg [c] v w∧Z5S (a:Nat) (m:Nat) (b:Nat) (m:Nat) (b:Nat) ((p++c::(v++s)).map Rw.e)=some [.sl ((p++(w++s)).map Rw.e)]:=by
 have hl':=hl
 simp only[List.length_append,List.length_cons]at hl'
 have hxv:∀k,k<v.length→nth (p++c::(v++s)) (m+k)=nth v k:=fun k hk=>by
  rw[show p++c::(v++s)=(p++[c])++(v++s)by simp,Z6e _ _ (by simp;omega),Z8P _ _ (by simp;omega)]
  congr 1
  simp;omega
 have hxa:nth (p++c::(v++s)) a=c:=by rw[Z6e _ _ (by omega),ha];simp[nth]
 have hxl:(p++c::(v++s)).length=p.length+1+v.length+s.length:=by simp;omega
 obtain⟨t,t1,t2,t3⟩:=ZEM (fun h=>Rw.lt (nth (p++c::(v++s)) h) c) m v.length (fun i j h1 h2 h3 h4=>by
  have e1:=hxv (i-m) (by omega)
  have e2:=hxv (j-m) (by omega)
  rw[show m+(i-m)=i by omega]at e1
  rw[show m+(j-m)=j by omega]at e2
  rw[e1]
  rw[e2]at h4
  exact Rw.le_lt (ZF5 hv (by omega) (by omega)) h4)
 have hb2:=bs (L:=fun i j:Nat=>Z5S (a:Nat) (m:Nat) (b:Nat) (i:Nat) (j:Nat) ((p++c::(v++s)).map Rw.e)) (K:=fun t:Nat=>Z5U (a:Nat) (m:Nat) (b:Nat) (t:Nat) (a:Nat) ((p++c::(v++s)).map Rw.e)) (t:=t) (lo:=m) (hi:=b)
  (fun i j h1 h2 h3=>by
   show Z5S _ _ _ _ _ _=_
   rw[Z7V,ltT (by omega),cond_true,ZF4 i j (by omega),ZBq (by omega),ZBq (by omega),cond_true,cond_true]
   refine ZGp (by omega) (by omega) ?_
   rw[ZLC,ZAk,hxa]
   have:=t3 ((i+j)/2) (by omega) (by omega)
   by_cases hc:(i+j)/2<t
   ·rw[if_pos hc,decide_eq_true (this.mpr hc),cond_true,Z7n (by omega)]
   ·rw[if_neg hc,decide_eq_false (fun h=>hc (this.mp h)),cond_false])
  (fun i h1 h2=>by
   show Z5S _ _ _ _ _ _=_
   rw[Z7V,ltF (Int.le_refl _),cond_false])
  (b-m) m b (Nat.le_refl _) (Nat.le_refl _) t1 (by omega) (Nat.le_refl _)
 obtain⟨v1,v2,rfl,hv1⟩:=ZF6 (u:=v) (t:=t-m) (by omega)
 refine⟨v1++c::v2,⟨List.perm_middle,?_⟩,?_⟩
 ·obtain⟨s1,s2,s3⟩:=List.pairwise_append.mp hv
  simp only[List.length_append]at*
  refine List.pairwise_append.mpr ⟨s1,List.pairwise_cons.mpr ⟨fun y hy=>?_,s2⟩,fun x hx y hy=>?_⟩
  ·obtain⟨k,hk,rfl⟩:=ZC4 hy
   have h1:=hxv (v1.length+k) (by omega)
   rw[Z6e v1 v2 (by omega),show v1.length+k-v1.length=k by omega]at h1
   have h2:=t3 (m+(v1.length+k)) (by omega) (by omega)
   rw[h1]at h2
   exact fun h=>by have:=h2.mp h;omega
  ·rcases List.mem_cons.mp hy with rfl|hy
   ·obtain⟨k,hk,rfl⟩:=ZC4 hx
    have h1:=hxv k (by omega)
    rw[Z8P v1 v2 hk]at h1
    have h2:=t3 (m+k) (by omega) (by omega)
    rw[h1]at h2
    exact Rw.lt_le (h2.mpr (by omega))
   ·exact s3 x hx y hy
 ·refine hb2.trans ?_
  show Z5U _ _ _ _ _ _=_
  simp only[List.length_append]at*
  rw[show p++c::(v1++v2++s)=p++c::(v1++(v2++s))by simp,ZLV _ _ _ v1 c p (v2++s) a t (by simp only[List.length_append,List.length_cons];omega) ha (by omega)]
  simp
theorem ZLX (c:Rw) (u p s:List Rw) (hu:Srt u) (hl:(p++(u++c::s)).length<1152921504606846976) {a m b:Nat} (ha:a=p.length) (hm:m=a+u.length) (hb:b=m+1):
  ∃w,Mg u [c] w∧Z5T (a:Nat) (m:Nat) (b:Nat) (a:Nat) (m:Nat) ((p++(u++c::s)).map Rw.e)=some [.sl ((p++(w++s)).map Rw.e)]:=by
 have hl':=hl
 simp only[List.length_append,List.length_cons]at hl'
 have hxu:∀k,k<u.length→nth (p++(u++c::s)) (a+k)=nth u k:=fun k hk=>by
  rw[Z6e _ _ (by omega),Z8P _ _ (by omega)]
  congr 1
  omega
 have hxm:nth (p++(u++c::s)) m=c:=by rw[Z6e _ _ (by omega),Z6e _ _ (by omega),show m-p.length-u.length=0 by omega];simp[nth]
 have hxl:(p++(u++c::s)).length=p.length+u.length+1+s.length:=by simp;omega
 obtain⟨t,t1,t2,t3⟩:=ZEM (fun h=>Rw.le (nth (p++(u++c::s)) h) c) a u.length (fun i j h1 h2 h3 h4=>by
  have e1:=hxu (i-a) (by omega)
  have e2:=hxu (j-a) (by omega)
  rw[show a+(i-a)=i by omega]at e1
  rw[show a+(j-a)=j by omega]at e2
  rw[e1]
  rw[e2]at h4
  exact Rw.le_tr (ZF5 hu (by omega) (by omega)) h4)
 have hb2:=bs (L:=fun i j:Nat=>Z5T (a:Nat) (m:Nat) (b:Nat) (i:Nat) (j:Nat) ((p++(u++c::s)).map Rw.e)) (K:=fun t:Nat=>Z5V (a:Nat) (m:Nat) (b:Nat) (t:Nat) (m:Nat) ((p++(u++c::s)).map Rw.e)) (t:=t) (lo:=a) (hi:=m)
  (fun i j h1 h2 h3=>by
   show Z5T _ _ _ _ _ _=_
   rw[Z7W,ltT (by omega),cond_true,ZF4 i j (by omega),ZBq (by omega),ZBq (by omega),cond_true,cond_true]
   refine ZGp (by omega) (by omega) ?_
   rw[ZLC,ZAk,hxm]
   have:=t3 ((i+j)/2) (by omega) (by omega)
   by_cases hc:(i+j)/2<t
   ·rw[if_pos hc,decide_eq_false (this.mpr hc),Bool.not_false,cond_true,Z7n (by omega)]
   ·rw[if_neg hc,decide_eq_true (Decidable.not_not.mp fun h=>hc (this.mp h)),Bool.not_true,cond_false])
  (fun i h1 h2=>by
   show Z5T _ _ _ _ _ _=_
   rw[Z7W,ltF (Int.le_refl _),cond_false])
  (m-a) a m (Nat.le_refl _) (Nat.le_refl _) t1 (by omega) (Nat.le_refl _)
 obtain⟨u1,u2,rfl,hu1⟩:=ZF6 (u:=u) (t:=t-a) (by omega)
 refine⟨u1++c::u2,⟨?_,?_⟩,?_⟩
 ·rw[List.append_assoc]
  exact List.Perm.append_left u1 (by simpa using(List.perm_append_comm (l₁:=[c]) (l₂:=u2)))
 ·obtain⟨s1,s2,s3⟩:=List.pairwise_append.mp hu
  simp only[List.length_append]at*
  refine List.pairwise_append.mpr ⟨s1,List.pairwise_cons.mpr ⟨fun y hy=>?_,s2⟩,fun x hx y hy=>?_⟩
  ·obtain⟨k,hk,rfl⟩:=ZC4 hy
   have h1:=hxu (u1.length+k) (by omega)
   rw[Z6e u1 u2 (by omega),show u1.length+k-u1.length=k by omega]at h1
   have h2:=t3 (a+(u1.length+k)) (by omega) (by omega)
   rw[h1]at h2
   exact Rw.lt_le (Decidable.not_not.mp fun h=>by have:=h2.mp h;omega)
  ·rcases List.mem_cons.mp hy with rfl|hy
   ·obtain⟨k,hk,rfl⟩:=ZC4 hx
    have h1:=hxu k (by omega)
    rw[Z8P u1 u2 hk]at h1
    have h2:=t3 (a+k) (by omega) (by omega)
    rw[h1]at h2
    exact h2.mpr (by omega)
   ·exact s3 x hx y hy
 ·refine hb2.trans ?_
  show Z5V _ _ _ _ _ _=_
  simp only[List.length_append]at*
  rw[show p++(u1++u2++c::s)=p++u1++(u2++c::s)by simp,ZKu _ _ _ u2.length u2 c (p++u1) s m t rfl (by simp only[List.length_append,List.length_cons];omega) (by simp;omega) (by simp;omega)]
  simp
noncomputable def mgR (mid e b:Int) (Z:Rows):Option (List Dat):=
 bif ltI mid e then(bif ltI e b then((callI tE Za [.sl Z,.int mid,.int e,.int b]).bind fun r=>some [.sl (gl r)])else some [.sl Z])else some [.sl Z]
noncomputable def mgL (a t mid e b:Int) (Z:Rows):Option (List Dat):=
 bif ltI a t then(bif ltI t mid then((callI tE Za [.sl Z,.int a,.int t,.int mid]).bind fun r=>mgR mid e b (gl r))else mgR mid e b Z)else mgR mid e b Z
theorem ZKv (a m b mid n t q:Int) (X:Rows) (h:t=t):Z5M a m b mid n t t q X=
  bif ltI t m then(bif ltI m (w64 (n-t))then((callI tE Z6A [.sl X,.int t,.int m,.int (w64 (n-t))]).bind fun r=>mgL a t mid (w64 (n-t)) b (gl r))else mgL a t mid (w64 (n-t)) b X)else mgL a t mid (w64 (n-t)) b X:=by
 rw[Z7X,ltF (Int.le_refl _),cond_false]
 rfl
def ZLv (n:Nat):Prop:=∀(u v p s:List Rw),u.length+v.length≤n→0<u.length→0<v.length→Srt u→Srt v→(p++(u++(v++s))).length<1152921504606846976→∃w,Mg u v w∧
 ∀(a m b:Int),a=(p.length:Nat)→m=((p.length+u.length:Nat):Int)→b=((p.length+u.length+v.length:Nat):Int)→
  callI tE Za [.sl ((p++(u++(v++s))).map Rw.e),.int a,.int m,.int b]=some [.sl ((p++(w++s)).map Rw.e)]
theorem ZJI {v:List Rw} (h:Srt v):Mg [] v ([]++v):=⟨List.Perm.refl _,by simpa using h⟩
theorem ZJJ {u:List Rw} (h:Srt u):Mg u [] (u++[]):=⟨List.Perm.refl _,by simpa using h⟩
theorem ZFo {α:Type} {l:List α} (h:¬0<l.length):l=[]:=List.length_eq_zero_iff.mp (by omega)
theorem ZLY {n:Nat} (ih:ZLv n) (u v p s:List Rw) (hn:u.length+v.length≤n) (hu:Srt u) (hv:Srt v) (hl:(p++(u++(v++s))).length<1152921504606846976) {mid e b:Int} (h1:mid=(p.length:Nat)) (h2:e=((p.length+u.length:Nat):Int)) (h3:b=((p.length+u.length+v.length:Nat):Int)):
  ∃w,Mg u v w∧mgR mid e b ((p++(u++(v++s))).map Rw.e)=some [.sl ((p++(w++s)).map Rw.e)]:=by
 unfold mgR
 by_cases c1:0<u.length
 ·by_cases c2:0<v.length
  ·obtain⟨w,w1,w2⟩:=ih u v p s hn c1 c2 hu hv hl
   refine⟨w,w1,?_⟩
   rw[ltT (by omega),cond_true,ltT (by omega),cond_true,w2 mid e b h1 h2 h3]
   rfl
  ·have:=ZFo c2
   subst this
   refine⟨_,ZJJ hu,?_⟩
   rw[ltT (by omega),cond_true,ltF (by simp at h3;omega),cond_false]
   simp
 ·have:=ZFo c1
  subst this
  refine⟨_,ZJI hv,?_⟩
  rw[ltF (by simp at h2;omega),cond_false]
  simp
theorem ZLZ {n:Nat} (ih:ZLv n) (u1 v1 u2 v2 p s:List Rw) (hn1:u1.length+v1.length≤n) (hn2:u2.length+v2.length≤n) (hu1:Srt u1) (hv1:Srt v1) (hu2:Srt u2) (hv2:Srt v2)
  (hl:(p++(u1++(v1++(u2++(v2++s))))).length<1152921504606846976) {a t mid e b:Int} (h0:a=(p.length:Nat)) (h1:t=((p.length+u1.length:Nat):Int)) (h2:mid=((p.length+u1.length+v1.length:Nat):Int)) (h3:e=((p.length+u1.length+v1.length+u2.length:Nat):Int)) (h4:b=((p.length+u1.length+v1.length+u2.length+v2.length:Nat):Int)):
  ∃w1 w2,Mg u1 v1 w1∧Mg u2 v2 w2∧mgL a t mid e b ((p++(u1++(v1++(u2++(v2++s))))).map Rw.e)=some [.sl ((p++(w1++w2++s)).map Rw.e)]:=by
 have hl':=hl
 simp only[List.length_append]at hl'
 have left:∃w1,Mg u1 v1 w1∧mgL a t mid e b ((p++(u1++(v1++(u2++(v2++s))))).map Rw.e)=mgR mid e b ((p++(w1++(u2++(v2++s)))).map Rw.e):=by
  unfold mgL
  by_cases c1:0<u1.length
  ·by_cases c2:0<v1.length
   ·obtain⟨w,w1,w2⟩:=ih u1 v1 p (u2++(v2++s)) hn1 c1 c2 hu1 hv1 hl
    refine⟨w,w1,?_⟩
    rw[ltT (by omega),cond_true,ltT (by omega),cond_true,w2 a t mid h0 h1 h2]
    rfl
   ·have:=ZFo c2
    subst this
    refine⟨_,ZJJ hu1,?_⟩
    rw[ltT (by omega),cond_true,ltF (by simp at h2;omega),cond_false]
    simp
  ·have:=ZFo c1
   subst this
   refine⟨_,ZJI hv1,?_⟩
   rw[ltF (by simp at h1;omega),cond_false]
   simp
 obtain⟨w1,m1,e1⟩:=left
 have hw1:w1.length=u1.length+v1.length:=by have:=m1.1.length_eq;simpa using this
 obtain⟨w2,m2,e2⟩:=ZLY ih u2 v2 (p++w1) s hn2 hu2 hv2 (by simp only[List.length_append];omega) (mid:=mid) (e:=e) (b:=b) (by simp only[List.length_append];omega) (by simp only[List.length_append];omega) (by simp only[List.length_append];omega)
 refine⟨w1,w2,m1,m2,?_⟩
 rw[e1,show p++(w1++(u2++(v2++s)))=p++w1++(u2++(v2++s))by simp,e2]
 simp
theorem ZKw {u1 u2 v1 v2 w1 w2:List Rw} (hu:Srt (u1++u2)) (hv:Srt (v1++v2)) (m1:Mg u1 v1 w1) (m2:Mg u2 v2 w2) (h1:∀x∈u1,∀y∈v2,Rw.le x y) (h2:∀x∈v1,∀y∈u2,Rw.le x y):Mg (u1++u2) (v1++v2) (w1++w2):=by
 refine⟨(m1.1.append m2.1).trans ?_,List.pairwise_append.mpr ⟨m1.2,m2.2,fun x hx y hy=>?_⟩⟩
 ·rw[List.append_assoc,List.append_assoc]
  refine List.Perm.append_left u1 ?_
  rw[←List.append_assoc,←List.append_assoc]
  exact List.Perm.append_right v2 List.perm_append_comm
 ·obtain⟨_,_,a3⟩:=List.pairwise_append.mp hu
  obtain⟨_,_,b3⟩:=List.pairwise_append.mp hv
  have hx:=m1.1.mem_iff.mp hx
  have hy:=m2.1.mem_iff.mp hy
  rcases List.mem_append.mp hx with hx|hx<;>rcases List.mem_append.mp hy with hy|hy
  ·exact a3 x hx y hy
  ·exact h1 x hx y hy
  ·exact h2 x hx y hy
  ·exact b3 x hx y hy
theorem ZJK {n:Nat} (ih:ZLv n) (u v p s:List Rw) (hn:u.length+v.length≤n+1) (hu0:0<u.length) (hv0:0<v.length) (hu:Srt u) (hv:Srt v) (hl:(p++(u++(v++s))).length<1152921504606846976) {a m b mid lo hi:Nat} (ha:a=p.length) (hm:m=a+u.length) (hb:b=m+v.length) (hmid:mid=(a+b)/2)
  (c1:lo≤hi) (c2:a≤lo) (c3:hi≤m) (c4:mid+m≤lo+b) (c5:hi≤mid) (c6:lo=a∨lo+b=mid+m) (c7:hi=m∨hi=mid):
  ∃w,Mg u v w∧Z5M (a:Nat) (m:Nat) (b:Nat) (mid:Nat) ((mid+m:Nat):Int) (lo:Nat) (hi:Nat) ((mid+m-1:Nat):Int) ((p++(u++(v++s))).map Rw.e)=some [.sl ((p++(w++s)).map Rw.e)]:=by
 have hl':=hl
 simp only[List.length_append]at hl'
 have hxl:(p++(u++(v++s))).length=p.length+u.length+v.length+s.length:=by simp only[List.length_append];omega
 have hxu:∀k,k<u.length→nth (p++(u++(v++s))) (a+k)=nth u k:=fun k hk=>by
  rw[Z6e p _ (by omega),Z8P u _ (by omega)]
  congr 1
  omega
 have hxv:∀k,k<v.length→nth (p++(u++(v++s))) (m+k)=nth v k:=fun k hk=>by
  rw[Z6e p _ (by omega),Z6e u _ (by omega),Z8P v _ (by omega)]
  congr 1
  omega
 have mu':∀i j,a≤i→i≤j→j<m→Rw.le (nth (p++(u++(v++s))) i) (nth (p++(u++(v++s))) j):=fun i j h1 h2 h3=>by
  have e1:=hxu (i-a) (by omega)
  have e2:=hxu (j-a) (by omega)
  rw[show a+(i-a)=i by omega]at e1
  rw[show a+(j-a)=j by omega]at e2
  rw[e1,e2]
  exact ZF5 hu (by omega) (by omega)
 have mv':∀i j,m≤i→i≤j→j<b→Rw.le (nth (p++(u++(v++s))) i) (nth (p++(u++(v++s))) j):=fun i j h1 h2 h3=>by
  have e1:=hxv (i-m) (by omega)
  have e2:=hxv (j-m) (by omega)
  rw[show m+(i-m)=i by omega]at e1
  rw[show m+(j-m)=j by omega]at e2
  rw[e1,e2]
  exact ZF5 hv (by omega) (by omega)
 obtain⟨t,t1,t2,t3⟩:=ZEM (fun c=>Rw.le (nth (p++(u++(v++s))) c) (nth (p++(u++(v++s))) (mid+m-1-c))) lo (hi-lo) (fun c d h1 h2 h3 h4=>
  Rw.le_tr (mu' c d (by omega) h2 (by omega)) (Rw.le_tr h4 (mv' _ _ (by omega) (by omega) (by omega))))
 rw[show lo+(hi-lo)=hi by omega]at t2 t3
 have hb2:=bs (L:=fun i j:Nat=>Z5M (a:Nat) (m:Nat) (b:Nat) (mid:Nat) ((mid+m:Nat):Int) (i:Nat) (j:Nat) ((mid+m-1:Nat):Int) ((p++(u++(v++s))).map Rw.e))
  (K:=fun t:Nat=>Z5M (a:Nat) (m:Nat) (b:Nat) (mid:Nat) ((mid+m:Nat):Int) (t:Nat) (t:Nat) ((mid+m-1:Nat):Int) ((p++(u++(v++s))).map Rw.e)) (t:=t) (lo:=lo) (hi:=hi)
  (fun i j h1 h2 h3=>by
   show Z5M _ _ _ _ _ _ _ _ _=_
   rw[Z7X,ltT (by omega),cond_true,ZF4 i j (by omega),ZBB (a:=mid+m-1) (b:=(i+j)/2) (by omega) (by omega),ZBq (by omega),ZBq (by omega),cond_true,cond_true]
   refine ZGp (by omega) (by omega) ?_
   rw[ZLC,ZAk]
   have:=t3 ((i+j)/2) (by omega) (by omega)
   by_cases hc:(i+j)/2<t
   ·rw[if_pos hc,decide_eq_false (this.mpr hc),Bool.not_false,cond_true,Z7n (by omega)]
   ·rw[if_neg hc,decide_eq_true (Decidable.not_not.mp fun h=>hc (this.mp h)),Bool.not_true,cond_false])
  (fun i h1 h2=>rfl) (hi-lo) lo hi (Nat.le_refl _) (Nat.le_refl _) t1 t2 (Nat.le_refl _)
 obtain⟨u1,u2,rfl,hu1⟩:=ZF6 (u:=u) (t:=t-a) (by omega)
 obtain⟨v1,v2,rfl,hv1⟩:=ZF6 (u:=v) (t:=mid-t) (by omega)
 simp only[List.length_append]at hn hu0 hv0 hl' hm hb hxu hxv
 have x1:∀x∈u1,∀y∈v2,Rw.le x y:=fun x hx y hy=>by
  obtain⟨i,hi1,rfl⟩:=ZC4 hx
  obtain⟨j,hj1,rfl⟩:=ZC4 hy
  have e1:=hxu i (by omega)
  have e2:=hxv (v1.length+j) (by omega)
  rw[Z8P u1 u2 hi1]at e1
  rw[Z6e v1 v2 (by omega),show v1.length+j-v1.length=j by omega]at e2
  rw[←e1,←e2]
  have hp:=(t3 (t-1) (by omega) (by omega)).mpr (by omega)
  exact Rw.le_tr (mu' _ (t-1) (by omega) (by omega) (by omega)) (Rw.le_tr hp (mv' _ _ (by omega) (by omega) (by omega)))
 have x2:∀x∈v1,∀y∈u2,Rw.le x y:=fun x hx y hy=>by
  obtain⟨i,hi1,rfl⟩:=ZC4 hx
  obtain⟨j,hj1,rfl⟩:=ZC4 hy
  have e1:=hxv i (by omega)
  have e2:=hxu (u1.length+j) (by omega)
  rw[Z8P v1 v2 hi1]at e1
  rw[Z6e u1 u2 (by omega),show u1.length+j-u1.length=j by omega]at e2
  rw[←e1,←e2]
  have hp:¬Rw.le _ _:=fun h=>by have:=(t3 t (by omega) (by omega)).mp h;omega
  exact Rw.le_tr (mv' _ (mid+m-1-t) (by omega) (by omega) (by omega)) (Rw.le_tr (Rw.lt_le (Decidable.not_not.mp hp)) (mu' t _ (by omega) (by omega) (by omega)))
 obtain⟨su1,su2,_⟩:=List.pairwise_append.mp hu
 obtain⟨sv1,sv2,_⟩:=List.pairwise_append.mp hv
 obtain⟨w1,w2,m1,m2,hw⟩:=ZLZ ih u1 v1 u2 v2 p s (by omega) (by omega) su1 sv1 su2 sv2 (by simp only[List.length_append];omega) (a:=(a:Nat)) (t:=(t:Nat)) (mid:=(mid:Nat)) (e:=((mid+m-t:Nat):Int)) (b:=(b:Nat)) (by omega) (by omega) (by omega) (by omega) (by omega)
 refine⟨w1++w2,ZKw hu hv m1 m2 x1 x2,hb2.trans ?_⟩
 show Z5M _ _ _ _ _ _ _ _ _=_
 rw[ZKv _ _ _ _ _ _ _ _ rfl,ZBB (by omega) (by omega)]
 by_cases d1:0<u2.length
 ·by_cases d2:0<v1.length
  ·have:=ZLU (p++u1) u2 v1 (v2++s) d1 d2 (by simp only[List.length_append];omega) (a:=(t:Nat)) (m:=(m:Nat)) (b:=((mid+m-t:Nat):Int)) (by simp only[List.length_append];omega) (by simp only[List.length_append];omega) (by simp only[List.length_append];omega)
   rw[ltT (by omega),cond_true,ltT (by omega),cond_true,show p++(u1++u2++(v1++v2++s))=p++u1++(u2++(v1++(v2++s)))by simp,this]
   simp only[gA]
   rw[show p++u1++(v1++(u2++(v2++s)))=p++(u1++(v1++(u2++(v2++s))))by simp]
   exact hw
  ·have:=ZFo d2
   subst this
   rw[ltT (by omega),cond_true,ltF (by simp at hv1;omega),cond_false]
   simpa using hw
 ·have:=ZFo d1
  subst this
  rw[ltF (by simp at hm;omega),cond_false]
  simpa using hw
theorem ZKx:∀n,ZLv n
 |0=>fun u v p s h h1=>by omega
 |n+1=>fun u v p s h hu0 hv0 hu hv hl=>by
  have ih:=ZKx n
  have hl':=hl
  simp only[List.length_append]at hl'
  by_cases c1:u.length=1
  ·obtain⟨c,rfl⟩:=List.length_eq_one_iff.mp c1
   obtain⟨w,w1,w2⟩:=ZLW c v p s hv hl (a:=p.length) (m:=p.length+1) (b:=p.length+1+v.length) rfl rfl rfl
   refine⟨w,w1,fun a m b ha hm hb=>?_⟩
   subst ha;subst hm;subst hb
   rw[Z6P,ZBB (by omega) (by omega),eqT (by simp),cond_true]
   exact w2
  ·by_cases c2:v.length=1
   ·obtain⟨c,rfl⟩:=List.length_eq_one_iff.mp c2
    obtain⟨w,w1,w2⟩:=ZLX c u p s hu hl (a:=p.length) (m:=p.length+u.length) (b:=p.length+u.length+1) rfl rfl rfl
    refine⟨w,w1,fun a m b ha hm hb=>?_⟩
    subst ha;subst hm;subst hb
    rw[Z6P,ZBB (by omega) (by omega),eqF (by omega),cond_false,ZBB (by omega) (by omega),eqT (by simp),cond_true]
    exact w2
   ·by_cases c3:(p.length+(p.length+u.length+v.length))/2<p.length+u.length
    ·obtain⟨w,w1,w2⟩:=ZJK ih u v p s h hu0 hv0 hu hv hl (a:=p.length) (m:=p.length+u.length) (b:=p.length+u.length+v.length) (mid:=(p.length+(p.length+u.length+v.length))/2) (lo:=(p.length+(p.length+u.length+v.length))/2+(p.length+u.length)-(p.length+u.length+v.length)) (hi:=(p.length+(p.length+u.length+v.length))/2) rfl rfl rfl rfl (by omega) (by omega) (by omega) (by omega) (by omega) (by omega) (.inr rfl)
     refine⟨w,w1,fun a m b ha hm hb=>?_⟩
     subst ha;subst hm;subst hb
     rw[Z6P,ZBB (by omega) (by omega),eqF (by omega),cond_false,ZBB (by omega) (by omega),eqF (by omega),cond_false,ZF4 _ _ (by omega),ltT (by omega),cond_true,ZCc _ _ (by omega),ZBB (by omega) (by omega),ZB4 (by omega) (by omega)]
     exact w2
    ·obtain⟨w,w1,w2⟩:=ZJK ih u v p s h hu0 hv0 hu hv hl (a:=p.length) (m:=p.length+u.length) (b:=p.length+u.length+v.length) (mid:=(p.length+(p.length+u.length+v.length))/2) (lo:=p.length) (hi:=p.length+u.length) rfl rfl rfl rfl (by omega) (by omega) (by omega) (by omega) (by omega) (.inl rfl) (.inl rfl)
     refine⟨w,w1,fun a m b ha hm hb=>?_⟩
     subst ha;subst hm;subst hb
     rw[Z6P,ZBB (by omega) (by omega),eqF (by omega),cond_false,ZBB (by omega) (by omega),eqF (by omega),cond_false,ZF4 _ _ (by omega),ltF (by omega),cond_false,ZCc _ _ (by omega),ZB4 (by omega) (by omega)]
     exact w2
theorem ZK3 {l p s:List Rw} {a b:Rw} {i j:Nat} (h:l=p++a::b::s) (hi:p.length=i) (hj:j=i+1) (hl:l.length<4611686018427387904) {X:Option (List Dat)} {K:Rows→Option (List Dat)} (hK:K ((p++b::a::s).map Rw.e)=X):
  (bif inR (i:Int) (lenI (updR (l.map Rw.e) (tn (j:Int)) 0 [.int (gn (at' (l.map Rw.e) (tn (i:Int)))),.int (gn (tk 1 (at' (l.map Rw.e) (tn (i:Int))))),.int (gn (tk 2 (at' (l.map Rw.e) (tn (i:Int)))))]))then
    K (updR (updR (l.map Rw.e) (tn (j:Int)) 0 [.int (gn (at' (l.map Rw.e) (tn (i:Int)))),.int (gn (tk 1 (at' (l.map Rw.e) (tn (i:Int))))),.int (gn (tk 2 (at' (l.map Rw.e) (tn (i:Int)))))]) (tn (i:Int)) 0 [.int (gn (at' (l.map Rw.e) (tn (j:Int)))),.int (gn (tk 1 (at' (l.map Rw.e) (tn (j:Int))))),.int (gn (tk 2 (at' (l.map Rw.e) (tn (j:Int)))))])
    else none)=X:=by
 have hb:at' (l.map Rw.e) j=b.e:=ZDs (u:=p++[a]) (v:=s) (by rw[h];simp) (by simp;omega)
 have ha:at' (l.map Rw.e) i=a.e:=ZDs h hi
 have hlen:l.length=p.length+1+1+s.length:=by rw[h];simp;omega
 have h1:updR (l.map Rw.e) j 0 [.int a.k,.int a.v,.int a.w]=(p++a::a::s).map Rw.e:=by
  rw[ZIR (u:=p++[a]) (v:=s) (a:=b) (by rw[h];simp) (by simp;omega)]
  simp
 have h2:updR ((p++a::a::s).map Rw.e) i 0 [.int b.k,.int b.v,.int b.w]=(p++b::a::s).map Rw.e:=ZIR rfl hi
 simp only[Z86,hb,ha,gk,gv,gw,h1,h2]
 rw[ZBq (by simp;omega)]
 exact hK
theorem ZMZ (a b i:Nat):∀(n:Nat) (w1 w2 p r:List Rw) (c:Rw) (j:Nat),w1.length=n→Srt (w1++w2)→(∀y∈w2,Rw.lt c y)→(p++(w1++c::(w2++r))).length<1152921504606846976→i<1152921504606846976→a=p.length→j=a+w1.length→
  ∃w,w.Perm (w1++c::w2)∧Srt w∧Z5Y (a:Nat) (b:Nat) (i:Nat) (j:Nat) ((p++(w1++c::(w2++r))).map Rw.e)=Z5X (a:Nat) (b:Nat) ((i+1:Nat):Int) ((p++(w++r)).map Rw.e):=by
 intro n
 induction n with
 |zero=>
  intro w1 w2 p r c j hn hs hc hl hi ha hj
  have:w1=[]:=List.length_eq_zero_iff.mp hn
  subst this
  refine⟨c::w2,List.Perm.refl _,List.pairwise_cons.mpr ⟨fun y hy=>Rw.lt_le (hc y hy),by simpa using hs⟩,?_⟩
  simp only[List.length_nil]at hj
  rw[Z69,ltF (by omega),cond_false,Z7n (by omega)]
  simp
 |succ n ih=>
  intro w1 w2 p r c j hn hs hc hl hi ha hj
  obtain⟨w1,d,rfl⟩:=snoc_of (n:=n) (l:=w1) hn
  have hl':=hl
  simp only[List.length_append,List.length_cons,List.length_nil]at hl' hn hj
  have hxl:(p++(w1++[d]++c::(w2++r))).length=p.length+w1.length+2+w2.length+r.length:=by simp;omega
  have hc0:nth (p++(w1++[d]++c::(w2++r))) j=c:=by
   rw[Z6e p _ (by omega),Z6e (w1++[d]) _ (by simp;omega)]
   have:j-p.length-(w1++[d]).length=0:=by simp;omega
   rw[this];simp[nth]
  have hd0:nth (p++(w1++[d]++c::(w2++r))) (j-1)=d:=by
   rw[Z6e p _ (by omega),Z8P (w1++[d]) _ (by simp;omega),Z6e w1 _ (by omega)]
   have:j-1-p.length-w1.length=0:=by omega
   rw[this];simp[nth]
  have i1:inR (j:Int) (lenI ((p++(w1++[d]++c::(w2++r))).map Rw.e))=true:=ZBq (by omega)
  have i2:inR ((j-1:Nat):Int) (lenI ((p++(w1++[d]++c::(w2++r))).map Rw.e))=true:=ZBq (by omega)
  by_cases hcd:Rw.lt c d
  ·have hs':Srt (w1++d::w2):=by simpa using hs
   obtain⟨s1,s2,s3⟩:=List.pairwise_append.mp hs'
   obtain⟨w,q1,q2,q3⟩:=ih w1 (d::w2) p r c (j-1) (by omega) hs' (fun y hy=>by
    rcases List.mem_cons.mp hy with rfl|hy
    ·exact hcd
    ·exact hc y hy) (by simp only[List.length_append,List.length_cons]at*;omega) hi ha (by omega)
   refine⟨w,q1.trans ?_,q2,?_⟩
   ·rw[List.append_assoc]
    exact List.Perm.append_left w1 (List.Perm.swap d c w2)
   ·rw[Z69,ltT (by omega),cond_true,ZB4 (by omega) (by omega),i1,i2,cond_true,cond_true]
    refine ZGp (i:=j) (j:=j-1) (by omega) (by omega) ?_
    rw[ZLC,ZAk,hc0,hd0,decide_eq_true hcd,cond_true,cond_true,cond_true,cond_true]
    refine ZK3 (i:=j-1) (j:=j) (l:=p++(w1++[d]++c::(w2++r))) (p:=p++w1) (s:=w2++r) (a:=d) (b:=c) (by simp) (by simp;omega) (by omega) (by omega) (K:=fun X=>Z5Y (a:Nat) (b:Nat) (i:Nat) ((j-1:Nat):Int) X) ?_
    show Z5Y _ _ _ _ _=_
    rw[←q3]
    simp
  ·refine⟨w1++[d]++c::w2,List.Perm.refl _,?_,?_⟩
   ·obtain⟨s1,s2,s3⟩:=List.pairwise_append.mp hs
    refine List.pairwise_append.mpr ⟨s1,List.pairwise_cons.mpr ⟨fun y hy=>Rw.lt_le (hc y hy),s2⟩,fun x hx y hy=>?_⟩
    rcases List.mem_cons.mp hy with rfl|hy
    ·obtain⟨t1,t2,t3⟩:=List.pairwise_append.mp s1
     rcases List.mem_append.mp hx with hx|hx
     ·exact Rw.le_tr (t3 x hx d (by simp)) hcd
     ·simp at hx;subst hx;exact hcd
    ·exact s3 x hx y hy
   ·rw[Z69,ltT (by omega),cond_true,ZB4 (by omega) (by omega),i1,i2,cond_true,cond_true]
    refine ZGp (i:=j) (j:=j-1) (by omega) (by omega) ?_
    rw[ZLC,ZAk,hc0,hd0,decide_eq_false hcd,cond_false,Z7n (by omega)]
    simp
theorem ZML (a b:Nat):∀(r w p s:List Rw) (i:Nat),Srt w→(p++(w++(r++s))).length<1152921504606846976→a=p.length→i=a+w.length→b=i+r.length→
  ∃w',w'.Perm (w++r)∧Srt w'∧Z5X (a:Nat) (b:Nat) (i:Nat) ((p++(w++(r++s))).map Rw.e)=some [.sl ((p++(w'++s)).map Rw.e)]
 |[],w,p,s,i,hs,hl,ha,hi,hb=>by
  refine⟨w,by simp,hs,?_⟩
  rw[Z68,ltF (by simp at hb;omega),cond_false]
  rfl
 |c::r,w,p,s,i,hs,hl,ha,hi,hb=>by
  have hl':=hl
  simp only[List.length_append,List.length_cons]at hl' hb
  obtain⟨w2,q1,q2,q3⟩:=ZMZ a b i w.length w [] p (r++s) c i rfl (by simpa using hs) (fun y hy=>by cases hy) (by simp only[List.length_append,List.length_cons,List.length_nil];omega) (by omega) ha hi
  have hw2:w2.length=w.length+1:=by have:=q1.length_eq;simpa using this
  obtain⟨w',r1,r2,r3⟩:=ZML a b r w2 p s (i+1) q2 (by simp only[List.length_append];omega) ha (by omega) (by omega)
  refine⟨w',r1.trans ?_,r2,?_⟩
  ·refine(List.Perm.append_right r q1).trans ?_
   simp
  ·rw[Z68,ltT (by omega),cond_true]
   simp only[List.nil_append]at q3
   rw[show p++(w++(c::r++s))=p++(w++c::(r++s))by simp,q3]
   exact r3
theorem ZHL (r p s:List Rw) (hl:(p++(r++s)).length<1152921504606846976) {a b:Nat} (ha:a=p.length) (hb:b=a+r.length):
  ∃w,w.Perm r∧Srt w∧callI tE Z5d [.sl ((p++(r++s)).map Rw.e),.int (a:Nat),.int (b:Nat)]=some [.sl ((p++(w++s)).map Rw.e)]:=by
 have hl':=hl
 simp only[List.length_append]at hl'
 cases r with
 |nil=>
  refine⟨[],List.Perm.refl _,List.Pairwise.nil,?_⟩
  rw[Z7U,Z7n (by omega),Z68,ltF (by simp at hb;omega),cond_false]
 |cons c r=>
  simp only[List.length_cons]at hb hl'
  obtain⟨w,q1,q2,q3⟩:=ZML a b r [c] p s (a+1) (List.pairwise_singleton _ _) (by simp only[List.length_append,List.length_cons,List.length_nil];omega) ha rfl (by omega)
  refine⟨w,by simpa using q1,q2,?_⟩
  rw[Z7U,Z7n (by omega)]
  exact q3
def Blk (k:Nat) (l:List Rw):Prop:=∀i j,i≤j→j<l.length→i/k=j/k→Rw.le (nth l i) (nth l j)
theorem ZKQ {l:List Rw} (h:∀i j,i≤j→j<l.length→Rw.le (nth l i) (nth l j)):Srt l:=by
 refine List.pairwise_iff_getElem.mpr fun i j hi hj hij=>?_
 have:=h i j (by omega) hj
 simpa[nth,List.getD_eq_getElem?_getD,hi,hj]using this
theorem Blk.app {k:Nat} (_hk:0<k) {p w:List Rw} (hp:Blk k p) (hd:k∣p.length) (hw:Srt w) (hl:w.length≤k):Blk k (p++w):=fun i j hij hj he=>by
 obtain⟨m,hm⟩:=hd
 simp only[List.length_append]at hj
 by_cases h1:j<p.length
 ·rw[Z8P p w (by omega),Z8P p w h1]
  exact hp i j hij h1 he
 ·have h2:p.length≤i:=by
   by_cases h3:i<p.length
   ·exfalso
    have a1:i/k<m:=by rw[Nat.div_lt_iff_lt_mul _hk,Nat.mul_comm];omega
    have a2:m≤j/k:=by rw[Nat.le_div_iff_mul_le _hk,Nat.mul_comm];omega
    omega
   ·omega
  rw[Z6e p w h2,Z6e p w (by omega)]
  exact ZF5 hw (by omega) (by omega)
theorem Blk.cut {k:Nat} (hk:0<k) {u r:List Rw} (h:Blk k (u++r)) (hu:u.length=k):Srt u∧Blk k r:=by
 refine⟨ZKQ fun i j hij hj=>?_,fun i j hij hj he=>?_⟩
 ·have:=h i j hij (by simp;omega) (by rw[Nat.div_eq_of_lt (by omega),Nat.div_eq_of_lt (by omega)])
  rwa [Z8P u r (by omega),Z8P u r hj]at this
 ·have:=h (u.length+i) (u.length+j) (by omega) (by simp;omega) (by rw[hu,Nat.add_div_left _ hk,Nat.add_div_left _ hk,he])
  rw[Z6e u r (by omega),Z6e u r (by omega)]at this
  simpa using this
theorem Blk.srt {k:Nat} {l:List Rw} (h:Blk k l) (hl:l.length≤k):Srt l:=ZKQ fun i j hij hj=>h i j hij hj (by rw[Nat.div_eq_of_lt (by omega),Nat.div_eq_of_lt (by omega)])
theorem st0 (n:Nat):∀(f:Nat) (r p:List Rw),r.length≤f→Blk 20 p→20∣p.length→n=p.length+r.length→n<1152921504606846976→
  ∃x,x.Perm (p++r)∧Blk 20 x∧Z5x (n:Nat) 20 (p.length:Nat) ((p.length+20:Nat):Int) ((p++r).map Rw.e)=Z5P (n:Nat) 20 (x.map Rw.e):=by
 intro f
 induction f with
 |zero=>
  intro r p hf hb hd hn hl
  have:r=[]:=List.length_eq_zero_iff.mp (by omega)
  subst this
  simp only[List.length_nil]at hn
  obtain⟨w,w1,w2,w3⟩:=ZHL [] p [] (by simp;omega) (a:=p.length) (b:=n) rfl (by simp;omega)
  have:w=[]:=w1.eq_nil
  subst this
  refine⟨p,by simp,hb,?_⟩
  simp only[List.append_nil]at w3⊢
  rw[Z6i,show leI ((p.length+20:Nat):Int) (n:Nat)=false from leF (by omega),cond_false,w3]
  rfl
 |succ f ih=>
  intro r p hf hb hd hn hl
  by_cases hr:20≤r.length
  ·obtain⟨r1,r2,rfl,hr1⟩:=ZF6 (u:=r) (t:=20) hr
   simp only[List.length_append]at hn hf hr
   obtain⟨w,w1,w2,w3⟩:=ZHL r1 p r2 (by simp only[List.length_append];omega) (a:=p.length) (b:=p.length+20) rfl (by omega)
   have hw:=w1.length_eq
   obtain⟨x,x1,x2,x3⟩:=ih r2 (p++w) (by omega) (hb.app (by omega) hd w2 (by omega)) (by simp only[List.length_append];omega) (by simp only[List.length_append];omega) hl
   refine⟨x,x1.trans ?_,x2,?_⟩
   ·rw[List.append_assoc]
    exact List.Perm.append_left p (List.Perm.append_right r2 w1)
   ·rw[Z6i,leT (by omega),cond_true,w3]
    simp only[gA]
    rw[show w64 (((p.length+20:Nat):Int)+20)=((p.length+20+20:Nat):Int)from ZCc _ 20 (by omega)]
    simp only[List.length_append,hw,hr1,List.append_assoc]at x3
    exact x3
  ·obtain⟨w,w1,w2,w3⟩:=ZHL r p [] (by simp;omega) (a:=p.length) (b:=n) rfl (by omega)
   have hw:=w1.length_eq
   refine⟨p++w,List.Perm.append_left p w1,hb.app (by omega) hd w2 (by omega),?_⟩
   simp only[List.append_nil]at w3
   rw[Z6i,leF (by omega),cond_false,w3]
   rfl
theorem ZF7 (k:Nat) (h:k<1152921504606846976):w64 (2*(k:Int))=((2*k:Nat):Int)∧w64 ((k:Int)*2)=((2*k:Nat):Int):=by
 constructor<;>(rw[Z5Q ⟨by omega,by omega⟩];omega)
theorem st2 (n k:Nat) (hk:0<k) (hk2:k<1152921504606846976):∀(f:Nat) (r p:List Rw),r.length≤f→Blk (2*k) p→(2*k)∣p.length→Blk k r→n=p.length+r.length→n<1152921504606846976→
  ∃x,x.Perm (p++r)∧Blk (2*k) x∧Z5y (n:Nat) (k:Nat) (p.length:Nat) ((p.length+2*k:Nat):Int) ((p++r).map Rw.e)=Z5P (n:Nat) ((2*k:Nat):Int) (x.map Rw.e):=by
 have small:∀(r p:List Rw),r.length≤k→Blk (2*k) p→(2*k)∣p.length→Blk k r→n=p.length+r.length→n<1152921504606846976→
   ∃x,x.Perm (p++r)∧Blk (2*k) x∧Z5y (n:Nat) (k:Nat) (p.length:Nat) ((p.length+2*k:Nat):Int) ((p++r).map Rw.e)=Z5P (n:Nat) ((2*k:Nat):Int) (x.map Rw.e):=fun r p h1 hb hd hr hn hl=>by
  refine⟨p++r,List.Perm.refl _,hb.app (by omega) hd (hr.srt h1) (by omega),?_⟩
  rw[Z6j,leF (by omega),cond_false,ZCc _ _ (by omega),ltF (by omega),cond_false,(ZF7 k hk2).2]
 intro f
 induction f with
 |zero=>exact fun r p hf hb hd hr hn hl=>small r p (by omega) hb hd hr hn hl
 |succ f ih=>
  intro r p hf hb hd hr hn hl
  by_cases h1:r.length≤k
  ·exact small r p h1 hb hd hr hn hl
  ·obtain⟨u,r',rfl,hu⟩:=ZF6 (u:=r) (t:=k) (by omega)
   obtain⟨su,hr'⟩:=hr.cut hk hu
   simp only[List.length_append]at hn hf h1
   by_cases h2:k≤r'.length
   ·obtain⟨v,r2,rfl,hv⟩:=ZF6 (u:=r') (t:=k) h2
    obtain⟨sv,hr2⟩:=hr'.cut hk hv
    simp only[List.length_append]at hn hf h1 h2
    obtain⟨w,w1,w2⟩:=ZKx _ u v p r2 (Nat.le_refl _) (by omega) (by omega) su sv (by simp only[List.length_append];omega)
    have hw:=w1.1.length_eq
    simp only[List.length_append]at hw
    obtain⟨x,x1,x2,x3⟩:=ih r2 (p++w) (by omega) (hb.app (by omega) hd w1.2 (by omega)) (by
     simp only[List.length_append]
     rw[hw,hu,hv,←Nat.two_mul]
     exact Nat.dvd_add hd (Nat.dvd_refl _)) hr2 (by simp only[List.length_append];omega) hl
    refine⟨x,x1.trans ?_,x2,?_⟩
    ·rw[List.append_assoc,←List.append_assoc u]
     exact List.Perm.append_left p (List.Perm.append_right r2 w1.1)
    ·rw[Z6j,leT (by omega),cond_true,ZCc _ _ (by omega),w2 _ _ _ rfl (by omega) (by omega)]
     simp only[gA]
     rw[(ZF7 k hk2).1,ZCc _ _ (by omega)]
     simp only[List.length_append,hw,hu,hv,List.append_assoc,←Nat.two_mul]at x3
     exact x3
   ·have sv:=hr'.srt (by omega)
    obtain⟨w,w1,w2⟩:=ZKx _ u r' p [] (Nat.le_refl _) (by omega) (by omega) su sv (by simp only[List.length_append,List.length_nil];omega)
    have hw:=w1.1.length_eq
    simp only[List.length_append]at hw
    refine⟨p++w,List.Perm.append_left p w1.1,hb.app (by omega) hd w1.2 (by omega),?_⟩
    have w2:=w2 (p.length:Nat) ((p.length+k:Nat):Int) (n:Nat) rfl (by omega) (by omega)
    simp only[List.append_nil]at w2
    rw[Z6j,leF (by omega),cond_false,ZCc _ _ (by omega),ltT (by omega),cond_true,w2]
    simp only[gA]
    rw[(ZF7 k hk2).2]
theorem st1 (n:Nat) (hn:n<1152921504606846976):∀(f k:Nat) (x:List Rw),0<k→n≤k+f→k<1152921504606846976→Blk k x→x.length=n→
  ∃y,y.Perm x∧Srt y∧Z5P (n:Nat) (k:Nat) (x.map Rw.e)=some [.sl (y.map Rw.e)]:=by
 intro f
 induction f with
 |zero=>
  intro k x hk hf hk2 hb hx
  refine⟨x,List.Perm.refl _,hb.srt (by omega),?_⟩
  rw[Z5o,ltF (by omega),cond_false]
 |succ f ih=>
  intro k x hk hf hk2 hb hx
  by_cases h:k<n
  ·obtain⟨y,y1,y2,y3⟩:=st2 n k hk hk2 x.length x [] (Nat.le_refl _) (fun i j hi hj=>by simp at hj) (by simp) hb (by simpa using hx.symm) hn
   have hy:=y1.length_eq
   simp only[List.nil_append,List.length_nil,Nat.zero_add]at hy y1 y3
   by_cases h3:2*k<1152921504606846976
   ·obtain⟨z,z1,z2,z3⟩:=ih (2*k) y (by omega) (by omega) h3 y2 (by omega)
    refine⟨z,z1.trans y1,z2,?_⟩
    rw[Z5o,ltT (by omega),cond_true,(ZF7 k hk2).1]
    exact y3.trans z3
   ·refine⟨y,y1,y2.srt (by omega),?_⟩
    rw[Z5o,ltT (by omega),cond_true,(ZF7 k hk2).1]
    refine y3.trans ?_
    rw[Z5o,ltF (by omega),cond_false]
  ·refine⟨x,List.Perm.refl _,hb.srt (by omega),?_⟩
   rw[Z5o,ltF (by omega),cond_false]
theorem ZIS (x:List Rw) (hx:x.length<1152921504606846976):∃y,y.Perm x∧Srt y∧callI tE Z78 [.sl (x.map Rw.e)]=some [.sl (y.map Rw.e)]:=by
 obtain⟨z,z1,z2,z3⟩:=st0 x.length x.length x [] (Nat.le_refl _) (fun i j hi hj=>by simp at hj) (by simp) (by simp) hx
 simp only[List.nil_append,List.length_nil,Nat.zero_add]at z1 z3
 obtain⟨y,y1,y2,y3⟩:=st1 x.length hx x.length 20 z (by omega) (by omega) (by omega) z2 z1.length_eq
 refine⟨y,y1.trans z1,y2,?_⟩
 rw[ZAl,Z5L,ZAx]
 have z3:Z5x (x.length:Nat) 20 0 20 (x.map Rw.e)=Z5P (x.length:Nat) 20 (z.map Rw.e):=z3
 have y3:Z5P (x.length:Nat) 20 (z.map Rw.e)=some [.sl (y.map Rw.e)]:=y3
 rw[z3,y3]
 rfl
set_option maxRecDepth 100000
theorem ZFU (a0:Rows) (a1:Int) (a2 a3 a4 a5:Rows) (a6 a7 a8 a9 a10 a11:Int):callI tE Z8w [.sl a0,.int a1,.sl a2,.sl a3,.sl a4,.sl a5,.int a6,.int a7,.int a8,.int a9,.int a10,.int a11]=(bif(leI (lenI a5) a10)then(some [(.int 0)])else(bif(ltI a11 0)then(some [(.int 0)])else(bif(inR a10 (lenI a5))then(bif(leI (lenI (gl (at' a5 (tn a10)))) a11)then(some [(.int 0)])else(bif(inR a10 (lenI a5))then(bif(inR a11 (lenI (gl (at' a5 (tn a10)))))then(((callI tE Z5O [(.int (gn (at' (gl (at' a5 (tn a10))) (tn a11)))),(.int (gn (tk 1 (at' (gl (at' a5 (tn a10))) (tn a11))))),(.int (gn (tk 2 (at' (gl (at' a5 (tn a10))) (tn a11)))))])).bind (fun r0=>(some [(.int (gn r0))])))else none)else none))else none))):=(callI_run rfl (by kernel_rfl)).trans (by kernel_rfl)
theorem ZCd (a0:Rows) (a1:Int) (a2 a3 a4 a5:Rows) (a6 a7 a8 a9:Int):callI tE Z77 [.sl a0,.int a1,.sl a2,.sl a3,.sl a4,.sl a5,.int a6,.int a7,.int a8,.int a9]=(bif(eqI a8 1)then(((callI tE Z87 [(.sl a2)])).bind (fun r0=>(((callI tE Z87 [(.sl a3)])).bind (fun r1=>(some [(.int (w64 ((gn r0)+(gn r1))))])))))else(bif(eqI a8 2)then(bif(ltI a6 0)then(some [(.int 0)])else(bif(ltI a7 0)then(some [(.int 0)])else(((callI tE Z8w [(.sl a0),(.int a1),(.sl a2),(.sl a3),(.sl a4),(.sl a5),(.int a6),(.int a7),(.int a8),(.int a9),(.int 0),(.int a6)])).bind (fun r0=>(((callI tE Z8w [(.sl a0),(.int a1),(.sl a2),(.sl a3),(.sl a4),(.sl a5),(.int a6),(.int a7),(.int a8),(.int a9),(.int 1),(.int a7)])).bind (fun r1=>(some [(.int (w64 ((gn r0)+(gn r1))))])))))))else(bif(eqI a8 3)then(((callI tE Z8w [(.sl a0),(.int a1),(.sl a2),(.sl a3),(.sl a4),(.sl a5),(.int a6),(.int a7),(.int a8),(.int a9),(.int 0),(.int a6)])).bind (fun r0=>(some [(.int (gn r0))])))else(some [(.int 0)])))):=(callI_run rfl (by kernel_rfl)).trans (by kernel_rfl)
noncomputable def Z7a (x0:Rows) (x1 x2:Int):Option (List Dat):=loopK tE Z7x 0 ⟨[(5,(.ro 169 Bool.false x0)),(6,(.i .i64 x1)),(7,(.i .i64 x2))],[]⟩
theorem Z9E (x0:Rows) (x1 x2:Int):Z7a x0 x1 x2=(bif(ltI x2 x1)then(bif(inR x2 (lenI x0))then(bif(eqI (lenI (gl (at' x0 (tn x2)))) 0)then(some [(.bool Bool.false)])else(((callI tE Z8U [(.sl (gl (at' x0 (tn x2))))])).bind (fun r0=>(bif(!(gb r0))then(some [(.bool Bool.false)])else(((callI tE Z60 [(.sl (gl (at' x0 (tn x2))))])).bind (fun r1=>(bif(!(gb r1))then(some [(.bool Bool.false)])else(Z7a x0 x1 (w64 (x2+1))))))))))else none)else(some [(.bool Bool.true)])):=(loopK_run (by kernel_rfl)).trans (by kernel_rfl)
theorem ZCe (a0:Rows):callI tE Z7x [.sl a0]=(Z7a a0 (lenI a0) 0):=(callI_run rfl (by kernel_rfl)).trans (by kernel_rfl)
theorem ZGq (a0 a1 a2:Int) (a3:Rows):callI tE ZAz [.int a0,.int a1,.int a2,.sl a3]=(bif(ltI 0 (lenI a3))then(bif(inR (w64 ((lenI a3)-1)) (lenI a3))then(((callI tE Z5R [(.int a0),(.int a1),(.int a2),(.int (gn (at' a3 (tn (w64 ((lenI a3)-1)))))),(.int (gn (tk 1 (at' a3 (tn (w64 ((lenI a3)-1))))))),(.int (gn (tk 2 (at' a3 (tn (w64 ((lenI a3)-1)))))))])).bind (fun r0=>(some [(.bool (ltI (gn r0) 0))])))else none)else(some [(.bool Bool.false)])):=(callI_run rfl (by kernel_rfl)).trans (by kernel_rfl)
noncomputable def Z6E (x0:Rows) (x1 x2:Int) (x3:Rows):Option (List Dat):=loopK tE Z8M 0 ⟨[(3,(.own (500000,0))),(7,(.ro 169 Bool.false x0)),(8,(.i .i64 x1)),(9,(.i .i64 x2))],[((500000,0),(.row 105 x3 Bool.true 0 []))]⟩
theorem Z9U (x0:Rows) (x1 x2:Int) (x3:Rows):Z6E x0 x1 x2 x3=(bif(ltI x2 x1)then(bif(inR x2 (lenI x0))then(bif(fitM ((len x3)+(len (gl (at' x0 (tn x2))))) 24)then(Z6E x0 x1 (w64 (x2+1)) (List.append x3 (gl (at' x0 (tn x2)))))else none)else none)else(some [(.sl x3)])):=(loopK_run (by kernel_rfl)).trans (by kernel_rfl)
theorem ZD0 (a0:Rows):callI tE Z8M [.sl a0]=(Z6E a0 (lenI a0) 0 []):=(callI_run rfl (by kernel_rfl)).trans (by kernel_rfl)
noncomputable def Z6k (x0:Rows) (x1 x2:Int) (x3:Rows):Option (List Dat):=loopK tE Z7h 0 ⟨[(3,(.own (500000,0))),(7,(.ro 24 Bool.false x0)),(8,(.i .i64 x1)),(9,(.i .i64 x2))],[((500000,0),(.row 105 x3 Bool.true 0 []))]⟩
theorem ZAU (x0:Rows) (x1 x2:Int) (x3:Rows):Z6k x0 x1 x2 x3=(bif(ltI x2 x1)then(bif(inR x2 (lenI x0))then(bif(fitM ((len x3)+(len (gl (at' x0 (tn x2))))) 24)then(Z6k x0 x1 (w64 (x2+1)) (List.append x3 (gl (at' x0 (tn x2)))))else none)else none)else(some [(.sl x3)])):=(loopK_run (by kernel_rfl)).trans (by kernel_rfl)
theorem ZF8 (a0:Rows):callI tE Z7h [.sl a0]=(Z6k a0 (lenI a0) 0 []):=(callI_run rfl (by kernel_rfl)).trans (by kernel_rfl)
noncomputable def Z5e (x0 x1 x2:Rows):Option (List Dat):=loopK tE Z7I 0 ⟨[(0,(.ro 105 Bool.false x0)),(1,(.ro 105 Bool.false x1)),(5,(.own (500000,0)))],[((500000,0),(.row 105 x2 Bool.true 0 []))]⟩
theorem Z71 (x0 x1 x2:Rows):Z5e x0 x1 x2=(bif(ltI 0 (lenI x0))then(bif(eqI (lenI x1) 0)then(bif(inR 0 (lenI x0))then(bif(fitM (Nat.succ (len x2)) 24)then(bif((leI 0 1)&&(leI 1 (lenI x0)))then(Z5e (List.take (tn ((lenI x0)-1)) (List.drop (tn 1) x0)) x1 (List.append x2 [[(.int (gn (at' x0 (tn 0)))),(.int (gn (tk 1 (at' x0 (tn 0))))),(.int (gn (tk 2 (at' x0 (tn 0)))))]]))else none)else none)else none)else(bif(ltI 0 (lenI x0))then(bif(inR 0 (lenI x0))then(bif(inR 0 (lenI x1))then(((callI tE Z5R [(.int (gn (at' x0 (tn 0)))),(.int (gn (tk 1 (at' x0 (tn 0))))),(.int (gn (tk 2 (at' x0 (tn 0))))),(.int (gn (at' x1 (tn 0)))),(.int (gn (tk 1 (at' x1 (tn 0))))),(.int (gn (tk 2 (at' x1 (tn 0)))))])).bind (fun r0=>(bif(leI (gn r0) 0)then(bif(inR 0 (lenI x0))then(bif(fitM (Nat.succ (len x2)) 24)then(bif((leI 0 1)&&(leI 1 (lenI x0)))then(Z5e (List.take (tn ((lenI x0)-1)) (List.drop (tn 1) x0)) x1 (List.append x2 [[(.int (gn (at' x0 (tn 0)))),(.int (gn (tk 1 (at' x0 (tn 0))))),(.int (gn (tk 2 (at' x0 (tn 0)))))]]))else none)else none)else none)else(bif(inR 0 (lenI x1))then(bif(fitM (Nat.succ (len x2)) 24)then(bif((leI 0 1)&&(leI 1 (lenI x1)))then(Z5e x0 (List.take (tn ((lenI x1)-1)) (List.drop (tn 1) x1)) (List.append x2 [[(.int (gn (at' x1 (tn 0)))),(.int (gn (tk 1 (at' x1 (tn 0))))),(.int (gn (tk 2 (at' x1 (tn 0)))))]]))else none)else none)else none))))else none)else none)else(bif(inR 0 (lenI x1))then(bif(fitM (Nat.succ (len x2)) 24)then(bif((leI 0 1)&&(leI 1 (lenI x1)))then(Z5e x0 (List.take (tn ((lenI x1)-1)) (List.drop (tn 1) x1)) (List.append x2 [[(.int (gn (at' x1 (tn 0)))),(.int (gn (tk 1 (at' x1 (tn 0))))),(.int (gn (tk 2 (at' x1 (tn 0)))))]]))else none)else none)else none)))else(bif(ltI 0 (lenI x1))then(bif(eqI (lenI x1) 0)then(bif(inR 0 (lenI x0))then(bif(fitM (Nat.succ (len x2)) 24)then(bif((leI 0 1)&&(leI 1 (lenI x0)))then(Z5e (List.take (tn ((lenI x0)-1)) (List.drop (tn 1) x0)) x1 (List.append x2 [[(.int (gn (at' x0 (tn 0)))),(.int (gn (tk 1 (at' x0 (tn 0))))),(.int (gn (tk 2 (at' x0 (tn 0)))))]]))else none)else none)else none)else(bif(ltI 0 (lenI x0))then(bif(inR 0 (lenI x0))then(bif(inR 0 (lenI x1))then(((callI tE Z5R [(.int (gn (at' x0 (tn 0)))),(.int (gn (tk 1 (at' x0 (tn 0))))),(.int (gn (tk 2 (at' x0 (tn 0))))),(.int (gn (at' x1 (tn 0)))),(.int (gn (tk 1 (at' x1 (tn 0))))),(.int (gn (tk 2 (at' x1 (tn 0)))))])).bind (fun r0=>(bif(leI (gn r0) 0)then(bif(inR 0 (lenI x0))then(bif(fitM (Nat.succ (len x2)) 24)then(bif((leI 0 1)&&(leI 1 (lenI x0)))then(Z5e (List.take (tn ((lenI x0)-1)) (List.drop (tn 1) x0)) x1 (List.append x2 [[(.int (gn (at' x0 (tn 0)))),(.int (gn (tk 1 (at' x0 (tn 0))))),(.int (gn (tk 2 (at' x0 (tn 0)))))]]))else none)else none)else none)else(bif(inR 0 (lenI x1))then(bif(fitM (Nat.succ (len x2)) 24)then(bif((leI 0 1)&&(leI 1 (lenI x1)))then(Z5e x0 (List.take (tn ((lenI x1)-1)) (List.drop (tn 1) x1)) (List.append x2 [[(.int (gn (at' x1 (tn 0)))),(.int (gn (tk 1 (at' x1 (tn 0))))),(.int (gn (tk 2 (at' x1 (tn 0)))))]]))else none)else none)else none))))else none)else none)else(bif(inR 0 (lenI x1))then(bif(fitM (Nat.succ (len x2)) 24)then(bif((leI 0 1)&&(leI 1 (lenI x1)))then(Z5e x0 (List.take (tn ((lenI x1)-1)) (List.drop (tn 1) x1)) (List.append x2 [[(.int (gn (at' x1 (tn 0)))),(.int (gn (tk 1 (at' x1 (tn 0))))),(.int (gn (tk 2 (at' x1 (tn 0)))))]]))else none)else none)else none)))else(some [(.sl x2)]))):=(loopK_run (by kernel_rfl)).trans (by kernel_rfl)
theorem ZD1 (a0 a1:Rows):callI tE Z7I [.sl a0,.sl a1]=(Z5e a0 a1 []):=(callI_run rfl (by kernel_rfl)).trans (by kernel_rfl)
noncomputable def Z6f (x0:Int) (x1:Rows) (x2 x3:Int) (x4:Rows) (x5:Int) (x6 x7 x8 x9:Rows) (x10 x11 x12 x13:Int):Option (List Dat):=loopK tE Z5t 0 ⟨[(3,(.ptr (500000,0) x0 0)),(41,(.ro 105 Bool.false x1)),(42,(.i .i64 x2)),(43,(.i .i64 x3))],[((500000,0),(.box 40 [(.ro 105 Bool.false x4),(.i .i64 x5),(.ro 105 Bool.false x6),(.ro 105 Bool.false x7),(.ro 105 Bool.false x8),(.ro 169 Bool.false x9),(.i .i64 x10),(.i .i64 x11),(.i .i64 x12),(.i .i64 x13)]))]⟩
theorem Z8z (x0:Int) (x1:Rows) (x2 x3:Int) (x4:Rows) (x5:Int) (x6 x7 x8 x9:Rows) (x10 x11 x12 x13:Int):Z6f x0 x1 x2 x3 x4 x5 x6 x7 x8 x9 x10 x11 x12 x13=(bif(ltI x3 x2)then(bif(inR x3 (lenI x1))then(((callI tE ZAz [(.int (gn (at' x1 (tn x3)))),(.int (gn (tk 1 (at' x1 (tn x3))))),(.int (gn (tk 2 (at' x1 (tn x3))))),(.sl x8)])).bind (fun r0=>(bif(gb r0)then(some [(.bool Bool.false)])else(Z6f x0 x1 x2 (w64 (x3+1)) x4 x5 x6 x7 x8 x9 x10 x11 x12 x13))))else none)else(((callI tE Z8M [(.sl x9)])).bind (fun r0=>(bif(eqI x12 1)then(bif(eqI x10 0)then(bif(eqI x11 0)then(bif(ltI 0 (lenI x8))then(((callI tE Z77 [(.sl x4),(.int x5),(.sl x6),(.sl x7),(.sl x8),(.sl x9),(.int x10),(.int x11),(.int x12),(.int x13)])).bind (fun r1=>(bif(leI (gn r1) 60)then(((callI tE Z7h [(.sl [[(.sl (gl r0))],[(.sl x8)],[(.sl x6)],[(.sl x7)]])])).bind (fun r2=>(bif((leI 0 x5)&&(leI x5 (lenI x4)))then(((callI tE Z88 [(.sl (gl r2)),(.sl (List.take (tn (x5-0)) (List.drop (tn 0) x4)))])).bind (fun r3=>(some [(.bool (gb r3))])))else none)))else(some [(.bool Bool.false)]))))else(bif(eqI (lenI x7) 0)then(((callI tE Z77 [(.sl x4),(.int x5),(.sl x6),(.sl x7),(.sl x8),(.sl x9),(.int x10),(.int x11),(.int x12),(.int x13)])).bind (fun r1=>(bif(leI (gn r1) 60)then(((callI tE Z7h [(.sl [[(.sl (gl r0))],[(.sl x8)],[(.sl x6)],[(.sl x7)]])])).bind (fun r2=>(bif((leI 0 x5)&&(leI x5 (lenI x4)))then(((callI tE Z88 [(.sl (gl r2)),(.sl (List.take (tn (x5-0)) (List.drop (tn 0) x4)))])).bind (fun r3=>(some [(.bool (gb r3))])))else none)))else(some [(.bool Bool.false)]))))else(some [(.bool Bool.false)])))else(some [(.bool Bool.false)]))else(some [(.bool Bool.false)]))else(bif(!(eqI x5 (lenI x4)))then(some [(.bool Bool.false)])else(bif(ltI 0 (lenI x6))then(some [(.bool Bool.false)])else(bif(ltI 0 (lenI x7))then(some [(.bool Bool.false)])else(((callI tE Z88 [(.sl (gl r0)),(.sl x4)])).bind (fun r1=>(bif(!(gb r1))then(some [(.bool Bool.false)])else(bif(eqI x12 2)then(bif(ltI (lenI x9) 2)then(some [(.bool Bool.false)])else(bif(inR 0 (lenI x9))then(bif(inR 1 (lenI x9))then(((callI tE Z6S [(.int x10),(.int 0),(.int (lenI (gl (at' x9 (tn 0)))))])).bind (fun r2=>(bif(!(gb r2))then(some [(.bool Bool.false)])else(((callI tE Z6S [(.int x11),(.int 0),(.int (lenI (gl (at' x9 (tn 1)))))])).bind (fun r3=>(bif(!(gb r3))then(some [(.bool Bool.false)])else(bif((leI 0 x10)&&(leI x10 (lenI (gl (at' x9 (tn 0))))))then(bif((leI 0 x11)&&(leI x11 (lenI (gl (at' x9 (tn 1))))))then(((callI tE Z7I [(.sl (List.take (tn (x10-0)) (List.drop (tn 0) (gl (at' x9 (tn 0)))))),(.sl (List.take (tn (x11-0)) (List.drop (tn 0) (gl (at' x9 (tn 1))))))])).bind (fun r4=>(((callI tE Z7q [(.sl x8),(.sl (gl r4))])).bind (fun r5=>(bif(gb r5)then(((callI tE Z7I [(.sl (gl (at' x9 (tn 0)))),(.sl (gl (at' x9 (tn 1))))])).bind (fun r6=>(bif((leI 0 (w64 (x10+x11)))&&(leI (w64 (x10+x11)) (lenI (gl r6))))then(((callI tE Z7q [(.sl x8),(.sl (List.take (tn ((w64 (x10+x11))-0)) (List.drop (tn 0) (gl r6))))])).bind (fun r7=>(some [(.bool (gb r7))])))else none)))else(some [(.bool Bool.false)]))))))else none)else none)))))))else none)else none))else(bif(eqI x12 3)then(bif(eqI (lenI x9) 1)then(((callI tE Z6S [(.int x10),(.int 0),(.int (w64 ((lenI x4)-1)))])).bind (fun r2=>(bif(gb r2)then(bif(eqI x11 0)then(some [(.bool (eqI (lenI x8) 0))])else(some [(.bool Bool.false)]))else(some [(.bool Bool.false)]))))else(some [(.bool Bool.false)]))else(bif(eqI x12 4)then(bif(leI (lenI x9) 1)then(bif(eqI x10 (lenI x4))then(bif(eqI x11 0)then(some [(.bool (eqI (lenI x8) 0))])else(some [(.bool Bool.false)]))else(some [(.bool Bool.false)]))else(some [(.bool Bool.false)]))else(some [(.bool Bool.false)])))))))))))))):=(loopK_run (by kernel_rfl)).trans (by kernel_rfl)
theorem ZCJ (a0:Rows) (a1:Int) (a2 a3 a4 a5:Rows) (a6 a7 a8 a9:Int):callI tE Z5t [.sl a0,.int a1,.sl a2,.sl a3,.sl a4,.sl a5,.int a6,.int a7,.int a8,.int a9]=(((callI tE Z60 [(.sl a0)])).bind (fun r0=>(bif(!(gb r0))then(some [(.bool Bool.false)])else(((callI tE Z6S [(.int a1),(.int 0),(.int (lenI a0))])).bind (fun r1=>(bif(!(gb r1))then(some [(.bool Bool.false)])else(((callI tE Z7x [(.sl a5)])).bind (fun r2=>(bif(!(gb r2))then(some [(.bool Bool.false)])else(bif(ltI a9 0)then(some [(.bool Bool.false)])else(((callI tE Z8U [(.sl a4)])).bind (fun r3=>(bif(!(gb r3))then(some [(.bool Bool.false)])else(Z6f 0 a2 (lenI a2) 0 a0 a1 a2 a3 a4 a5 a6 a7 a8 a9)))))))))))))):=(callI_run rfl (by kernel_rfl)).trans (by kernel_rfl)
theorem ZCK (a0:Rows) (a1:Int) (a2 a3 a4 a5:Rows) (a6 a7 a8 a9:Int):callI tE Z8r [.sl a0,.int a1,.sl a2,.sl a3,.sl a4,.sl a5,.int a6,.int a7,.int a8,.int a9]=(((callI tE Z5t [(.sl a0),(.int a1),(.sl a2),(.sl a3),(.sl a4),(.sl a5),(.int a6),(.int a7),(.int a8),(.int a9)])).bind (fun r0=>(bif(!(gb r0))then(some [(.int 0)])else(bif(eqI a8 3)then(some [(.int (w64 ((lenI a0)-a6)))])else(bif(eqI a8 4)then(some [(.int (w64 ((lenI a0)-a6)))])else(some [(.int (lenI a0))])))))):=(callI_run rfl (by kernel_rfl)).trans (by kernel_rfl)
theorem ZBP (a0:Rows) (a1:Int) (a2 a3 a4 a5:Rows) (a6 a7 a8 a9:Int) (a10:Rows):callI tE Z6s [.sl a0,.int a1,.sl a2,.sl a3,.sl a4,.sl a5,.int a6,.int a7,.int a8,.int a9,.sl a10]=(((callI tE Z5t [(.sl a0),(.int a1),(.sl a2),(.sl a3),(.sl a4),(.sl a5),(.int a6),(.int a7),(.int a8),(.int a9)])).bind (fun r0=>(bif(gb r0)then(((callI tE Z60 [(.sl a10)])).bind (fun r1=>(bif(gb r1)then(((callI tE Z8r [(.sl a0),(.int a1),(.sl a2),(.sl a3),(.sl a4),(.sl a5),(.int a6),(.int a7),(.int a8),(.int a9)])).bind (fun r2=>(bif(eqI (w64 ((lenI a10)+(gn r2))) (lenI a0))then(((callI tE Z79 [(.sl a0)])).bind (fun r3=>(bif((leI 0 (lenI a10))&&(leI (lenI a10) (lenI (gl r3))))then(((callI tE Z7q [(.sl a10),(.sl (List.take (tn ((lenI a10)-0)) (List.drop (tn 0) (gl r3))))])).bind (fun r4=>(some [(.bool (gb r4))])))else none)))else(some [(.bool Bool.false)]))))else(some [(.bool Bool.false)]))))else(some [(.bool Bool.false)])))):=(callI_run rfl (by kernel_rfl)).trans (by kernel_rfl)
noncomputable def Z6N (x0:Rows) (x1 x2:Int) (x3:Rows):Option (List Dat):=loopK tE Z8a 0 ⟨[(3,(.own (500000,0))),(7,(.ro 169 Bool.false x0)),(8,(.i .i64 x1)),(9,(.i .i64 x2))],[((500000,0),(.row 9 x3 Bool.true 0 []))]⟩
theorem Z9e (x0:Rows) (x1 x2:Int) (x3:Rows):Z6N x0 x1 x2 x3=(bif(ltI x2 x1)then(bif(inR x2 (lenI x0))then(((callI tE Z7i [(.sl (gl (at' x0 (tn x2))))])).bind (fun r0=>(bif(fitM (Nat.succ (len x3)) 16)then(Z6N x0 x1 (w64 (x2+1)) (List.append x3 [[(.str (gs r0))]]))else none)))else none)else(((callI tE Z8Z [(.sl x3),(.str (S [124]))])).bind (fun r0=>(some [(.str (gs r0))])))):=(loopK_run (by kernel_rfl)).trans (by kernel_rfl)
theorem ZDT (a0:Rows):callI tE Z8a [.sl a0]=(Z6N a0 (lenI a0) 0 []):=(callI_run rfl (by kernel_rfl)).trans (by kernel_rfl)
theorem ZCf (a0:Rows) (a1:Int) (a2 a3 a4 a5:Rows) (a6 a7 a8 a9:Int):callI tE Z7y [.sl a0,.int a1,.sl a2,.sl a3,.sl a4,.sl a5,.int a6,.int a7,.int a8,.int a9]=(((callI tE Z5t [(.sl a0),(.int a1),(.sl a2),(.sl a3),(.sl a4),(.sl a5),(.int a6),(.int a7),(.int a8),(.int a9)])).bind (fun r0=>(bif(!(gb r0))then(some [(.str (S []))])else(((callI tE Z7i [(.sl a0)])).bind (fun r1=>(((callI tE Z5Z [(.int a1)])).bind (fun r2=>(((callI tE Z7A [(.sl a2)])).bind (fun r3=>(((callI tE Z7A [(.sl a3)])).bind (fun r4=>(((callI tE Z7A [(.sl a4)])).bind (fun r5=>(((callI tE Z8a [(.sl a5)])).bind (fun r6=>(((callI tE Z5Z [(.int a6)])).bind (fun r7=>(((callI tE Z5Z [(.int a7)])).bind (fun r8=>(((callI tE Z5Z [(.int a8)])).bind (fun r9=>(((callI tE Z5Z [(.int a9)])).bind (fun r10=>(((callI tE Z8Z [(.sl [[(.str (gs r1))],[(.str (gs r2))],[(.str (gs r3))],[(.str (gs r4))],[(.str (gs r5))],[(.str (gs r6))],[(.str (gs r7))],[(.str (gs r8))],[(.str (gs r9))],[(.str (gs r10))]]),(.str (S [47]))])).bind (fun r11=>(some [(.str (gs r11))])))))))))))))))))))))))))):=(callI_run rfl (by kernel_rfl)).trans (by kernel_rfl)
theorem ZBh (a0:Rows) (a1:Int) (a2 a3 a4 a5:Rows) (a6 a7 a8 a9:Int) (a10:Rows):callI tE Z70 [.sl a0,.int a1,.sl a2,.sl a3,.sl a4,.sl a5,.int a6,.int a7,.int a8,.int a9,.sl a10]=(((callI tE Z6s [(.sl a0),(.int a1),(.sl a2),(.sl a3),(.sl a4),(.sl a5),(.int a6),(.int a7),(.int a8),(.int a9),(.sl a10)])).bind (fun r0=>(bif(!(gb r0))then(some [(.str (S []))])else(((callI tE Z7y [(.sl a0),(.int a1),(.sl a2),(.sl a3),(.sl a4),(.sl a5),(.int a6),(.int a7),(.int a8),(.int a9)])).bind (fun r1=>(bif(fitS (gs r1) (S [33]))then(((callI tE Z7i [(.sl a10)])).bind (fun r2=>(bif(fitS ((gs r1)++(S [33])) (gs r2))then(some [(.str (((gs r1)++(S [33]))++(gs r2)))])else none)))else none)))))):=(callI_run rfl (by kernel_rfl)).trans (by kernel_rfl)
theorem ZE9 (a0:Rows):callI tE Z92 [.sl a0]=(((callI tE Z60 [(.sl a0)])).bind (fun r0=>(bif(!(gb r0))then(some [(.sl []),(.int 0),(.sl []),(.sl []),(.sl []),(.sl []),(.int 0),(.int 0),(.int 0),(.int 0),(.bool Bool.false)])else(((callI tE Z74 [(.sl a0)])).bind (fun r1=>(some [(.sl (gl r1)),(.int 0),(.sl []),(.sl []),(.sl []),(.sl []),(.int 0),(.int 0),(.int 1),(.int 0),(.bool Bool.true)])))))):=(callI_run rfl (by kernel_rfl)).trans (by kernel_rfl)
noncomputable def Z6X (x0:Rows) (x1 x2:Int) (x3:Rows):Option (List Dat):=loopK tE Z93 0 ⟨[(3,(.own (500000,0))),(6,(.ro 169 Bool.false x0)),(7,(.i .i64 x1)),(8,(.i .i64 x2))],[((500000,0),(.row 169 x3 Bool.true 0 []))]⟩
theorem ZA9 (x0:Rows) (x1 x2:Int) (x3:Rows):Z6X x0 x1 x2 x3=(bif(ltI x2 x1)then(bif(inR x2 (lenI x0))then(((callI tE Z74 [(.sl (gl (at' x0 (tn x2))))])).bind (fun r0=>(bif(fitM (Nat.succ (len x3)) 24)then(Z6X x0 x1 (w64 (x2+1)) (List.append x3 [[(.sl (gl r0))]]))else none)))else none)else(some [(.sl x3)])):=(loopK_run (by kernel_rfl)).trans (by kernel_rfl)
theorem ZEA (a0:Rows):callI tE Z93 [.sl a0]=(Z6X a0 (lenI a0) 0 []):=(callI_run rfl (by kernel_rfl)).trans (by kernel_rfl)
theorem ZD2 (a0:Rows) (a1:Int) (a2 a3 a4 a5:Rows) (a6 a7 a8 a9:Int):callI tE Z9M [.sl a0,.int a1,.sl a2,.sl a3,.sl a4,.sl a5,.int a6,.int a7,.int a8,.int a9]=(((callI tE Z74 [(.sl a0)])).bind (fun r0=>(((callI tE Z74 [(.sl a2)])).bind (fun r1=>(((callI tE Z74 [(.sl a3)])).bind (fun r2=>(((callI tE Z74 [(.sl a4)])).bind (fun r3=>(((callI tE Z93 [(.sl a5)])).bind (fun r4=>(some [(.sl (gl r0)),(.int a1),(.sl (gl r1)),(.sl (gl r2)),(.sl (gl r3)),(.sl (gl r4)),(.int a6),(.int a7),(.int a8),(.int a9)]))))))))))):=(callI_run rfl (by kernel_rfl)).trans (by kernel_rfl)
theorem ZGD (a0:Rows) (a1:Int) (a2 a3 a4 a5:Rows) (a6 a7 a8 a9:Int):callI tE Z66 [.sl a0,.int a1,.sl a2,.sl a3,.sl a4,.sl a5,.int a6,.int a7,.int a8,.int a9]=(bif(fitM (Nat.succ (len a5)) 24)then(some [(.sl a0),(.int a1),(.sl a2),(.sl a3),(.sl []),(.sl (List.append a5 [[(.sl a4)]])),(.int a6),(.int a7),(.int a8),(.int a9)])else none):=(callI_run rfl (by kernel_rfl)).trans (by kernel_rfl)
noncomputable def Z6l (x0:Rows) (x1:Int) (x2:Rows) (x3 x4:Int):Option (List Dat):=loopK tE Z67 0 ⟨[(0,(.ro 105 Bool.false x0)),(3,(.i .i64 x1)),(6,(.ro 105 Bool.false x2)),(7,(.i .i64 x3)),(8,(.i .i64 x4))],[]⟩
theorem Z8J (x0:Rows) (x1:Int) (x2:Rows) (x3 x4:Int):Z6l x0 x1 x2 x3 x4=(bif(ltI x4 x3)then(bif(inR x4 (lenI x2))then(bif(ltI x1 0)then(Z6l x0 x4 x2 x3 (w64 (x4+1)))else(bif(inR x1 (lenI x0))then(((callI tE Z5R [(.int (gn (at' x2 (tn x4)))),(.int (gn (tk 1 (at' x2 (tn x4))))),(.int (gn (tk 2 (at' x2 (tn x4))))),(.int (gn (at' x0 (tn x1)))),(.int (gn (tk 1 (at' x0 (tn x1))))),(.int (gn (tk 2 (at' x0 (tn x1)))))])).bind (fun r0=>(bif(ltI (gn r0) 0)then(Z6l x0 x4 x2 x3 (w64 (x4+1)))else(Z6l x0 x1 x2 x3 (w64 (x4+1))))))else none))else none)else(some [(.int x1)])):=(loopK_run (by kernel_rfl)).trans (by kernel_rfl)
theorem ZDU (a0:Rows):callI tE Z67 [.sl a0]=(Z6l a0 (-1) a0 (lenI a0) 0):=(callI_run rfl (by kernel_rfl)).trans (by kernel_rfl)
theorem ZGr (a0:Rows) (a1:Int):callI tE Z7r [.sl a0,.int a1]=(bif((leI 0 a1)&&(leI a1 (lenI a0)))then(((callI tE Z74 [(.sl (List.take (tn (a1-0)) (List.drop (tn 0) a0)))])).bind (fun r0=>(bif((leI 0 (w64 (a1+1)))&&(leI (w64 (a1+1)) (lenI a0)))then(bif(fitM ((len (gl r0))+(len (List.take (tn ((lenI a0)-(w64 (a1+1)))) (List.drop (tn (w64 (a1+1))) a0)))) 24)then(some [(.sl (List.append (gl r0) (List.take (tn ((lenI a0)-(w64 (a1+1)))) (List.drop (tn (w64 (a1+1))) a0))))])else none)else none)))else none):=(callI_run rfl (by kernel_rfl)).trans (by kernel_rfl)
theorem ZEB (a0:Rows) (a1:Int) (a2 a3 a4 a5:Rows) (a6 a7 a8 a9:Int):callI tE Z5a [.sl a0,.int a1,.sl a2,.sl a3,.sl a4,.sl a5,.int a6,.int a7,.int a8,.int a9]=(bif(eqI (lenI a5) 0)then(some [(.sl a0),(.int a1),(.sl a2),(.sl a3),(.sl a4),(.sl a5),(.int 0),(.int 0),(.int 4),(.int a9)])else(bif(eqI (lenI a5) 1)then(some [(.sl a0),(.int a1),(.sl a2),(.sl a3),(.sl a4),(.sl a5),(.int 0),(.int 0),(.int 3),(.int a9)])else(some [(.sl a0),(.int a1),(.sl a2),(.sl a3),(.sl a4),(.sl a5),(.int 0),(.int 0),(.int 2),(.int a9)]))):=(callI_run rfl (by kernel_rfl)).trans (by kernel_rfl)
end Go.Proofs.YtceoogjanfbdcaaGreat.Vai
