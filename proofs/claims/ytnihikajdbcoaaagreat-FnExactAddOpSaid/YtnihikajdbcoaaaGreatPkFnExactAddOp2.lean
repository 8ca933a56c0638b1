/- What the law of this claim leans on; no condition. -/
import Derived.Test.YtnihikajdbcoaaaGreatPkFnExactAddOp1
namespace Go.Proofs.YtnihikajdbcoaaaGreat.Vai
open Go
set_option linter.unusedSimpArgs false
set_option linter.unusedVariables false
set_option linter.unnecessarySimpa false
set_option maxRecDepth 100000
theorem ZEU (a0 a1:Int) (a2 a3:Rows) (a4 a5:Int):callI tE ZAo [.int a0,.int a1,.sl a2,.sl a3,.int a4,.int a5]=(((callI tE ZAG [(.int a0),(.int a1),(.sl a2),(.sl a3)])).bind (fun r0=>(((callI tE Z5w [(.int a0),(.int a1),(.sl a2),(.sl a3)])).bind (fun r1=>(bif(!(gb r1))then(some [(.int (gn r0)),(.int (gn (tk 1 r0))),(.sl (gl (tk 2 r0))),(.sl (gl (tk 3 r0))),(.int 0),(.bool Bool.false)])else(((callI tE Z5l [(.int a4),(.int 8),(.int 60)])).bind (fun r2=>(bif(!(gb r2))then(some [(.int (gn r0)),(.int (gn (tk 1 r0))),(.sl (gl (tk 2 r0))),(.sl (gl (tk 3 r0))),(.int 0),(.bool Bool.false)])else(((callI tE Z5l [(.int a5),(.int 0),(.int 9)])).bind (fun r3=>(bif(!(gb r3))then(some [(.int (gn r0)),(.int (gn (tk 1 r0))),(.sl (gl (tk 2 r0))),(.sl (gl (tk 3 r0))),(.int 0),(.bool Bool.false)])else(bif(eqI a1 1000)then(some [(.int (gn r0)),(.int (gn (tk 1 r0))),(.sl (gl (tk 2 r0))),(.sl (gl (tk 3 r0))),(.int 0),(.bool Bool.false)])else(bif(eqI (lenI a3) 5)then(some [(.int (gn r0)),(.int (gn (tk 1 r0))),(.sl (gl (tk 2 r0))),(.sl (gl (tk 3 r0))),(.int 0),(.bool Bool.false)])else(((callI tE Z8g [(.int a0)])).bind (fun r4=>(bif(ltI (lenI (gl (tk 2 r0))) (gn r4))then(bif(fitM (Nat.succ (len (gl (tk 2 r0)))) 24)then(some [(.int (gn r0)),(.int (w64 (a1+1))),(.sl (List.append (gl (tk 2 r0)) [[(.int a1),(.int a4),(.int a5)]])),(.sl (gl (tk 3 r0))),(.int a1),(.bool Bool.true)])else none)else(bif(fitM (Nat.succ (len (gl (tk 3 r0)))) 24)then(some [(.int (gn r0)),(.int (w64 (a1+1))),(.sl (gl (tk 2 r0))),(.sl (List.append (gl (tk 3 r0)) [[(.int a1),(.int a4),(.int a5)]])),(.int a1),(.bool Bool.true)])else none))))))))))))))))):=(callI_run rfl (by kernel_rfl)).trans (by kernel_rfl)
theorem ZH0 (a0 a1:Int) (a2 a3 a4:Rows) (a5 a6:Int) (a7:Rows) (a8:Int) (a9 a10 a11 a12:Rows) (a13 a14 a15 a16:Int) (a17:Rows) (a18 a19:Int) (a20:Rows) (a21:Int) (a22:Bool) (a23 a24:Int):callI tE ZCa [.int a0,.int a1,.sl a2,.sl a3,.sl a4,.int a5,.int a6,.sl a7,.int a8,.sl a9,.sl a10,.sl a11,.sl a12,.int a13,.int a14,.int a15,.int a16,.sl a17,.int a18,.int a19,.sl a20,.int a21,.bool a22,.int a23,.int a24]=(((callI tE ZAH [(.int a0),(.int a1),(.sl a2),(.sl a3),(.sl a4),(.int a5)])).bind (fun r0=>(((callI tE Z7N [(.int a0),(.int a1),(.sl a2),(.sl a3),(.sl a4),(.int a5)])).bind (fun r1=>(bif(!(gb r1))then(some [(.int (gn r0)),(.int (gn (tk 1 r0))),(.sl (gl (tk 2 r0))),(.sl (gl (tk 3 r0))),(.sl (gl (tk 4 r0))),(.int (gn (tk 5 r0))),(.int 0),(.bool Bool.false)])else(((callI tE Z8f [(.int a6),(.sl a7),(.int a8),(.sl a9),(.sl a10),(.sl a11),(.sl a12),(.int a13),(.int a14),(.int a15),(.int a16),(.sl a17),(.int a18),(.int a19),(.sl a20),(.int a21),(.bool a22)])).bind (fun r2=>(bif(!(gb r2))then(some [(.int (gn r0)),(.int (gn (tk 1 r0))),(.sl (gl (tk 2 r0))),(.sl (gl (tk 3 r0))),(.sl (gl (tk 4 r0))),(.int (gn (tk 5 r0))),(.int 0),(.bool Bool.false)])else(((callI tE Z8D [(.int a6),(.sl a7),(.int a8),(.sl a9),(.sl a10),(.sl a11),(.sl a12),(.int a13),(.int a14),(.int a15),(.int a16),(.sl a17),(.int a18),(.int a19),(.sl a20),(.int a21),(.bool a22)])).bind (fun r3=>(bif(gb r3)then(some [(.int (gn r0)),(.int (gn (tk 1 r0))),(.sl (gl (tk 2 r0))),(.sl (gl (tk 3 r0))),(.sl (gl (tk 4 r0))),(.int (gn (tk 5 r0))),(.int 0),(.bool Bool.false)])else(bif(eqI (lenI a4) 8)then(some [(.int (gn r0)),(.int (gn (tk 1 r0))),(.sl (gl (tk 2 r0))),(.sl (gl (tk 3 r0))),(.sl (gl (tk 4 r0))),(.int (gn (tk 5 r0))),(.int 0),(.bool Bool.false)])else(((callI tE ZAo [(.int a0),(.int a1),(.sl a2),(.sl a3),(.int a23),(.int a24)])).bind (fun r4=>(bif(!(gb (tk 5 r4)))then(some [(.int (gn r0)),(.int (gn (tk 1 r0))),(.sl (gl (tk 2 r0))),(.sl (gl (tk 3 r0))),(.sl (gl (tk 4 r0))),(.int (gn (tk 5 r0))),(.int 0),(.bool Bool.false)])else(((callI tE ZBk [(.int a6),(.sl a7),(.int a8),(.sl a9),(.sl a10),(.sl a11),(.sl a12),(.int a13),(.int a14),(.int a15),(.int a16),(.sl a17),(.int a18),(.int a19),(.sl a20),(.int a21),(.bool a22)])).bind (fun r5=>(bif(fitM (Nat.succ (len (gl (tk 4 r0)))) 336)then(some [(.int (gn r4)),(.int (gn (tk 1 r4))),(.sl (gl (tk 2 r4))),(.sl (gl (tk 3 r4))),(.sl (List.append (gl (tk 4 r0)) [[(.int (gn (tk 4 r4))),(.int (gn r5)),(.sl (gl (tk 1 r5))),(.int (gn (tk 2 r5))),(.sl (gl (tk 3 r5))),(.sl (gl (tk 4 r5))),(.sl (gl (tk 5 r5))),(.sl (gl (tk 6 r5))),(.int (gn (tk 7 r5))),(.int (gn (tk 8 r5))),(.int (gn (tk 9 r5))),(.int (gn (tk 10 r5))),(.sl (gl (tk 11 r5))),(.int (gn (tk 12 r5))),(.int (gn (tk 13 r5))),(.sl (gl (tk 14 r5))),(.int (gn (tk 15 r5))),(.bool (gb (tk 16 r5))),(.sl []),(.sl []),(.sl []),(.bool Bool.false)]])),(.int (gn (tk 5 r0))),(.int (gn (tk 4 r4))),(.bool Bool.true)])else none)))))))))))))))))):=(callI_run rfl (by kernel_rfl)).trans (by kernel_rfl)
theorem ZFI (a0 a1 a2:Int):callI tE ZBG [.int a0,.int a1,.int a2]=(some [(.int a0),(.int a1),(.int a2)]):=(callI_run rfl (by kernel_rfl)).trans (by kernel_rfl)
noncomputable def Z89 (x0:Rows) (x1:Int) (x2:Rows):Option (List Dat):=loopK tE Z7m 0 ⟨[(0,(.ro 355 Bool.false x0)),(3,(.own (500000,0))),(4,(.i .i64 x1))],[((500000,0),(.row 177 x2 Bool.true 0 []))]⟩
theorem ZAk (x0:Rows) (x1:Int) (x2:Rows):Z89 x0 x1 x2=(bif(ltI x1 (lenI x0))then(bif(inR x1 (lenI x0))then(((callI tE ZBG [(.int (gn (at' x0 (tn x1)))),(.int (gn (tk 1 (at' x0 (tn x1))))),(.int (gn (tk 2 (at' x0 (tn x1)))))])).bind (fun r0=>(bif(inR x1 (lenI x2))then(Z89 x0 (w64 (x1+1)) (updR x2 (tn x1) 0 [(.int (gn r0)),(.int (gn (tk 1 r0))),(.int (gn (tk 2 r0)))]))else none)))else none)else(some [(.sl x2)])):=(loopK_run (by kernel_rfl)).trans (by kernel_rfl)
theorem ZEV (a0:Rows):callI tE Z7m [.sl a0]=(bif((leI 0 (lenI a0))&&((eqI (lenI a0) (lenI a0))&&(fitM (tn (lenI a0)) 24)))then(Z89 a0 0 (List.replicate (tn (lenI a0)) [(.int 0),(.int 0),(.int 0)]))else none):=(callI_run rfl (by kernel_rfl)).trans (by kernel_rfl)
theorem ZFJ (a0 a1:Int) (a2 a3:Rows):callI tE ZBH [.int a0,.int a1,.sl a2,.sl a3]=(((callI tE Z7m [(.sl a2)])).bind (fun r0=>(((callI tE Z7m [(.sl a3)])).bind (fun r1=>(some [(.int a0),(.int a1),(.sl (gl r0)),(.sl (gl r1))]))))):=(callI_run rfl (by kernel_rfl)).trans (by kernel_rfl)
theorem ZGW (a0 a1:Int) (a2:Rows) (a3:Int) (a4 a5 a6 a7:Rows) (a8 a9 a10 a11:Int) (a12:Rows) (a13 a14:Int) (a15:Rows) (a16:Int) (a17:Bool) (a18 a19 a20:Rows) (a21:Bool):callI tE ZCK [.int a0,.int a1,.sl a2,.int a3,.sl a4,.sl a5,.sl a6,.sl a7,.int a8,.int a9,.int a10,.int a11,.sl a12,.int a13,.int a14,.sl a15,.int a16,.bool a17,.sl a18,.sl a19,.sl a20,.bool a21]=(((callI tE Z9K [(.int a1),(.sl a2),(.int a3),(.sl a4),(.sl a5),(.sl a6),(.sl a7),(.int a8),(.int a9),(.int a10),(.int a11),(.sl a12),(.int a13),(.int a14),(.sl a15),(.int a16),(.bool a17)])).bind (fun r0=>(((callI tE ZBK [(.sl a18),(.sl a19),(.sl a20)])).bind (fun r1=>(some [(.int a0),(.int (gn r0)),(.sl (gl (tk 1 r0))),(.int (gn (tk 2 r0))),(.sl (gl (tk 3 r0))),(.sl (gl (tk 4 r0))),(.sl (gl (tk 5 r0))),(.sl (gl (tk 6 r0))),(.int (gn (tk 7 r0))),(.int (gn (tk 8 r0))),(.int (gn (tk 9 r0))),(.int (gn (tk 10 r0))),(.sl (gl (tk 11 r0))),(.int (gn (tk 12 r0))),(.int (gn (tk 13 r0))),(.sl (gl (tk 14 r0))),(.int (gn (tk 15 r0))),(.bool (gb (tk 16 r0))),(.sl (gl r1)),(.sl (gl (tk 1 r1))),(.sl (gl (tk 2 r1))),(.bool a21)]))))):=(callI_run rfl (by kernel_rfl)).trans (by kernel_rfl)
noncomputable def Z9G (x0:Rows) (x1:Int) (x2:Rows):Option (List Dat):=loopK tE ZAL 0 ⟨[(0,(.ro 253 Bool.false x0)),(3,(.own (500000,0))),(4,(.i .i64 x1))],[((500000,0),(.row 91 x2 Bool.true 0 []))]⟩
theorem ZBg (x0:Rows) (x1:Int) (x2:Rows):Z9G x0 x1 x2=(bif(ltI x1 (lenI x0))then(bif(inR x1 (lenI x0))then(((callI tE ZCK [(.int (gn (at' x0 (tn x1)))),(.int (gn (tk 1 (at' x0 (tn x1))))),(.sl (gl (tk 2 (at' x0 (tn x1))))),(.int (gn (tk 3 (at' x0 (tn x1))))),(.sl (gl (tk 4 (at' x0 (tn x1))))),(.sl (gl (tk 5 (at' x0 (tn x1))))),(.sl (gl (tk 6 (at' x0 (tn x1))))),(.sl (gl (tk 7 (at' x0 (tn x1))))),(.int (gn (tk 8 (at' x0 (tn x1))))),(.int (gn (tk 9 (at' x0 (tn x1))))),(.int (gn (tk 10 (at' x0 (tn x1))))),(.int (gn (tk 11 (at' x0 (tn x1))))),(.sl (gl (tk 12 (at' x0 (tn x1))))),(.int (gn (tk 13 (at' x0 (tn x1))))),(.int (gn (tk 14 (at' x0 (tn x1))))),(.sl (gl (tk 15 (at' x0 (tn x1))))),(.int (gn (tk 16 (at' x0 (tn x1))))),(.bool (gb (tk 17 (at' x0 (tn x1))))),(.sl (gl (tk 18 (at' x0 (tn x1))))),(.sl (gl (tk 19 (at' x0 (tn x1))))),(.sl (gl (tk 20 (at' x0 (tn x1))))),(.bool (gb (tk 21 (at' x0 (tn x1)))))])).bind (fun r0=>(bif(inR x1 (lenI x2))then(Z9G x0 (w64 (x1+1)) (updR x2 (tn x1) 0 [(.int (gn r0)),(.int (gn (tk 1 r0))),(.sl (gl (tk 2 r0))),(.int (gn (tk 3 r0))),(.sl (gl (tk 4 r0))),(.sl (gl (tk 5 r0))),(.sl (gl (tk 6 r0))),(.sl (gl (tk 7 r0))),(.int (gn (tk 8 r0))),(.int (gn (tk 9 r0))),(.int (gn (tk 10 r0))),(.int (gn (tk 11 r0))),(.sl (gl (tk 12 r0))),(.int (gn (tk 13 r0))),(.int (gn (tk 14 r0))),(.sl (gl (tk 15 r0))),(.int (gn (tk 16 r0))),(.bool (gb (tk 17 r0))),(.sl (gl (tk 18 r0))),(.sl (gl (tk 19 r0))),(.sl (gl (tk 20 r0))),(.bool (gb (tk 21 r0)))]))else none)))else none)else(some [(.sl x2)])):=(loopK_run (by kernel_rfl)).trans (by kernel_rfl)
theorem ZFz (a0:Rows):callI tE ZAL [.sl a0]=(bif((leI 0 (lenI a0))&&((eqI (lenI a0) (lenI a0))&&(fitM (tn (lenI a0)) 336)))then(Z9G a0 0 (List.replicate (tn (lenI a0)) [(.int 0),(.int 0),(.sl []),(.int 0),(.sl []),(.sl []),(.sl []),(.sl []),(.int 0),(.int 0),(.int 0),(.int 0),(.sl []),(.int 0),(.int 0),(.sl []),(.int 0),(.bool Bool.false),(.sl []),(.sl []),(.sl []),(.bool Bool.false)]))else none):=(callI_run rfl (by kernel_rfl)).trans (by kernel_rfl)
theorem ZFK (a0 a1:Int) (a2 a3 a4:Rows) (a5:Int):callI tE Z7V [.int a0,.int a1,.sl a2,.sl a3,.sl a4,.int a5]=(((callI tE ZBH [(.int a0),(.int a1),(.sl a2),(.sl a3)])).bind (fun r0=>(((callI tE ZAL [(.sl a4)])).bind (fun r1=>(some [(.int (gn r0)),(.int (gn (tk 1 r0))),(.sl (gl (tk 2 r0))),(.sl (gl (tk 3 r0))),(.sl (gl r1)),(.int a5)]))))):=(callI_run rfl (by kernel_rfl)).trans (by kernel_rfl)
theorem ZG0 (a0:Int) (a1:Rows) (a2:Int) (a3 a4 a5 a6:Rows) (a7 a8 a9 a10:Int) (a11:Rows) (a12 a13:Int) (a14:Rows) (a15:Int) (a16:Bool):callI tE Z8i [.int a0,.sl a1,.int a2,.sl a3,.sl a4,.sl a5,.sl a6,.int a7,.int a8,.int a9,.int a10,.sl a11,.int a12,.int a13,.sl a14,.int a15,.bool a16]=(bif(eqI a0 1)then(((callI tE Z7O [(.sl a1),(.int a2),(.sl a3),(.sl a4),(.sl a5),(.sl a6),(.int a7),(.int a8),(.int a9),(.int a10)])).bind (fun r0=>(some [(.bool (gb r0))])))else(bif(eqI a0 2)then(((callI tE Z7P [(.sl a11),(.int a12),(.int a13)])).bind (fun r0=>(some [(.bool (gb r0))])))else(bif(eqI a0 3)then(((callI tE Z6h [(.sl a14),(.int a15),(.bool a16)])).bind (fun r0=>(some [(.bool (gb r0))])))else(some [(.bool Bool.false)])))):=(callI_run rfl (by kernel_rfl)).trans (by kernel_rfl)
theorem ZFL (a0:Rows) (a1:Int):callI tE Z8H [.sl a0,.int a1]=(((callI tE Z7I [(.sl a0),(.int a1)])).bind (fun r0=>(some [(.int (gn r0))]))):=(callI_run rfl (by kernel_rfl)).trans (by kernel_rfl)
theorem ZHO (a0 a1:Int) (a2 a3:Rows):callI tE ZA2 [.int a0,.int a1,.sl a2,.sl a3]=(some [(.int (bif(ltI (w64 (Int.tdiv a0 8)) 5)then(w64 (Int.tdiv a0 8))else 5))]):=(callI_run rfl (by kernel_rfl)).trans (by kernel_rfl)
theorem ZG1 (a0:Int):callI tE Z8j [.int a0]=(((callI tE Z5f [(.int a0),(.int 8),(.int 60)])).bind (fun r0=>(some [(.bool (gb r0))]))):=(callI_run rfl (by kernel_rfl)).trans (by kernel_rfl)
noncomputable def Z6e (x0:Rows) (x1:Int) (x2:Rows) (x3 x4:Int):Option (List Dat):=loopK tE Z6u 0 ⟨[(0,(.ro 177 Bool.false x0)),(1,(.i .i64 x1)),(7,(.ro 177 Bool.false x2)),(8,(.i .i64 x3)),(9,(.i .i64 x4))],[]⟩
theorem Z9W (x0:Rows) (x1:Int) (x2:Rows) (x3 x4:Int):Z6e x0 x1 x2 x3 x4=(bif(ltI x4 x3)then(bif(inR x4 (lenI x2))then(((callI tE Z5f [(.int (gn (at' x2 (tn x4)))),(.int 0),(.int (w64 (x1-1)))])).bind (fun r0=>(bif(!(gb r0))then(some [(.bool Bool.false)])else(bif(ltI 0 x4)then(bif(inR (w64 (x4-1)) (lenI x0))then(bif(leI (gn (at' x2 (tn x4))) (gn (at' x0 (tn (w64 (x4-1))))))then(some [(.bool Bool.false)])else(((callI tE Z8j [(.int (gn (tk 1 (at' x2 (tn x4)))))])).bind (fun r1=>(bif(!(gb r1))then(some [(.bool Bool.false)])else(((callI tE Z5f [(.int (gn (tk 2 (at' x2 (tn x4))))),(.int 0),(.int 9)])).bind (fun r2=>(bif(!(gb r2))then(some [(.bool Bool.false)])else(Z6e x0 x1 x2 x3 (w64 (x4+1))))))))))else none)else(((callI tE Z8j [(.int (gn (tk 1 (at' x2 (tn x4)))))])).bind (fun r1=>(bif(!(gb r1))then(some [(.bool Bool.false)])else(((callI tE Z5f [(.int (gn (tk 2 (at' x2 (tn x4))))),(.int 0),(.int 9)])).bind (fun r2=>(bif(!(gb r2))then(some [(.bool Bool.false)])else(Z6e x0 x1 x2 x3 (w64 (x4+1)))))))))))))else none)else(some [(.bool Bool.true)])):=(loopK_run (by kernel_rfl)).trans (by kernel_rfl)
theorem ZDJ (a0:Rows) (a1:Int):callI tE Z6u [.sl a0,.int a1]=(Z6e a0 a1 a0 (lenI a0) 0):=(callI_run rfl (by kernel_rfl)).trans (by kernel_rfl)
noncomputable def Z6Y (x0:Int) (x1:Rows) (x2 x3 x4 x5:Int) (x6 x7:Rows):Option (List Dat):=loopK tE Z6l 0 ⟨[(1,(.ptr (500000,0) x0 0)),(34,(.ro 177 Bool.false x1)),(35,(.i .i64 x2)),(36,(.i .i64 x3))],[((500000,0),(.box 44 [(.i .i64 x4),(.i .i64 x5),(.ro 177 Bool.false x6),(.ro 177 Bool.false x7)]))]⟩
theorem Z8v (x0:Int) (x1:Rows) (x2 x3 x4 x5:Int) (x6 x7:Rows):Z6Y x0 x1 x2 x3 x4 x5 x6 x7=(bif(ltI x3 x2)then(bif(inR x3 (lenI x1))then(((callI tE Z8H [(.sl x6),(.int (gn (at' x1 (tn x3))))])).bind (fun r0=>(bif(leI 0 (gn r0))then(some [(.bool Bool.false)])else(Z6Y x0 x1 x2 (w64 (x3+1)) x4 x5 x6 x7))))else none)else(((callI tE ZA2 [(.int x4),(.int x5),(.sl x6),(.sl x7)])).bind (fun r0=>(bif(leI (lenI x6) (gn r0))then(bif(eqI (lenI x7) 0)then(some [(.bool (leI (lenI x7) 5))])else(((callI tE ZA2 [(.int x4),(.int x5),(.sl x6),(.sl x7)])).bind (fun r1=>(bif(eqI (lenI x6) (gn r1))then(some [(.bool (leI (lenI x7) 5))])else(some [(.bool Bool.false)])))))else(some [(.bool Bool.false)]))))):=(loopK_run (by kernel_rfl)).trans (by kernel_rfl)
theorem ZCz (a0 a1:Int) (a2 a3:Rows):callI tE Z6l [.int a0,.int a1,.sl a2,.sl a3]=(((callI tE Z5f [(.int a0),(.int 8),(.int 120)])).bind (fun r0=>(bif(!(gb r0))then(some [(.bool Bool.false)])else(((callI tE Z5f [(.int a1),(.int 0),(.int 1000)])).bind (fun r1=>(bif(!(gb r1))then(some [(.bool Bool.false)])else(((callI tE Z6u [(.sl a2),(.int a1)])).bind (fun r2=>(bif(!(gb r2))then(some [(.bool Bool.false)])else(((callI tE Z6u [(.sl a3),(.int a1)])).bind (fun r3=>(bif(!(gb r3))then(some [(.bool Bool.false)])else(Z6Y 0 a3 (lenI a3) 0 a0 a1 a2 a3))))))))))))):=(callI_run rfl (by kernel_rfl)).trans (by kernel_rfl)
noncomputable def Z6G (x0:Int) (x1:Rows) (x2 x3 x4 x5:Int) (x6 x7:Rows):Option (List Dat):=loopK tE Z7Q 0 ⟨[(3,(.ptr (500000,0) x0 0)),(33,(.ro 91 Bool.false x1)),(34,(.i .i64 x2)),(35,(.i .i64 x3))],[((500000,0),(.box 44 [(.i .i64 x4),(.i .i64 x5),(.ro 177 Bool.false x6),(.ro 177 Bool.false x7)]))]⟩
theorem Z8w (x0:Int) (x1:Rows) (x2 x3 x4 x5:Int) (x6 x7:Rows):Z6G x0 x1 x2 x3 x4 x5 x6 x7=(bif(ltI x3 x2)then(bif(inR x3 (lenI x1))then(((callI tE Z8H [(.sl x6),(.int (gn (at' x1 (tn x3))))])).bind (fun r0=>(bif(leI 0 (gn r0))then(bif(!(eqI (gn (at' x1 (tn x3))) x3))then(some [(.bool Bool.false)])else(((callI tE Z8i [(.int (gn (tk 1 (at' x1 (tn x3))))),(.sl (gl (tk 2 (at' x1 (tn x3))))),(.int (gn (tk 3 (at' x1 (tn x3))))),(.sl (gl (tk 4 (at' x1 (tn x3))))),(.sl (gl (tk 5 (at' x1 (tn x3))))),(.sl (gl (tk 6 (at' x1 (tn x3))))),(.sl (gl (tk 7 (at' x1 (tn x3))))),(.int (gn (tk 8 (at' x1 (tn x3))))),(.int (gn (tk 9 (at' x1 (tn x3))))),(.int (gn (tk 10 (at' x1 (tn x3))))),(.int (gn (tk 11 (at' x1 (tn x3))))),(.sl (gl (tk 12 (at' x1 (tn x3))))),(.int (gn (tk 13 (at' x1 (tn x3))))),(.int (gn (tk 14 (at' x1 (tn x3))))),(.sl (gl (tk 15 (at' x1 (tn x3))))),(.int (gn (tk 16 (at' x1 (tn x3))))),(.bool (gb (tk 17 (at' x1 (tn x3)))))])).bind (fun r1=>(bif(!(gb r1))then(some [(.bool Bool.false)])else(((callI tE Z8F [(.int (gn (tk 1 (at' x1 (tn x3))))),(.sl (gl (tk 2 (at' x1 (tn x3))))),(.int (gn (tk 3 (at' x1 (tn x3))))),(.sl (gl (tk 4 (at' x1 (tn x3))))),(.sl (gl (tk 5 (at' x1 (tn x3))))),(.sl (gl (tk 6 (at' x1 (tn x3))))),(.sl (gl (tk 7 (at' x1 (tn x3))))),(.int (gn (tk 8 (at' x1 (tn x3))))),(.int (gn (tk 9 (at' x1 (tn x3))))),(.int (gn (tk 10 (at' x1 (tn x3))))),(.int (gn (tk 11 (at' x1 (tn x3))))),(.sl (gl (tk 12 (at' x1 (tn x3))))),(.int (gn (tk 13 (at' x1 (tn x3))))),(.int (gn (tk 14 (at' x1 (tn x3))))),(.sl (gl (tk 15 (at' x1 (tn x3))))),(.int (gn (tk 16 (at' x1 (tn x3))))),(.bool (gb (tk 17 (at' x1 (tn x3)))))])).bind (fun r2=>(bif(!(eqBo (gb (tk 21 (at' x1 (tn x3)))) (gb r2)))then(some [(.bool Bool.false)])else(bif(eqBo Bool.true (gb (tk 21 (at' x1 (tn x3)))))then(some [(.bool Bool.false)])else(Z6G x0 x1 x2 (w64 (x3+1)) x4 x5 x6 x7)))))))))else(((callI tE Z8H [(.sl x7),(.int (gn (at' x1 (tn x3))))])).bind (fun r1=>(bif(!(eqI (gn (at' x1 (tn x3))) x3))then(some [(.bool Bool.false)])else(((callI tE Z8i [(.int (gn (tk 1 (at' x1 (tn x3))))),(.sl (gl (tk 2 (at' x1 (tn x3))))),(.int (gn (tk 3 (at' x1 (tn x3))))),(.sl (gl (tk 4 (at' x1 (tn x3))))),(.sl (gl (tk 5 (at' x1 (tn x3))))),(.sl (gl (tk 6 (at' x1 (tn x3))))),(.sl (gl (tk 7 (at' x1 (tn x3))))),(.int (gn (tk 8 (at' x1 (tn x3))))),(.int (gn (tk 9 (at' x1 (tn x3))))),(.int (gn (tk 10 (at' x1 (tn x3))))),(.int (gn (tk 11 (at' x1 (tn x3))))),(.sl (gl (tk 12 (at' x1 (tn x3))))),(.int (gn (tk 13 (at' x1 (tn x3))))),(.int (gn (tk 14 (at' x1 (tn x3))))),(.sl (gl (tk 15 (at' x1 (tn x3))))),(.int (gn (tk 16 (at' x1 (tn x3))))),(.bool (gb (tk 17 (at' x1 (tn x3)))))])).bind (fun r2=>(bif(!(gb r2))then(some [(.bool Bool.false)])else(((callI tE Z8F [(.int (gn (tk 1 (at' x1 (tn x3))))),(.sl (gl (tk 2 (at' x1 (tn x3))))),(.int (gn (tk 3 (at' x1 (tn x3))))),(.sl (gl (tk 4 (at' x1 (tn x3))))),(.sl (gl (tk 5 (at' x1 (tn x3))))),(.sl (gl (tk 6 (at' x1 (tn x3))))),(.sl (gl (tk 7 (at' x1 (tn x3))))),(.int (gn (tk 8 (at' x1 (tn x3))))),(.int (gn (tk 9 (at' x1 (tn x3))))),(.int (gn (tk 10 (at' x1 (tn x3))))),(.int (gn (tk 11 (at' x1 (tn x3))))),(.sl (gl (tk 12 (at' x1 (tn x3))))),(.int (gn (tk 13 (at' x1 (tn x3))))),(.int (gn (tk 14 (at' x1 (tn x3))))),(.sl (gl (tk 15 (at' x1 (tn x3))))),(.int (gn (tk 16 (at' x1 (tn x3))))),(.bool (gb (tk 17 (at' x1 (tn x3)))))])).bind (fun r3=>(bif(!(eqBo (gb (tk 21 (at' x1 (tn x3)))) (gb r3)))then(some [(.bool Bool.false)])else(bif(eqBo (leI 0 (gn r1)) (gb (tk 21 (at' x1 (tn x3)))))then(some [(.bool Bool.false)])else(Z6G x0 x1 x2 (w64 (x3+1)) x4 x5 x6 x7))))))))))))))else none)else(some [(.bool Bool.true)])):=(loopK_run (by kernel_rfl)).trans (by kernel_rfl)
theorem ZD0 (a0 a1:Int) (a2 a3 a4:Rows) (a5:Int):callI tE Z7Q [.int a0,.int a1,.sl a2,.sl a3,.sl a4,.int a5]=(((callI tE Z6l [(.int a0),(.int a1),(.sl a2),(.sl a3)])).bind (fun r0=>(bif(!(gb r0))then(some [(.bool Bool.false)])else(bif(!(eqI (lenI a4) a1))then(some [(.bool Bool.false)])else(bif(ltI 8 (lenI a4))then(some [(.bool Bool.false)])else(((callI tE Z5f [(.int a5),(.int 0),(.int 1000)])).bind (fun r1=>(bif(!(gb r1))then(some [(.bool Bool.false)])else(Z6G 0 a4 (lenI a4) 0 a0 a1 a2 a3))))))))):=(callI_run rfl (by kernel_rfl)).trans (by kernel_rfl)
theorem ZDi (a0 a1:Int) (a2 a3:Rows):callI tE Z7z [.int a0,.int a1,.sl a2,.sl a3]=(bif(fitM (0+(len a2)) 24)then(bif(fitM (0+(len a3)) 24)then(some [(.int a0),(.int a1),(.sl a2),(.sl a3)])else none)else none):=(callI_run rfl (by kernel_rfl)).trans (by kernel_rfl)
noncomputable def Z7S (x0 x1:Int) (x2:Rows) (x3 x4 x5 x6 x7 x8 x9 x10:Int) (x11 x12 x13 x14 x15 x16:Rows):Option (List Dat):=loopK tE Z80 0 ⟨[(2,(.ptr (500000,0) x0 0)),(3,(.ptr (500001,0) x1 0)),(13,(.ro 91 Bool.false x2)),(14,(.i .i64 x3)),(15,(.i .i64 x4))],[((500000,0),(.box 47 [(.i .i64 x5),(.i .i64 x6),(.own (500002,0)),(.own (500003,0)),(.own (500004,0)),(.i .i64 x7)])),((500001,0),(.box 47 [(.i .i64 x8),(.i .i64 x9),(.own (500005,0)),(.own (500006,0)),(.own (500007,0)),(.i .i64 x10)])),((500002,0),(.row 177 x11 Bool.true 0 [])),((500003,0),(.row 177 x12 Bool.true 0 [])),((500004,0),(.row 91 x13 Bool.true 0 [])),((500005,0),(.row 177 x14 Bool.true 0 [])),((500006,0),(.row 177 x15 Bool.true 0 [])),((500007,0),(.row 91 x16 Bool.true 0 []))]⟩
theorem Z9u (x0 x1:Int) (x2:Rows) (x3 x4 x5 x6 x7 x8 x9 x10:Int) (x11 x12 x13 x14 x15 x16:Rows):Z7S x0 x1 x2 x3 x4 x5 x6 x7 x8 x9 x10 x11 x12 x13 x14 x15 x16=(bif(ltI x4 x3)then(bif(inR x4 (lenI x2))then(((callI tE ZAN [(.int (gn (tk 1 (at' x2 (tn x4))))),(.sl (gl (tk 2 (at' x2 (tn x4))))),(.int (gn (tk 3 (at' x2 (tn x4))))),(.sl (gl (tk 4 (at' x2 (tn x4))))),(.sl (gl (tk 5 (at' x2 (tn x4))))),(.sl (gl (tk 6 (at' x2 (tn x4))))),(.sl (gl (tk 7 (at' x2 (tn x4))))),(.int (gn (tk 8 (at' x2 (tn x4))))),(.int (gn (tk 9 (at' x2 (tn x4))))),(.int (gn (tk 10 (at' x2 (tn x4))))),(.int (gn (tk 11 (at' x2 (tn x4))))),(.sl (gl (tk 12 (at' x2 (tn x4))))),(.int (gn (tk 13 (at' x2 (tn x4))))),(.int (gn (tk 14 (at' x2 (tn x4))))),(.sl (gl (tk 15 (at' x2 (tn x4))))),(.int (gn (tk 16 (at' x2 (tn x4))))),(.bool (gb (tk 17 (at' x2 (tn x4)))))])).bind (fun r0=>(((callI tE Z9h [(.sl (gl (tk 18 (at' x2 (tn x4))))),(.sl (gl (tk 19 (at' x2 (tn x4))))),(.sl (gl (tk 20 (at' x2 (tn x4)))))])).bind (fun r1=>(bif(fitM (Nat.succ (len x16)) 336)then(Z7S x0 x1 x2 x3 (w64 (x4+1)) x5 x6 x7 x8 x9 x10 x11 x12 x13 x14 x15 (List.append x16 [[(.int (gn (at' x2 (tn x4)))),(.int (gn r0)),(.sl (gl (tk 1 r0))),(.int (gn (tk 2 r0))),(.sl (gl (tk 3 r0))),(.sl (gl (tk 4 r0))),(.sl (gl (tk 5 r0))),(.sl (gl (tk 6 r0))),(.int (gn (tk 7 r0))),(.int (gn (tk 8 r0))),(.int (gn (tk 9 r0))),(.int (gn (tk 10 r0))),(.sl (gl (tk 11 r0))),(.int (gn (tk 12 r0))),(.int (gn (tk 13 r0))),(.sl (gl (tk 14 r0))),(.int (gn (tk 15 r0))),(.bool (gb (tk 16 r0))),(.sl (gl r1)),(.sl (gl (tk 1 r1))),(.sl (gl (tk 2 r1))),(.bool (gb (tk 21 (at' x2 (tn x4)))))]]))else none)))))else none)else(some [(.int x8),(.int x9),(.sl x14),(.sl x15),(.sl x16),(.int x10)])):=(loopK_run (by kernel_rfl)).trans (by kernel_rfl)
theorem ZDj (a0 a1:Int) (a2 a3 a4:Rows) (a5:Int):callI tE Z80 [.int a0,.int a1,.sl a2,.sl a3,.sl a4,.int a5]=(((callI tE Z7z [(.int a0),(.int a1),(.sl a2),(.sl a3)])).bind (fun r0=>(Z7S 0 0 a4 (lenI a4) 0 0 0 0 (gn r0) (gn (tk 1 r0)) a5 [] [] [] (gl (tk 2 r0)) (gl (tk 3 r0)) []))):=(callI_run rfl (by kernel_rfl)).trans (by kernel_rfl)
theorem ZEW (a0 a1:Int) (a2 a3:Rows) (a4 a5:Int):callI tE ZAq [.int a0,.int a1,.sl a2,.sl a3,.int a4,.int a5]=(((callI tE Z7z [(.int a0),(.int a1),(.sl a2),(.sl a3)])).bind (fun r0=>(((callI tE Z6l [(.int a0),(.int a1),(.sl a2),(.sl a3)])).bind (fun r1=>(bif(!(gb r1))then(some [(.int (gn r0)),(.int (gn (tk 1 r0))),(.sl (gl (tk 2 r0))),(.sl (gl (tk 3 r0))),(.int 0),(.bool Bool.false)])else(((callI tE Z8j [(.int a4)])).bind (fun r2=>(bif(!(gb r2))then(some [(.int (gn r0)),(.int (gn (tk 1 r0))),(.sl (gl (tk 2 r0))),(.sl (gl (tk 3 r0))),(.int 0),(.bool Bool.false)])else(((callI tE Z5f [(.int a5),(.int 0),(.int 9)])).bind (fun r3=>(bif(!(gb r3))then(some [(.int (gn r0)),(.int (gn (tk 1 r0))),(.sl (gl (tk 2 r0))),(.sl (gl (tk 3 r0))),(.int 0),(.bool Bool.false)])else(bif(eqI a1 1000)then(some [(.int (gn r0)),(.int (gn (tk 1 r0))),(.sl (gl (tk 2 r0))),(.sl (gl (tk 3 r0))),(.int 0),(.bool Bool.false)])else(bif(eqI (lenI a3) 5)then(some [(.int (gn r0)),(.int (gn (tk 1 r0))),(.sl (gl (tk 2 r0))),(.sl (gl (tk 3 r0))),(.int 0),(.bool Bool.false)])else(((callI tE ZA2 [(.int (gn r0)),(.int (w64 ((gn (tk 1 r0))+1))),(.sl (gl (tk 2 r0))),(.sl (gl (tk 3 r0)))])).bind (fun r4=>(bif(ltI (lenI (gl (tk 2 r0))) (gn r4))then(bif(fitM (Nat.succ (len (gl (tk 2 r0)))) 24)then(some [(.int (gn r0)),(.int (w64 ((gn (tk 1 r0))+1))),(.sl (List.append (gl (tk 2 r0)) [[(.int a1),(.int a4),(.int a5)]])),(.sl (gl (tk 3 r0))),(.int a1),(.bool Bool.true)])else none)else(bif(fitM (Nat.succ (len (gl (tk 3 r0)))) 24)then(some [(.int (gn r0)),(.int (w64 ((gn (tk 1 r0))+1))),(.sl (gl (tk 2 r0))),(.sl (List.append (gl (tk 3 r0)) [[(.int a1),(.int a4),(.int a5)]])),(.int a1),(.bool Bool.true)])else none))))))))))))))))):=(callI_run rfl (by kernel_rfl)).trans (by kernel_rfl)
theorem ZH1 (a0 a1:Int) (a2 a3 a4:Rows) (a5 a6:Int) (a7:Rows) (a8:Int) (a9 a10 a11 a12:Rows) (a13 a14 a15 a16:Int) (a17:Rows) (a18 a19:Int) (a20:Rows) (a21:Int) (a22:Bool) (a23 a24:Int):callI tE ZBl [.int a0,.int a1,.sl a2,.sl a3,.sl a4,.int a5,.int a6,.sl a7,.int a8,.sl a9,.sl a10,.sl a11,.sl a12,.int a13,.int a14,.int a15,.int a16,.sl a17,.int a18,.int a19,.sl a20,.int a21,.bool a22,.int a23,.int a24]=(((callI tE Z80 [(.int a0),(.int a1),(.sl a2),(.sl a3),(.sl a4),(.int a5)])).bind (fun r0=>(((callI tE Z7Q [(.int a0),(.int a1),(.sl a2),(.sl a3),(.sl a4),(.int a5)])).bind (fun r1=>(bif(!(gb r1))then(some [(.int (gn r0)),(.int (gn (tk 1 r0))),(.sl (gl (tk 2 r0))),(.sl (gl (tk 3 r0))),(.sl (gl (tk 4 r0))),(.int (gn (tk 5 r0))),(.int 0),(.bool Bool.false)])else(((callI tE Z8i [(.int a6),(.sl a7),(.int a8),(.sl a9),(.sl a10),(.sl a11),(.sl a12),(.int a13),(.int a14),(.int a15),(.int a16),(.sl a17),(.int a18),(.int a19),(.sl a20),(.int a21),(.bool a22)])).bind (fun r2=>(bif(!(gb r2))then(some [(.int (gn r0)),(.int (gn (tk 1 r0))),(.sl (gl (tk 2 r0))),(.sl (gl (tk 3 r0))),(.sl (gl (tk 4 r0))),(.int (gn (tk 5 r0))),(.int 0),(.bool Bool.false)])else(((callI tE Z8F [(.int a6),(.sl a7),(.int a8),(.sl a9),(.sl a10),(.sl a11),(.sl a12),(.int a13),(.int a14),(.int a15),(.int a16),(.sl a17),(.int a18),(.int a19),(.sl a20),(.int a21),(.bool a22)])).bind (fun r3=>(bif(gb r3)then(some [(.int (gn r0)),(.int (gn (tk 1 r0))),(.sl (gl (tk 2 r0))),(.sl (gl (tk 3 r0))),(.sl (gl (tk 4 r0))),(.int (gn (tk 5 r0))),(.int 0),(.bool Bool.false)])else(bif(leI 8 (lenI a4))then(some [(.int (gn r0)),(.int (gn (tk 1 r0))),(.sl (gl (tk 2 r0))),(.sl (gl (tk 3 r0))),(.sl (gl (tk 4 r0))),(.int (gn (tk 5 r0))),(.int 0),(.bool Bool.false)])else(((callI tE ZAq [(.int (gn r0)),(.int (gn (tk 1 r0))),(.sl (gl (tk 2 r0))),(.sl (gl (tk 3 r0))),(.int a23),(.int a24)])).bind (fun r4=>(bif(!(gb (tk 5 r4)))then(some [(.int (gn r0)),(.int (gn (tk 1 r0))),(.sl (gl (tk 2 r0))),(.sl (gl (tk 3 r0))),(.sl (gl (tk 4 r0))),(.int (gn (tk 5 r0))),(.int 0),(.bool Bool.false)])else(((callI tE ZAN [(.int a6),(.sl a7),(.int a8),(.sl a9),(.sl a10),(.sl a11),(.sl a12),(.int a13),(.int a14),(.int a15),(.int a16),(.sl a17),(.int a18),(.int a19),(.sl a20),(.int a21),(.bool a22)])).bind (fun r5=>(bif(fitM (Nat.succ (len (gl (tk 4 r0)))) 336)then(some [(.int (gn r4)),(.int (gn (tk 1 r4))),(.sl (gl (tk 2 r4))),(.sl (gl (tk 3 r4))),(.sl (List.append (gl (tk 4 r0)) [[(.int (gn (tk 4 r4))),(.int (gn r5)),(.sl (gl (tk 1 r5))),(.int (gn (tk 2 r5))),(.sl (gl (tk 3 r5))),(.sl (gl (tk 4 r5))),(.sl (gl (tk 5 r5))),(.sl (gl (tk 6 r5))),(.int (gn (tk 7 r5))),(.int (gn (tk 8 r5))),(.int (gn (tk 9 r5))),(.int (gn (tk 10 r5))),(.sl (gl (tk 11 r5))),(.int (gn (tk 12 r5))),(.int (gn (tk 13 r5))),(.sl (gl (tk 14 r5))),(.int (gn (tk 15 r5))),(.bool (gb (tk 16 r5))),(.sl []),(.sl []),(.sl []),(.bool Bool.false)]])),(.int (gn (tk 5 r0))),(.int (gn (tk 4 r4))),(.bool Bool.true)])else none)))))))))))))))))):=(callI_run rfl (by kernel_rfl)).trans (by kernel_rfl)
theorem ZFM (a0 a1 a2 a3 a4 a5:Int):callI tE ZBL [.int a0,.int a1,.int a2,.int a3,.int a4,.int a5]=(bif(!(eqI a0 a3))then(some [(.bool Bool.false)])else(bif(!(eqI a1 a4))then(some [(.bool Bool.false)])else(bif(!(eqI a2 a5))then(some [(.bool Bool.false)])else(some [(.bool Bool.true)])))):=(callI_run rfl (by kernel_rfl)).trans (by kernel_rfl)
noncomputable def Z8A (x0 x1:Rows) (x2:Int):Option (List Dat):=loopK tE Z7p 0 ⟨[(0,(.ro 177 Bool.false x0)),(1,(.ro 177 Bool.false x1)),(5,(.i .i64 x2))],[]⟩
theorem ZAl (x0 x1:Rows) (x2:Int):Z8A x0 x1 x2=(bif(ltI x2 (lenI x0))then(bif(inR x2 (lenI x0))then(bif(inR x2 (lenI x1))then(((callI tE ZBL [(.int (gn (at' x0 (tn x2)))),(.int (gn (tk 1 (at' x0 (tn x2))))),(.int (gn (tk 2 (at' x0 (tn x2))))),(.int (gn (at' x1 (tn x2)))),(.int (gn (tk 1 (at' x1 (tn x2))))),(.int (gn (tk 2 (at' x1 (tn x2)))))])).bind (fun r0=>(bif(!(gb r0))then(some [(.bool Bool.false)])else(Z8A x0 x1 (w64 (x2+1))))))else none)else none)else(some [(.bool Bool.true)])):=(loopK_run (by kernel_rfl)).trans (by kernel_rfl)
theorem ZEX (a0 a1:Rows):callI tE Z7p [.sl a0,.sl a1]=(bif(!(eqI (lenI a0) (lenI a1)))then(some [(.bool Bool.false)])else(Z8A a0 a1 0)):=(callI_run rfl (by kernel_rfl)).trans (by kernel_rfl)
theorem ZFN (a0 a1:Int) (a2 a3:Rows) (a4 a5:Int) (a6 a7:Rows):callI tE ZBM [.int a0,.int a1,.sl a2,.sl a3,.int a4,.int a5,.sl a6,.sl a7]=(bif(!(eqI a0 a4))then(some [(.bool Bool.false)])else(bif(!(eqI a1 a5))then(some [(.bool Bool.false)])else(((callI tE Z7p [(.sl a2),(.sl a6)])).bind (fun r0=>(bif(!(gb r0))then(some [(.bool Bool.false)])else(((callI tE Z7p [(.sl a3),(.sl a7)])).bind (fun r1=>(bif(!(gb r1))then(some [(.bool Bool.false)])else(some [(.bool Bool.true)]))))))))):=(callI_run rfl (by kernel_rfl)).trans (by kernel_rfl)
theorem ZGX (a0 a1:Int) (a2:Rows) (a3:Int) (a4 a5 a6 a7:Rows) (a8 a9 a10 a11:Int) (a12:Rows) (a13 a14:Int) (a15:Rows) (a16:Int) (a17:Bool) (a18 a19 a20:Rows) (a21:Bool) (a22 a23:Int) (a24:Rows) (a25:Int) (a26 a27 a28 a29:Rows) (a30 a31 a32 a33:Int) (a34:Rows) (a35 a36:Int) (a37:Rows) (a38:Int) (a39:Bool) (a40 a41 a42:Rows) (a43:Bool):callI tE ZCO [.int a0,.int a1,.sl a2,.int a3,.sl a4,.sl a5,.sl a6,.sl a7,.int a8,.int a9,.int a10,.int a11,.sl a12,.int a13,.int a14,.sl a15,.int a16,.bool a17,.sl a18,.sl a19,.sl a20,.bool a21,.int a22,.int a23,.sl a24,.int a25,.sl a26,.sl a27,.sl a28,.sl a29,.int a30,.int a31,.int a32,.int a33,.sl a34,.int a35,.int a36,.sl a37,.int a38,.bool a39,.sl a40,.sl a41,.sl a42,.bool a43]=(bif(!(eqI a0 a22))then(some [(.bool Bool.false)])else(((callI tE ZCM [(.int a1),(.sl a2),(.int a3),(.sl a4),(.sl a5),(.sl a6),(.sl a7),(.int a8),(.int a9),(.int a10),(.int a11),(.sl a12),(.int a13),(.int a14),(.sl a15),(.int a16),(.bool a17),(.int a23),(.sl a24),(.int a25),(.sl a26),(.sl a27),(.sl a28),(.sl a29),(.int a30),(.int a31),(.int a32),(.int a33),(.sl a34),(.int a35),(.int a36),(.sl a37),(.int a38),(.bool a39)])).bind (fun r0=>(bif(!(gb r0))then(some [(.bool Bool.false)])else(((callI tE ZBP [(.sl a18),(.sl a19),(.sl a20),(.sl a40),(.sl a41),(.sl a42)])).bind (fun r1=>(bif(!(gb r1))then(some [(.bool Bool.false)])else(bif(!(eqBo a21 a43))then(some [(.bool Bool.false)])else(some [(.bool Bool.true)]))))))))):=(callI_run rfl (by kernel_rfl)).trans (by kernel_rfl)
noncomputable def Z9H (x0 x1:Rows) (x2:Int):Option (List Dat):=loopK tE ZAR 0 ⟨[(0,(.ro 91 Bool.false x0)),(1,(.ro 91 Bool.false x1)),(5,(.i .i64 x2))],[]⟩
theorem ZBh (x0 x1:Rows) (x2:Int):Z9H x0 x1 x2=(bif(ltI x2 (lenI x0))then(bif(inR x2 (lenI x0))then(bif(inR x2 (lenI x1))then(((callI tE ZCO [(.int (gn (at' x0 (tn x2)))),(.int (gn (tk 1 (at' x0 (tn x2))))),(.sl (gl (tk 2 (at' x0 (tn x2))))),(.int (gn (tk 3 (at' x0 (tn x2))))),(.sl (gl (tk 4 (at' x0 (tn x2))))),(.sl (gl (tk 5 (at' x0 (tn x2))))),(.sl (gl (tk 6 (at' x0 (tn x2))))),(.sl (gl (tk 7 (at' x0 (tn x2))))),(.int (gn (tk 8 (at' x0 (tn x2))))),(.int (gn (tk 9 (at' x0 (tn x2))))),(.int (gn (tk 10 (at' x0 (tn x2))))),(.int (gn (tk 11 (at' x0 (tn x2))))),(.sl (gl (tk 12 (at' x0 (tn x2))))),(.int (gn (tk 13 (at' x0 (tn x2))))),(.int (gn (tk 14 (at' x0 (tn x2))))),(.sl (gl (tk 15 (at' x0 (tn x2))))),(.int (gn (tk 16 (at' x0 (tn x2))))),(.bool (gb (tk 17 (at' x0 (tn x2))))),(.sl (gl (tk 18 (at' x0 (tn x2))))),(.sl (gl (tk 19 (at' x0 (tn x2))))),(.sl (gl (tk 20 (at' x0 (tn x2))))),(.bool (gb (tk 21 (at' x0 (tn x2))))),(.int (gn (at' x1 (tn x2)))),(.int (gn (tk 1 (at' x1 (tn x2))))),(.sl (gl (tk 2 (at' x1 (tn x2))))),(.int (gn (tk 3 (at' x1 (tn x2))))),(.sl (gl (tk 4 (at' x1 (tn x2))))),(.sl (gl (tk 5 (at' x1 (tn x2))))),(.sl (gl (tk 6 (at' x1 (tn x2))))),(.sl (gl (tk 7 (at' x1 (tn x2))))),(.int (gn (tk 8 (at' x1 (tn x2))))),(.int (gn (tk 9 (at' x1 (tn x2))))),(.int (gn (tk 10 (at' x1 (tn x2))))),(.int (gn (tk 11 (at' x1 (tn x2))))),(.sl (gl (tk 12 (at' x1 (tn x2))))),(.int (gn (tk 13 (at' x1 (tn x2))))),(.int (gn (tk 14 (at' x1 (tn x2))))),(.sl (gl (tk 15 (at' x1 (tn x2))))),(.int (gn (tk 16 (at' x1 (tn x2))))),(.bool (gb (tk 17 (at' x1 (tn x2))))),(.sl (gl (tk 18 (at' x1 (tn x2))))),(.sl (gl (tk 19 (at' x1 (tn x2))))),(.sl (gl (tk 20 (at' x1 (tn x2))))),(.bool (gb (tk 21 (at' x1 (tn x2)))))])).bind (fun r0=>(bif(!(gb r0))then(some [(.bool Bool.false)])else(Z9H x0 x1 (w64 (x2+1))))))else none)else none)else(some [(.bool Bool.true)])):=(loopK_run (by kernel_rfl)).trans (by kernel_rfl)
theorem ZG2 (a0 a1:Rows):callI tE ZAR [.sl a0,.sl a1]=(bif(!(eqI (lenI a0) (lenI a1)))then(some [(.bool Bool.false)])else(Z9H a0 a1 0)):=(callI_run rfl (by kernel_rfl)).trans (by kernel_rfl)
theorem ZFO (a0 a1:Int) (a2 a3 a4:Rows) (a5 a6 a7:Int) (a8 a9 a10:Rows) (a11:Int):callI tE Z7Y [.int a0,.int a1,.sl a2,.sl a3,.sl a4,.int a5,.int a6,.int a7,.sl a8,.sl a9,.sl a10,.int a11]=(((callI tE ZBM [(.int a0),(.int a1),(.sl a2),(.sl a3),(.int a6),(.int a7),(.sl a8),(.sl a9)])).bind (fun r0=>(bif(!(gb r0))then(some [(.bool Bool.false)])else(((callI tE ZAR [(.sl a4),(.sl a10)])).bind (fun r1=>(bif(!(gb r1))then(some [(.bool Bool.false)])else(bif(!(eqI a5 a11))then(some [(.bool Bool.false)])else(some [(.bool Bool.true)])))))))):=(callI_run rfl (by kernel_rfl)).trans (by kernel_rfl)
noncomputable def Z7T (x0 x1:Int) (x2:Rows):Option (List Dat):=loopK tE Z71 0 ⟨[(0,(.own (1000000,0))),(1,(.i .i64 x0)),(5,(.i .i64 x1))],[((1000000,0),(.row 177 x2 Bool.true 0 []))]⟩
theorem Z9v (x0 x1:Int) (x2:Rows):Z7T x0 x1 x2=(bif(ltI x1 (lenI x2))then(bif(inR x1 (lenI x2))then(bif(inR x1 (lenI (updR x2 (tn x1) 0 [(.int x0)])))then(bif(inR x1 (lenI (updR (updR x2 (tn x1) 0 [(.int x0)]) (tn x1) 1 [(.int (w64 (x0+1)))])))then(Z7T (w64 ((w64 ((w64 (x0+1))+1))+1)) (w64 (x1+1)) (updR (updR (updR x2 (tn x1) 0 [(.int x0)]) (tn x1) 1 [(.int (w64 (x0+1)))]) (tn x1) 2 [(.int (w64 ((w64 (x0+1))+1)))]))else none)else none)else none)else(some [(.int x0),(.sl x2)])):=(loopK_run (by kernel_rfl)).trans (by kernel_rfl)
theorem ZDk (a0:Rows) (a1:Int):callI tE Z71 [.sl a0,.int a1]=(Z7T a1 0 a0):=(callI_run rfl (by kernel_rfl)).trans (by kernel_rfl)
theorem ZE0 (a0 a1:Int) (a2 a3:Rows) (a4:Int):callI tE ZA4 [.int a0,.int a1,.sl a2,.sl a3,.int a4]=(((callI tE Z71 [(.sl a2),(.int a4)])).bind (fun r0=>(((callI tE Z71 [(.sl a3),(.int (gn r0))])).bind (fun r1=>(some [(.int (gn r1)),(.sl (gl (List.drop 1 r0))),(.sl (gl (List.drop 1 r1)))]))))):=(callI_run rfl (by kernel_rfl)).trans (by kernel_rfl)
noncomputable def Z8B (x0 x1:Int) (x2:Rows):Option (List Dat):=loopK tE Z91 0 ⟨[(0,(.own (1000000,0))),(1,(.i .i64 x0)),(5,(.i .i64 x1))],[((1000000,0),(.row 91 x2 Bool.true 0 []))]⟩
theorem ZAm (x0 x1:Int) (x2:Rows):Z8B x0 x1 x2=(bif(ltI x1 (lenI x2))then(bif(inR x1 (lenI x2))then(bif(inR x1 (lenI (updR x2 (tn x1) 0 [(.int x0)])))then(bif(inR x1 (lenI (updR (updR x2 (tn x1) 0 [(.int x0)]) (tn x1) 1 [(.int (w64 (x0+1)))])))then(((callI tE Z5m [(List.getD (at' (updR (updR x2 (tn x1) 0 [(.int x0)]) (tn x1) 1 [(.int (w64 (x0+1)))]) (tn x1)) 2 (.int 0)),(.int (w64 ((w64 (x0+1))+1)))])).bind (fun r0=>(bif(inR x1 (lenI (updR (updR (updR x2 (tn x1) 0 [(.int x0)]) (tn x1) 1 [(.int (w64 (x0+1)))]) (tn x1) 2 [(List.headD (List.drop 1 r0) (.int 0))])))then(bif(inR x1 (lenI (updR (updR (updR (updR x2 (tn x1) 0 [(.int x0)]) (tn x1) 1 [(.int (w64 (x0+1)))]) (tn x1) 2 [(List.headD (List.drop 1 r0) (.int 0))]) (tn x1) 3 [(.int (gn r0))])))then(((callI tE Z5m [(List.getD (at' (updR (updR (updR (updR x2 (tn x1) 0 [(.int x0)]) (tn x1) 1 [(.int (w64 (x0+1)))]) (tn x1) 2 [(List.headD (List.drop 1 r0) (.int 0))]) (tn x1) 3 [(.int (gn r0))]) (tn x1)) 4 (.int 0)),(.int (w64 ((gn r0)+1)))])).bind (fun r1=>(bif(inR x1 (lenI (updR (updR (updR (updR (updR x2 (tn x1) 0 [(.int x0)]) (tn x1) 1 [(.int (w64 (x0+1)))]) (tn x1) 2 [(List.headD (List.drop 1 r0) (.int 0))]) (tn x1) 3 [(.int (gn r0))]) (tn x1) 4 [(List.headD (List.drop 1 r1) (.int 0))])))then(((callI tE Z5m [(List.getD (at' (updR (updR (updR (updR (updR x2 (tn x1) 0 [(.int x0)]) (tn x1) 1 [(.int (w64 (x0+1)))]) (tn x1) 2 [(List.headD (List.drop 1 r0) (.int 0))]) (tn x1) 3 [(.int (gn r0))]) (tn x1) 4 [(List.headD (List.drop 1 r1) (.int 0))]) (tn x1)) 5 (.int 0)),(.int (gn r1))])).bind (fun r2=>(bif(inR x1 (lenI (updR (updR (updR (updR (updR (updR x2 (tn x1) 0 [(.int x0)]) (tn x1) 1 [(.int (w64 (x0+1)))]) (tn x1) 2 [(List.headD (List.drop 1 r0) (.int 0))]) (tn x1) 3 [(.int (gn r0))]) (tn x1) 4 [(List.headD (List.drop 1 r1) (.int 0))]) (tn x1) 5 [(List.headD (List.drop 1 r2) (.int 0))])))then(((callI tE Z5m [(List.getD (at' (updR (updR (updR (updR (updR (updR x2 (tn x1) 0 [(.int x0)]) (tn x1) 1 [(.int (w64 (x0+1)))]) (tn x1) 2 [(List.headD (List.drop 1 r0) (.int 0))]) (tn x1) 3 [(.int (gn r0))]) (tn x1) 4 [(List.headD (List.drop 1 r1) (.int 0))]) (tn x1) 5 [(List.headD (List.drop 1 r2) (.int 0))]) (tn x1)) 6 (.int 0)),(.int (gn r2))])).bind (fun r3=>(bif(inR x1 (lenI (updR (updR (updR (updR (updR (updR (updR x2 (tn x1) 0 [(.int x0)]) (tn x1) 1 [(.int (w64 (x0+1)))]) (tn x1) 2 [(List.headD (List.drop 1 r0) (.int 0))]) (tn x1) 3 [(.int (gn r0))]) (tn x1) 4 [(List.headD (List.drop 1 r1) (.int 0))]) (tn x1) 5 [(List.headD (List.drop 1 r2) (.int 0))]) (tn x1) 6 [(List.headD (List.drop 1 r3) (.int 0))])))then(((callI tE Z8I [(List.getD (at' (updR (updR (updR (updR (updR (updR (updR x2 (tn x1) 0 [(.int x0)]) (tn x1) 1 [(.int (w64 (x0+1)))]) (tn x1) 2 [(List.headD (List.drop 1 r0) (.int 0))]) (tn x1) 3 [(.int (gn r0))]) (tn x1) 4 [(List.headD (List.drop 1 r1) (.int 0))]) (tn x1) 5 [(List.headD (List.drop 1 r2) (.int 0))]) (tn x1) 6 [(List.headD (List.drop 1 r3) (.int 0))]) (tn x1)) 7 (.int 0)),(.int (gn r3))])).bind (fun r4=>(bif(inR x1 (lenI (updR (updR (updR (updR (updR (updR (updR (updR x2 (tn x1) 0 [(.int x0)]) (tn x1) 1 [(.int (w64 (x0+1)))]) (tn x1) 2 [(List.headD (List.drop 1 r0) (.int 0))]) (tn x1) 3 [(.int (gn r0))]) (tn x1) 4 [(List.headD (List.drop 1 r1) (.int 0))]) (tn x1) 5 [(List.headD (List.drop 1 r2) (.int 0))]) (tn x1) 6 [(List.headD (List.drop 1 r3) (.int 0))]) (tn x1) 7 [(List.headD (List.drop 1 r4) (.int 0))])))then(bif(inR x1 (lenI (updR (updR (updR (updR (updR (updR (updR (updR (updR x2 (tn x1) 0 [(.int x0)]) (tn x1) 1 [(.int (w64 (x0+1)))]) (tn x1) 2 [(List.headD (List.drop 1 r0) (.int 0))]) (tn x1) 3 [(.int (gn r0))]) (tn x1) 4 [(List.headD (List.drop 1 r1) (.int 0))]) (tn x1) 5 [(List.headD (List.drop 1 r2) (.int 0))]) (tn x1) 6 [(List.headD (List.drop 1 r3) (.int 0))]) (tn x1) 7 [(List.headD (List.drop 1 r4) (.int 0))]) (tn x1) 8 [(.int (gn r4))])))then(bif(inR x1 (lenI (updR (updR (updR (updR (updR (updR (updR (updR (updR (updR x2 (tn x1) 0 [(.int x0)]) (tn x1) 1 [(.int (w64 (x0+1)))]) (tn x1) 2 [(List.headD (List.drop 1 r0) (.int 0))]) (tn x1) 3 [(.int (gn r0))]) (tn x1) 4 [(List.headD (List.drop 1 r1) (.int 0))]) (tn x1) 5 [(List.headD (List.drop 1 r2) (.int 0))]) (tn x1) 6 [(List.headD (List.drop 1 r3) (.int 0))]) (tn x1) 7 [(List.headD (List.drop 1 r4) (.int 0))]) (tn x1) 8 [(.int (gn r4))]) (tn x1) 9 [(.int (w64 ((gn r4)+1)))])))then(bif(inR x1 (lenI (updR (updR (updR (updR (updR (updR (updR (updR (updR (updR (updR x2 (tn x1) 0 [(.int x0)]) (tn x1) 1 [(.int (w64 (x0+1)))]) (tn x1) 2 [(List.headD (List.drop 1 r0) (.int 0))]) (tn x1) 3 [(.int (gn r0))]) (tn x1) 4 [(List.headD (List.drop 1 r1) (.int 0))]) (tn x1) 5 [(List.headD (List.drop 1 r2) (.int 0))]) (tn x1) 6 [(List.headD (List.drop 1 r3) (.int 0))]) (tn x1) 7 [(List.headD (List.drop 1 r4) (.int 0))]) (tn x1) 8 [(.int (gn r4))]) (tn x1) 9 [(.int (w64 ((gn r4)+1)))]) (tn x1) 10 [(.int (w64 ((w64 ((gn r4)+1))+1)))])))then(bif(inR x1 (lenI (updR (updR (updR (updR (updR (updR (updR (updR (updR (updR (updR (updR x2 (tn x1) 0 [(.int x0)]) (tn x1) 1 [(.int (w64 (x0+1)))]) (tn x1) 2 [(List.headD (List.drop 1 r0) (.int 0))]) (tn x1) 3 [(.int (gn r0))]) (tn x1) 4 [(List.headD (List.drop 1 r1) (.int 0))]) (tn x1) 5 [(List.headD (List.drop 1 r2) (.int 0))]) (tn x1) 6 [(List.headD (List.drop 1 r3) (.int 0))]) (tn x1) 7 [(List.headD (List.drop 1 r4) (.int 0))]) (tn x1) 8 [(.int (gn r4))]) (tn x1) 9 [(.int (w64 ((gn r4)+1)))]) (tn x1) 10 [(.int (w64 ((w64 ((gn r4)+1))+1)))]) (tn x1) 11 [(.int (w64 ((w64 ((w64 ((gn r4)+1))+1))+1)))])))then(((callI tE Z7q [(List.getD (at' (updR (updR (updR (updR (updR (updR (updR (updR (updR (updR (updR (updR x2 (tn x1) 0 [(.int x0)]) (tn x1) 1 [(.int (w64 (x0+1)))]) (tn x1) 2 [(List.headD (List.drop 1 r0) (.int 0))]) (tn x1) 3 [(.int (gn r0))]) (tn x1) 4 [(List.headD (List.drop 1 r1) (.int 0))]) (tn x1) 5 [(List.headD (List.drop 1 r2) (.int 0))]) (tn x1) 6 [(List.headD (List.drop 1 r3) (.int 0))]) (tn x1) 7 [(List.headD (List.drop 1 r4) (.int 0))]) (tn x1) 8 [(.int (gn r4))]) (tn x1) 9 [(.int (w64 ((gn r4)+1)))]) (tn x1) 10 [(.int (w64 ((w64 ((gn r4)+1))+1)))]) (tn x1) 11 [(.int (w64 ((w64 ((w64 ((gn r4)+1))+1))+1)))]) (tn x1)) 12 (.int 0)),(.int (w64 ((w64 ((w64 ((w64 ((gn r4)+1))+1))+1))+1)))])).bind (fun r5=>(bif(inR x1 (lenI (updR (updR (updR (updR (updR (updR (updR (updR (updR (updR (updR (updR (updR x2 (tn x1) 0 [(.int x0)]) (tn x1) 1 [(.int (w64 (x0+1)))]) (tn x1) 2 [(List.headD (List.drop 1 r0) (.int 0))]) (tn x1) 3 [(.int (gn r0))]) (tn x1) 4 [(List.headD (List.drop 1 r1) (.int 0))]) (tn x1) 5 [(List.headD (List.drop 1 r2) (.int 0))]) (tn x1) 6 [(List.headD (List.drop 1 r3) (.int 0))]) (tn x1) 7 [(List.headD (List.drop 1 r4) (.int 0))]) (tn x1) 8 [(.int (gn r4))]) (tn x1) 9 [(.int (w64 ((gn r4)+1)))]) (tn x1) 10 [(.int (w64 ((w64 ((gn r4)+1))+1)))]) (tn x1) 11 [(.int (w64 ((w64 ((w64 ((gn r4)+1))+1))+1)))]) (tn x1) 12 [(List.headD (List.drop 1 r5) (.int 0))])))then(bif(inR x1 (lenI (updR (updR (updR (updR (updR (updR (updR (updR (updR (updR (updR (updR (updR (updR x2 (tn x1) 0 [(.int x0)]) (tn x1) 1 [(.int (w64 (x0+1)))]) (tn x1) 2 [(List.headD (List.drop 1 r0) (.int 0))]) (tn x1) 3 [(.int (gn r0))]) (tn x1) 4 [(List.headD (List.drop 1 r1) (.int 0))]) (tn x1) 5 [(List.headD (List.drop 1 r2) (.int 0))]) (tn x1) 6 [(List.headD (List.drop 1 r3) (.int 0))]) (tn x1) 7 [(List.headD (List.drop 1 r4) (.int 0))]) (tn x1) 8 [(.int (gn r4))]) (tn x1) 9 [(.int (w64 ((gn r4)+1)))]) (tn x1) 10 [(.int (w64 ((w64 ((gn r4)+1))+1)))]) (tn x1) 11 [(.int (w64 ((w64 ((w64 ((gn r4)+1))+1))+1)))]) (tn x1) 12 [(List.headD (List.drop 1 r5) (.int 0))]) (tn x1) 13 [(.int (gn r5))])))then(bif(inR x1 (lenI (updR (updR (updR (updR (updR (updR (updR (updR (updR (updR (updR (updR (updR (updR (updR x2 (tn x1) 0 [(.int x0)]) (tn x1) 1 [(.int (w64 (x0+1)))]) (tn x1) 2 [(List.headD (List.drop 1 r0) (.int 0))]) (tn x1) 3 [(.int (gn r0))]) (tn x1) 4 [(List.headD (List.drop 1 r1) (.int 0))]) (tn x1) 5 [(List.headD (List.drop 1 r2) (.int 0))]) (tn x1) 6 [(List.headD (List.drop 1 r3) (.int 0))]) (tn x1) 7 [(List.headD (List.drop 1 r4) (.int 0))]) (tn x1) 8 [(.int (gn r4))]) (tn x1) 9 [(.int (w64 ((gn r4)+1)))]) (tn x1) 10 [(.int (w64 ((w64 ((gn r4)+1))+1)))]) (tn x1) 11 [(.int (w64 ((w64 ((w64 ((gn r4)+1))+1))+1)))]) (tn x1) 12 [(List.headD (List.drop 1 r5) (.int 0))]) (tn x1) 13 [(.int (gn r5))]) (tn x1) 14 [(.int (w64 ((gn r5)+1)))])))then(((callI tE Z6c [(List.getD (at' (updR (updR (updR (updR (updR (updR (updR (updR (updR (updR (updR (updR (updR (updR (updR x2 (tn x1) 0 [(.int x0)]) (tn x1) 1 [(.int (w64 (x0+1)))]) (tn x1) 2 [(List.headD (List.drop 1 r0) (.int 0))]) (tn x1) 3 [(.int (gn r0))]) (tn x1) 4 [(List.headD (List.drop 1 r1) (.int 0))]) (tn x1) 5 [(List.headD (List.drop 1 r2) (.int 0))]) (tn x1) 6 [(List.headD (List.drop 1 r3) (.int 0))]) (tn x1) 7 [(List.headD (List.drop 1 r4) (.int 0))]) (tn x1) 8 [(.int (gn r4))]) (tn x1) 9 [(.int (w64 ((gn r4)+1)))]) (tn x1) 10 [(.int (w64 ((w64 ((gn r4)+1))+1)))]) (tn x1) 11 [(.int (w64 ((w64 ((w64 ((gn r4)+1))+1))+1)))]) (tn x1) 12 [(List.headD (List.drop 1 r5) (.int 0))]) (tn x1) 13 [(.int (gn r5))]) (tn x1) 14 [(.int (w64 ((gn r5)+1)))]) (tn x1)) 15 (.int 0)),(.int (w64 ((w64 ((gn r5)+1))+1)))])).bind (fun r6=>(bif(inR x1 (lenI (updR (updR (updR (updR (updR (updR (updR (updR (updR (updR (updR (updR (updR (updR (updR (updR x2 (tn x1) 0 [(.int x0)]) (tn x1) 1 [(.int (w64 (x0+1)))]) (tn x1) 2 [(List.headD (List.drop 1 r0) (.int 0))]) (tn x1) 3 [(.int (gn r0))]) (tn x1) 4 [(List.headD (List.drop 1 r1) (.int 0))]) (tn x1) 5 [(List.headD (List.drop 1 r2) (.int 0))]) (tn x1) 6 [(List.headD (List.drop 1 r3) (.int 0))]) (tn x1) 7 [(List.headD (List.drop 1 r4) (.int 0))]) (tn x1) 8 [(.int (gn r4))]) (tn x1) 9 [(.int (w64 ((gn r4)+1)))]) (tn x1) 10 [(.int (w64 ((w64 ((gn r4)+1))+1)))]) (tn x1) 11 [(.int (w64 ((w64 ((w64 ((gn r4)+1))+1))+1)))]) (tn x1) 12 [(List.headD (List.drop 1 r5) (.int 0))]) (tn x1) 13 [(.int (gn r5))]) (tn x1) 14 [(.int (w64 ((gn r5)+1)))]) (tn x1) 15 [(List.headD (List.drop 1 r6) (.int 0))])))then(bif(inR x1 (lenI (updR (updR (updR (updR (updR (updR (updR (updR (updR (updR (updR (updR (updR (updR (updR (updR (updR x2 (tn x1) 0 [(.int x0)]) (tn x1) 1 [(.int (w64 (x0+1)))]) (tn x1) 2 [(List.headD (List.drop 1 r0) (.int 0))]) (tn x1) 3 [(.int (gn r0))]) (tn x1) 4 [(List.headD (List.drop 1 r1) (.int 0))]) (tn x1) 5 [(List.headD (List.drop 1 r2) (.int 0))]) (tn x1) 6 [(List.headD (List.drop 1 r3) (.int 0))]) (tn x1) 7 [(List.headD (List.drop 1 r4) (.int 0))]) (tn x1) 8 [(.int (gn r4))]) (tn x1) 9 [(.int (w64 ((gn r4)+1)))]) (tn x1) 10 [(.int (w64 ((w64 ((gn r4)+1))+1)))]) (tn x1) 11 [(.int (w64 ((w64 ((w64 ((gn r4)+1))+1))+1)))]) (tn x1) 12 [(List.headD (List.drop 1 r5) (.int 0))]) (tn x1) 13 [(.int (gn r5))]) (tn x1) 14 [(.int (w64 ((gn r5)+1)))]) (tn x1) 15 [(List.headD (List.drop 1 r6) (.int 0))]) (tn x1) 16 [(.int (gn r6))])))then(bif(inR x1 (lenI (updR (updR (updR (updR (updR (updR (updR (updR (updR (updR (updR (updR (updR (updR (updR (updR (updR (updR x2 (tn x1) 0 [(.int x0)]) (tn x1) 1 [(.int (w64 (x0+1)))]) (tn x1) 2 [(List.headD (List.drop 1 r0) (.int 0))]) (tn x1) 3 [(.int (gn r0))]) (tn x1) 4 [(List.headD (List.drop 1 r1) (.int 0))]) (tn x1) 5 [(List.headD (List.drop 1 r2) (.int 0))]) (tn x1) 6 [(List.headD (List.drop 1 r3) (.int 0))]) (tn x1) 7 [(List.headD (List.drop 1 r4) (.int 0))]) (tn x1) 8 [(.int (gn r4))]) (tn x1) 9 [(.int (w64 ((gn r4)+1)))]) (tn x1) 10 [(.int (w64 ((w64 ((gn r4)+1))+1)))]) (tn x1) 11 [(.int (w64 ((w64 ((w64 ((gn r4)+1))+1))+1)))]) (tn x1) 12 [(List.headD (List.drop 1 r5) (.int 0))]) (tn x1) 13 [(.int (gn r5))]) (tn x1) 14 [(.int (w64 ((gn r5)+1)))]) (tn x1) 15 [(List.headD (List.drop 1 r6) (.int 0))]) (tn x1) 16 [(.int (gn r6))]) (tn x1) 17 [(.bool (eqI (Int.tmod (w64 ((gn r6)+1)) 3) 0))])))then(((callI tE Z5m [(List.getD (at' (updR (updR (updR (updR (updR (updR (updR (updR (updR (updR (updR (updR (updR (updR (updR (updR (updR (updR x2 (tn x1) 0 [(.int x0)]) (tn x1) 1 [(.int (w64 (x0+1)))]) (tn x1) 2 [(List.headD (List.drop 1 r0) (.int 0))]) (tn x1) 3 [(.int (gn r0))]) (tn x1) 4 [(List.headD (List.drop 1 r1) (.int 0))]) (tn x1) 5 [(List.headD (List.drop 1 r2) (.int 0))]) (tn x1) 6 [(List.headD (List.drop 1 r3) (.int 0))]) (tn x1) 7 [(List.headD (List.drop 1 r4) (.int 0))]) (tn x1) 8 [(.int (gn r4))]) (tn x1) 9 [(.int (w64 ((gn r4)+1)))]) (tn x1) 10 [(.int (w64 ((w64 ((gn r4)+1))+1)))]) (tn x1) 11 [(.int (w64 ((w64 ((w64 ((gn r4)+1))+1))+1)))]) (tn x1) 12 [(List.headD (List.drop 1 r5) (.int 0))]) (tn x1) 13 [(.int (gn r5))]) (tn x1) 14 [(.int (w64 ((gn r5)+1)))]) (tn x1) 15 [(List.headD (List.drop 1 r6) (.int 0))]) (tn x1) 16 [(.int (gn r6))]) (tn x1) 17 [(.bool (eqI (Int.tmod (w64 ((gn r6)+1)) 3) 0))]) (tn x1)) 18 (.int 0)),(.int (w64 ((w64 ((gn r6)+1))+1)))])).bind (fun r7=>(bif(inR x1 (lenI (updR (updR (updR (updR (updR (updR (updR (updR (updR (updR (updR (updR (updR (updR (updR (updR (updR (updR (updR x2 (tn x1) 0 [(.int x0)]) (tn x1) 1 [(.int (w64 (x0+1)))]) (tn x1) 2 [(List.headD (List.drop 1 r0) (.int 0))]) (tn x1) 3 [(.int (gn r0))]) (tn x1) 4 [(List.headD (List.drop 1 r1) (.int 0))]) (tn x1) 5 [(List.headD (List.drop 1 r2) (.int 0))]) (tn x1) 6 [(List.headD (List.drop 1 r3) (.int 0))]) (tn x1) 7 [(List.headD (List.drop 1 r4) (.int 0))]) (tn x1) 8 [(.int (gn r4))]) (tn x1) 9 [(.int (w64 ((gn r4)+1)))]) (tn x1) 10 [(.int (w64 ((w64 ((gn r4)+1))+1)))]) (tn x1) 11 [(.int (w64 ((w64 ((w64 ((gn r4)+1))+1))+1)))]) (tn x1) 12 [(List.headD (List.drop 1 r5) (.int 0))]) (tn x1) 13 [(.int (gn r5))]) (tn x1) 14 [(.int (w64 ((gn r5)+1)))]) (tn x1) 15 [(List.headD (List.drop 1 r6) (.int 0))]) (tn x1) 16 [(.int (gn r6))]) (tn x1) 17 [(.bool (eqI (Int.tmod (w64 ((gn r6)+1)) 3) 0))]) (tn x1) 18 [(List.headD (List.drop 1 r7) (.int 0))])))then(((callI tE Z8z [(List.getD (at' (updR (updR (updR (updR (updR (updR (updR (updR (updR (updR (updR (updR (updR (updR (updR (updR (updR (updR (updR x2 (tn x1) 0 [(.int x0)]) (tn x1) 1 [(.int (w64 (x0+1)))]) (tn x1) 2 [(List.headD (List.drop 1 r0) (.int 0))]) (tn x1) 3 [(.int (gn r0))]) (tn x1) 4 [(List.headD (List.drop 1 r1) (.int 0))]) (tn x1) 5 [(List.headD (List.drop 1 r2) (.int 0))]) (tn x1) 6 [(List.headD (List.drop 1 r3) (.int 0))]) (tn x1) 7 [(List.headD (List.drop 1 r4) (.int 0))]) (tn x1) 8 [(.int (gn r4))]) (tn x1) 9 [(.int (w64 ((gn r4)+1)))]) (tn x1) 10 [(.int (w64 ((w64 ((gn r4)+1))+1)))]) (tn x1) 11 [(.int (w64 ((w64 ((w64 ((gn r4)+1))+1))+1)))]) (tn x1) 12 [(List.headD (List.drop 1 r5) (.int 0))]) (tn x1) 13 [(.int (gn r5))]) (tn x1) 14 [(.int (w64 ((gn r5)+1)))]) (tn x1) 15 [(List.headD (List.drop 1 r6) (.int 0))]) (tn x1) 16 [(.int (gn r6))]) (tn x1) 17 [(.bool (eqI (Int.tmod (w64 ((gn r6)+1)) 3) 0))]) (tn x1) 18 [(List.headD (List.drop 1 r7) (.int 0))]) (tn x1)) 19 (.int 0)),(.int (gn r7))])).bind (fun r8=>(bif(inR x1 (lenI (updR (updR (updR (updR (updR (updR (updR (updR (updR (updR (updR (updR (updR (updR (updR (updR (updR (updR (updR (updR x2 (tn x1) 0 [(.int x0)]) (tn x1) 1 [(.int (w64 (x0+1)))]) (tn x1) 2 [(List.headD (List.drop 1 r0) (.int 0))]) (tn x1) 3 [(.int (gn r0))]) (tn x1) 4 [(List.headD (List.drop 1 r1) (.int 0))]) (tn x1) 5 [(List.headD (List.drop 1 r2) (.int 0))]) (tn x1) 6 [(List.headD (List.drop 1 r3) (.int 0))]) (tn x1) 7 [(List.headD (List.drop 1 r4) (.int 0))]) (tn x1) 8 [(.int (gn r4))]) (tn x1) 9 [(.int (w64 ((gn r4)+1)))]) (tn x1) 10 [(.int (w64 ((w64 ((gn r4)+1))+1)))]) (tn x1) 11 [(.int (w64 ((w64 ((w64 ((gn r4)+1))+1))+1)))]) (tn x1) 12 [(List.headD (List.drop 1 r5) (.int 0))]) (tn x1) 13 [(.int (gn r5))]) (tn x1) 14 [(.int (w64 ((gn r5)+1)))]) (tn x1) 15 [(List.headD (List.drop 1 r6) (.int 0))]) (tn x1) 16 [(.int (gn r6))]) (tn x1) 17 [(.bool (eqI (Int.tmod (w64 ((gn r6)+1)) 3) 0))]) (tn x1) 18 [(List.headD (List.drop 1 r7) (.int 0))]) (tn x1) 19 [(List.headD (List.drop 1 r8) (.int 0))])))then(((callI tE Z8P [(List.getD (at' (updR (updR (updR (updR (updR (updR (updR (updR (updR (updR (updR (updR (updR (updR (updR (updR (updR (updR (updR (updR x2 (tn x1) 0 [(.int x0)]) (tn x1) 1 [(.int (w64 (x0+1)))]) (tn x1) 2 [(List.headD (List.drop 1 r0) (.int 0))]) (tn x1) 3 [(.int (gn r0))]) (tn x1) 4 [(List.headD (List.drop 1 r1) (.int 0))]) (tn x1) 5 [(List.headD (List.drop 1 r2) (.int 0))]) (tn x1) 6 [(List.headD (List.drop 1 r3) (.int 0))]) (tn x1) 7 [(List.headD (List.drop 1 r4) (.int 0))]) (tn x1) 8 [(.int (gn r4))]) (tn x1) 9 [(.int (w64 ((gn r4)+1)))]) (tn x1) 10 [(.int (w64 ((w64 ((gn r4)+1))+1)))]) (tn x1) 11 [(.int (w64 ((w64 ((w64 ((gn r4)+1))+1))+1)))]) (tn x1) 12 [(List.headD (List.drop 1 r5) (.int 0))]) (tn x1) 13 [(.int (gn r5))]) (tn x1) 14 [(.int (w64 ((gn r5)+1)))]) (tn x1) 15 [(List.headD (List.drop 1 r6) (.int 0))]) (tn x1) 16 [(.int (gn r6))]) (tn x1) 17 [(.bool (eqI (Int.tmod (w64 ((gn r6)+1)) 3) 0))]) (tn x1) 18 [(List.headD (List.drop 1 r7) (.int 0))]) (tn x1) 19 [(List.headD (List.drop 1 r8) (.int 0))]) (tn x1)) 20 (.int 0)),(.int (gn r8))])).bind (fun r9=>(bif(inR x1 (lenI (updR (updR (updR (updR (updR (updR (updR (updR (updR (updR (updR (updR (updR (updR (updR (updR (updR (updR (updR (updR (updR x2 (tn x1) 0 [(.int x0)]) (tn x1) 1 [(.int (w64 (x0+1)))]) (tn x1) 2 [(List.headD (List.drop 1 r0) (.int 0))]) (tn x1) 3 [(.int (gn r0))]) (tn x1) 4 [(List.headD (List.drop 1 r1) (.int 0))]) (tn x1) 5 [(List.headD (List.drop 1 r2) (.int 0))]) (tn x1) 6 [(List.headD (List.drop 1 r3) (.int 0))]) (tn x1) 7 [(List.headD (List.drop 1 r4) (.int 0))]) (tn x1) 8 [(.int (gn r4))]) (tn x1) 9 [(.int (w64 ((gn r4)+1)))]) (tn x1) 10 [(.int (w64 ((w64 ((gn r4)+1))+1)))]) (tn x1) 11 [(.int (w64 ((w64 ((w64 ((gn r4)+1))+1))+1)))]) (tn x1) 12 [(List.headD (List.drop 1 r5) (.int 0))]) (tn x1) 13 [(.int (gn r5))]) (tn x1) 14 [(.int (w64 ((gn r5)+1)))]) (tn x1) 15 [(List.headD (List.drop 1 r6) (.int 0))]) (tn x1) 16 [(.int (gn r6))]) (tn x1) 17 [(.bool (eqI (Int.tmod (w64 ((gn r6)+1)) 3) 0))]) (tn x1) 18 [(List.headD (List.drop 1 r7) (.int 0))]) (tn x1) 19 [(List.headD (List.drop 1 r8) (.int 0))]) (tn x1) 20 [(List.headD (List.drop 1 r9) (.int 0))])))then(Z8B (w64 ((gn r9)+1)) (w64 (x1+1)) (updR (updR (updR (updR (updR (updR (updR (updR (updR (updR (updR (updR (updR (updR (updR (updR (updR (updR (updR (updR (updR (updR x2 (tn x1) 0 [(.int x0)]) (tn x1) 1 [(.int (w64 (x0+1)))]) (tn x1) 2 [(List.headD (List.drop 1 r0) (.int 0))]) (tn x1) 3 [(.int (gn r0))]) (tn x1) 4 [(List.headD (List.drop 1 r1) (.int 0))]) (tn x1) 5 [(List.headD (List.drop 1 r2) (.int 0))]) (tn x1) 6 [(List.headD (List.drop 1 r3) (.int 0))]) (tn x1) 7 [(List.headD (List.drop 1 r4) (.int 0))]) (tn x1) 8 [(.int (gn r4))]) (tn x1) 9 [(.int (w64 ((gn r4)+1)))]) (tn x1) 10 [(.int (w64 ((w64 ((gn r4)+1))+1)))]) (tn x1) 11 [(.int (w64 ((w64 ((w64 ((gn r4)+1))+1))+1)))]) (tn x1) 12 [(List.headD (List.drop 1 r5) (.int 0))]) (tn x1) 13 [(.int (gn r5))]) (tn x1) 14 [(.int (w64 ((gn r5)+1)))]) (tn x1) 15 [(List.headD (List.drop 1 r6) (.int 0))]) (tn x1) 16 [(.int (gn r6))]) (tn x1) 17 [(.bool (eqI (Int.tmod (w64 ((gn r6)+1)) 3) 0))]) (tn x1) 18 [(List.headD (List.drop 1 r7) (.int 0))]) (tn x1) 19 [(List.headD (List.drop 1 r8) (.int 0))]) (tn x1) 20 [(List.headD (List.drop 1 r9) (.int 0))]) (tn x1) 21 [(.bool (eqI (Int.tmod (gn r9) 3) 0))]))else none)))else none)))else none)))else none)else none)else none)))else none)else none)else none)))else none)else none)else none)else none)else none)))else none)))else none)))else none)))else none)else none)))else none)else none)else none)else(some [(.int x0),(.sl x2)])):=(loopK_run (by kernel_rfl)).trans (by kernel_rfl)
theorem ZEY (a0:Rows) (a1:Int):callI tE Z91 [.sl a0,.int a1]=(Z8B a1 0 a0):=(callI_run rfl (by kernel_rfl)).trans (by kernel_rfl)
theorem ZE1 (a0 a1:Int) (a2 a3 a4:Rows) (a5 a6:Int):callI tE Z7Z [.int a0,.int a1,.sl a2,.sl a3,.sl a4,.int a5,.int a6]=(((callI tE ZA4 [(.int a0),(.int a1),(.sl a2),(.sl a3),(.int a6)])).bind (fun r0=>(((callI tE Z91 [(.sl a4),(.int (gn r0))])).bind (fun r1=>(some [(.int (gn r1)),(.sl (gl (List.drop 1 r0))),(.sl (gl (tk 1 (List.drop 1 r0)))),(.sl (gl (List.drop 1 r1)))]))))):=(callI_run rfl (by kernel_rfl)).trans (by kernel_rfl)
noncomputable def Z7U (x0:Rows) (x1 x2:Int):Option (List Dat):=loopK tE Z72 0 ⟨[(0,(.ro 177 Bool.false x0)),(1,(.i .i64 x1)),(5,(.i .i64 x2))],[]⟩
theorem Z9w (x0:Rows) (x1 x2:Int):Z7U x0 x1 x2=(bif(ltI x2 (lenI x0))then(bif(inR x2 (lenI x0))then(bif(!(eqI (gn (at' x0 (tn x2))) x1))then(some [(.int (-1))])else(bif(inR x2 (lenI x0))then(bif(!(eqI (gn (List.drop 1 (at' x0 (tn x2)))) (w64 (x1+1))))then(some [(.int (-1))])else(bif(inR x2 (lenI x0))then(bif(!(eqI (gn (List.drop 2 (at' x0 (tn x2)))) (w64 ((w64 (x1+1))+1))))then(some [(.int (-1))])else(Z7U x0 (w64 ((w64 ((w64 (x1+1))+1))+1)) (w64 (x2+1))))else none))else none))else none)else(some [(.int x1)])):=(loopK_run (by kernel_rfl)).trans (by kernel_rfl)
theorem ZDl (a0:Rows) (a1:Int):callI tE Z72 [.sl a0,.int a1]=(Z7U a0 a1 0):=(callI_run rfl (by kernel_rfl)).trans (by kernel_rfl)
theorem ZE2 (a0 a1:Int) (a2 a3:Rows) (a4:Int):callI tE ZA7 [.int a0,.int a1,.sl a2,.sl a3,.int a4]=(((callI tE Z72 [(.sl a2),(.int a4)])).bind (fun r0=>(bif(ltI (gn r0) 0)then(some [(.int (-1))])else(((callI tE Z72 [(.sl a3),(.int (gn r0))])).bind (fun r1=>(bif(ltI (gn r1) 0)then(some [(.int (-1))])else(some [(.int (gn r1))]))))))):=(callI_run rfl (by kernel_rfl)).trans (by kernel_rfl)
noncomputable def Z8C (x0:Rows) (x1 x2:Int):Option (List Dat):=loopK tE Z95 0 ⟨[(0,(.ro 91 Bool.false x0)),(1,(.i .i64 x1)),(5,(.i .i64 x2))],[]⟩
theorem ZAn (x0:Rows) (x1 x2:Int):Z8C x0 x1 x2=(bif(ltI x2 (lenI x0))then(bif(inR x2 (lenI x0))then(bif(!(eqI (gn (at' x0 (tn x2))) x1))then(some [(.int (-1))])else(bif(inR x2 (lenI x0))then(bif(!(eqI (gn (List.drop 1 (at' x0 (tn x2)))) (w64 (x1+1))))then(some [(.int (-1))])else(bif(inR x2 (lenI x0))then(((callI tE Z5t [(.sl (gl (List.drop 2 (at' x0 (tn x2))))),(.int (w64 ((w64 (x1+1))+1)))])).bind (fun r0=>(bif(ltI (gn r0) 0)then(some [(.int (-1))])else(bif(inR x2 (lenI x0))then(bif(!(eqI (gn (List.drop 3 (at' x0 (tn x2)))) (gn r0)))then(some [(.int (-1))])else(bif(inR x2 (lenI x0))then(((callI tE Z5t [(.sl (gl (List.drop 4 (at' x0 (tn x2))))),(.int (w64 ((gn r0)+1)))])).bind (fun r1=>(bif(ltI (gn r1) 0)then(some [(.int (-1))])else(bif(inR x2 (lenI x0))then(((callI tE Z5t [(.sl (gl (List.drop 5 (at' x0 (tn x2))))),(.int (gn r1))])).bind (fun r2=>(bif(ltI (gn r2) 0)then(some [(.int (-1))])else(bif(inR x2 (lenI x0))then(((callI tE Z5t [(.sl (gl (List.drop 6 (at' x0 (tn x2))))),(.int (gn r2))])).bind (fun r3=>(bif(ltI (gn r3) 0)then(some [(.int (-1))])else(bif(inR x2 (lenI x0))then(((callI tE Z9k [(.sl (gl (List.drop 7 (at' x0 (tn x2))))),(.int (gn r3))])).bind (fun r4=>(bif(ltI (gn r4) 0)then(some [(.int (-1))])else(bif(inR x2 (lenI x0))then(bif(!(eqI (gn (List.drop 8 (at' x0 (tn x2)))) (gn r4)))then(some [(.int (-1))])else(bif(inR x2 (lenI x0))then(bif(!(eqI (gn (List.drop 9 (at' x0 (tn x2)))) (w64 ((gn r4)+1))))then(some [(.int (-1))])else(bif(inR x2 (lenI x0))then(bif(!(eqI (gn (List.drop 10 (at' x0 (tn x2)))) (w64 ((w64 ((gn r4)+1))+1))))then(some [(.int (-1))])else(bif(inR x2 (lenI x0))then(bif(!(eqI (gn (List.drop 11 (at' x0 (tn x2)))) (w64 ((w64 ((w64 ((gn r4)+1))+1))+1))))then(some [(.int (-1))])else(bif(inR x2 (lenI x0))then(((callI tE Z94 [(.sl (gl (List.drop 12 (at' x0 (tn x2))))),(.int (w64 ((w64 ((w64 ((w64 ((gn r4)+1))+1))+1))+1)))])).bind (fun r5=>(bif(ltI (gn r5) 0)then(some [(.int (-1))])else(bif(inR x2 (lenI x0))then(bif(!(eqI (gn (List.drop 13 (at' x0 (tn x2)))) (gn r5)))then(some [(.int (-1))])else(bif(inR x2 (lenI x0))then(bif(!(eqI (gn (List.drop 14 (at' x0 (tn x2)))) (w64 ((gn r5)+1))))then(some [(.int (-1))])else(bif(inR x2 (lenI x0))then(((callI tE Z73 [(.sl (gl (List.drop 15 (at' x0 (tn x2))))),(.int (w64 ((w64 ((gn r5)+1))+1)))])).bind (fun r6=>(bif(ltI (gn r6) 0)then(some [(.int (-1))])else(bif(inR x2 (lenI x0))then(bif(!(eqI (gn (List.drop 16 (at' x0 (tn x2)))) (gn r6)))then(some [(.int (-1))])else(bif(inR x2 (lenI x0))then(bif(!(eqBo (gb (List.drop 17 (at' x0 (tn x2)))) (eqI (Int.tmod (w64 ((gn r6)+1)) 3) 0)))then(some [(.int (-1))])else(bif(inR x2 (lenI x0))then(((callI tE Z5t [(.sl (gl (List.drop 18 (at' x0 (tn x2))))),(.int (w64 ((w64 ((gn r6)+1))+1)))])).bind (fun r7=>(bif(ltI (gn r7) 0)then(some [(.int (-1))])else(bif(inR x2 (lenI x0))then(((callI tE Z92 [(.sl (gl (List.drop 19 (at' x0 (tn x2))))),(.int (gn r7))])).bind (fun r8=>(bif(ltI (gn r8) 0)then(some [(.int (-1))])else(bif(inR x2 (lenI x0))then(((callI tE Z8Q [(.sl (gl (List.drop 20 (at' x0 (tn x2))))),(.int (gn r8))])).bind (fun r9=>(bif(ltI (gn r9) 0)then(some [(.int (-1))])else(bif(inR x2 (lenI x0))then(bif(!(eqBo (gb (List.drop 21 (at' x0 (tn x2)))) (eqI (Int.tmod (gn r9) 3) 0)))then(some [(.int (-1))])else(Z8C x0 (w64 ((gn r9)+1)) (w64 (x2+1))))else none))))else none))))else none))))else none))else none))else none))))else none))else none))else none))))else none))else none))else none))else none))else none))))else none))))else none))))else none))))else none))else none))))else none))else none))else none)else(some [(.int x1)])):=(loopK_run (by kernel_rfl)).trans (by kernel_rfl)
theorem ZEZ (a0:Rows) (a1:Int):callI tE Z95 [.sl a0,.int a1]=(Z8C a0 a1 0):=(callI_run rfl (by kernel_rfl)).trans (by kernel_rfl)
theorem ZE3 (a0 a1:Int) (a2 a3 a4:Rows) (a5 a6:Int):callI tE Z7a [.int a0,.int a1,.sl a2,.sl a3,.sl a4,.int a5,.int a6]=(((callI tE ZA7 [(.int a0),(.int a1),(.sl a2),(.sl a3),(.int a6)])).bind (fun r0=>(bif(ltI (gn r0) 0)then(some [(.int (-1))])else(((callI tE Z95 [(.sl a4),(.int (gn r0))])).bind (fun r1=>(bif(ltI (gn r1) 0)then(some [(.int (-1))])else(some [(.int (gn r1))]))))))):=(callI_run rfl (by kernel_rfl)).trans (by kernel_rfl)
theorem ZE4 (a0 a1 a2 a3:Int):callI tE ZC4 [.int a0,.int a1,.int a2,.int a3]=(some [(.bool (eqI a0 a3)),(.int a3)]):=(callI_run rfl (by kernel_rfl)).trans (by kernel_rfl)
set_option maxRecDepth 10000
def So.zero:So:=⟨[],0,[],[],[],[],0,0,0,0⟩
def Jn.zero:Jn:=⟨[],0,0⟩
def Ag.zero:Ag:=⟨[],0,false⟩
def Tk.zero:Tk:=⟨0,[],[],[],0⟩
def Opr.zero:Opr:=⟨0,So.zero,Jn.zero,Ag.zero⟩
theorem ZLH (k:Int):callI tE Z7w [.int k]=some [.bool (win k 1 4)]:=by
 simp only[ZCX,Z7D,gA]
theorem ZLI (k:Int):callI tE Z7v [.int k]=some [.bool (win k 1 4)]:=by
 simp only[ZCW,ZAA,gA]
def ZCV (x:Opr):Bool:=bif eqI x.kind 1 then eqI x.so.ph 4 else bif eqI x.kind 2 then eqI x.jn.pend.length 0 else bif eqI x.kind 3 then eqI x.ag.pend.length 0 else true
theorem ZH2 (x:Opr):callI tE Z8F x.e=some [.bool (ZCV x)]:=by
 simp only[Opr.e]
 rw[ZFC,Z5V,Z5V]
 unfold ZCV
 cases eqI x.kind 1<;>cases eqI x.kind 2<;>cases eqI x.kind 3<;>rfl
theorem ZH3 (x:Opr):callI tE Z8D x.e=some [.bool (ZCV x)]:=by
 simp only[Opr.e]
 rw[ZF8,Z5V,Z5V]
 unfold ZCV
 cases eqI x.kind 1<;>cases eqI x.kind 2<;>cases eqI x.kind 3<;>rfl
theorem ZJH (t:Tk):callI tE Z9e [.int t.kind,.sl (t.left.map Rw.e),.sl (t.right.map Rw.e),.sl (t.mat.map boE),.int t.level]=some [.bool (ZJt t)]:=by
 rw[ZDe]
 simp only[ZLH,ZDT,Z7D,Z5V,gA]
 unfold ZJt
 cases win t.kind 1 4
 ·rfl
 ·cases aok t.left
  ·rfl
  ·cases aok t.right
   ·rfl
   ·cases eqI (t.mat.length:Nat) (t.left.length:Nat)<;>rfl
theorem ZJI (t:Tk) (h:t.sz≤1073741824):callI tE Z9a [.int t.kind,.sl (t.left.map Rw.e),.sl (t.right.map Rw.e),.sl (t.mat.map boE),.int t.level]=some [.bool (ZJt t)]:=by
 unfold Tk.sz at h
 rw[ZDc]
 simp only[ZLI,ZCf t.left (by omega),ZCf t.right (by omega),ZAA,Z5V,gA]
 unfold ZJt
 cases win t.kind 1 4
 ·rfl
 ·cases aok t.left
  ·rfl
  ·cases aok t.right
   ·rfl
   ·cases eqI (t.mat.length:Nat) (t.left.length:Nat)<;>rfl
theorem ZCR (u v:List Tk):Z6M (u++v)=Z6M u+Z6M v:=by simp[Z6M]
theorem ZBt (u v:List Tk):Z5v (u++v)=Z5v u+Z5v v:=by simp[Z5v]
theorem ZE5:∀l:List Tk,Z6M l≤szL Tk.sz l
 |[]=>Nat.le_refl _
 |a::l=>by
  have:=ZE5 l
  simp only[Z6M,List.map_cons,List.sum_cons,szL,Tk.sz]at*
  omega
theorem ZDK:∀l:List Tk,Z5v l≤szL Tk.sz l
 |[]=>Nat.le_refl _
 |a::l=>by
  have:=ZDK l
  simp only[Z5v,List.map_cons,List.sum_cons,szL,Tk.sz]at*
  omega
def Jn.B2 (j:Jn):Prop:=j.sz≤1073741800
def ZD2 (l:List Tk) (t:Tk):Bool:=ZJt t&&decide (t.kind=(l.headD tkZ).kind)
def ZIW (l:List Tk):Bool:=l.all (ZD2 l)
theorem ZIX (j:Jn):ZL8 j=(decide (j.pend.length≤40)&&(win j.wr 0 100000&&(win j.parts 0 1000&&(ZIW j.pend&&(decide (Z6M j.pend≤24)&&decide (Z5v j.pend≤24)))))):=rfl
theorem ZHy (n:Nat):leI (n:Int) 24=decide (n≤24):=by unfold leI;congr 1;apply propext;omega
theorem ZKB (n:Nat):leI (n:Int) 40=decide (n≤40):=by unfold leI;congr 1;apply propext;omega
theorem ZJu {l:List Tk} (h:0<l.length):at' (l.map Tk.e) (tn 0)=(l.headD tkZ).e:=by
 cases l with
 |nil=>simp at h
 |cons a l=>rfl
theorem ZJJ (j:Jn) (h:j.B2):callI tE Z7P [.sl (j.pend.map Tk.e),.int j.wr,.int j.parts]=some [.bool (ZL8 j)]:=by
 have hl:=Z63 Tk.sz j.pend
 have hL:=ZE5 j.pend
 have hR:=ZDK j.pend
 have hsz:szL Tk.sz j.pend≤1073741800:=h
 rw[ZCw,ZIX]
 simp only[Z7D,Z5V,gA]
 by_cases h40:j.pend.length≤40
 ·rw[ltF (by omega),cond_false,decide_eq_true h40]
  cases win j.wr 0 100000
  ·rfl
  ·cases win j.parts 0 1000
   ·rfl
   ·simp only[Bool.not_true,cond_false,Bool.true_and]
    refine(Z98 (l:=j.pend) (L:=fun(s:Nat×Nat) i=>Z5k 0 (s.1:Nat) (s.2:Nat) (j.pend.map Tk.e) (j.pend.length:Nat) i (j.pend.map Tk.e) j.wr j.parts) (F:=fun s v=>some [.bool (v.all (ZD2 j.pend)&&(decide (s.1+Z6M v≤24)&&decide (s.2+Z5v v≤24)))]) (I:=fun s u _=>s=(Z6M u,Z5v u)) (by omega) (fun u a v s e hI=>?_) (fun s hs=>?_) (0,0) rfl).trans ?_
    ·have hul:u.length<j.pend.length:=by rw[e];simp
     have hat:at' (j.pend.map Tk.e) u.length=a.e:=ZDs e rfl
     have h1:Z6M u+a.left.length≤1073741800:=by
      rw[e,ZCR]at hL;simp only[Z6M,List.map_cons,List.sum_cons]at hL⊢;rw[e]at hsz;omega
     have h2:Z5v u+a.right.length≤1073741800:=by
      rw[e,ZBt]at hR;simp only[Z5v,List.map_cons,List.sum_cons]at hR⊢;rw[e]at hsz;omega
     subst hI
     have step:Z5k 0 (Z6M u:Nat) (Z5v u:Nat) (j.pend.map Tk.e) (j.pend.length:Nat) (u.length:Nat) (j.pend.map Tk.e) j.wr j.parts=bif ZD2 j.pend a then Z5k 0 ((Z6M u+a.left.length:Nat):Int) ((Z5v u+a.right.length:Nat):Int) (j.pend.map Tk.e) (j.pend.length:Nat) (w64 (u.length+1)) (j.pend.map Tk.e) j.wr j.parts else some [.bool false]:=by
      rw[Z8q,ltT (by omega),cond_true,Z5V,ZFc (by omega) (by omega),cond_true,ZFc (by omega) (by omega),cond_true,ZJu (by omega)]
      simp only[Z6v,hat,Tk.e,gA,ZJH,Z5V]
      unfold ZD2
      rw[Z5W ⟨by omega,by omega⟩,Z5W ⟨by omega,by omega⟩]
      cases ZJt a
      ·rfl
      ·simp only[Bool.not_true,cond_false,Bool.true_and,ZGk]
       rfl
     cases hp:ZD2 j.pend a with
     |true=>
      refine .inl ⟨(Z6M u+a.left.length,Z5v u+a.right.length),?_,?_,?_⟩
      ·show Z5k _ _ _ _ _ _ _ _ _=Z5k _ _ _ _ _ _ _ _ _
       rw[step,hp];rfl
      ·rw[ZCR,ZBt];simp[Z6M,Z5v]
      ·simp only[List.all_cons,hp,Bool.true_and,Z6M,Z5v,List.map_cons,List.sum_cons,Nat.add_assoc]
     |false=>
      refine .inr ?_
      show Z5k _ _ _ _ _ _ _ _ _=_
      rw[step,hp]
      simp[hp]
    ·show Z5k _ _ _ _ _ _ _ _ _=_
     subst hs
     rw[Z8q,ltF (Int.le_refl _),cond_false,ZHy,ZHy]
     simp only[List.all_nil,Bool.true_and,show Z6M []=0 from rfl,show Z5v []=0 from rfl,Nat.add_zero]
     cases decide (Z6M j.pend≤24)<;>rfl
    ·simp only[Nat.zero_add];rfl
 ·rw[ltT (by omega),cond_true,decide_eq_false h40];rfl
theorem ZJK (j:Jn) (h:j.B2):callI tE Z7M [.sl (j.pend.map Tk.e),.int j.wr,.int j.parts]=some [.bool (ZL8 j)]:=by
 have hl:=Z63 Tk.sz j.pend
 have hL:=ZE5 j.pend
 have hR:=ZDK j.pend
 have hsz:szL Tk.sz j.pend≤1073741800:=h
 rw[ZCv,ZIX]
 refine(Z98 (l:=j.pend) (L:=fun(s:Nat×Nat) i=>Z5j 0 (s.1:Nat) (s.2:Nat) i (j.pend.map Tk.e) j.wr j.parts) (F:=fun s v=>some [.bool (v.all (ZD2 j.pend)&&(decide (s.1+Z6M v≤24)&&(decide (s.2+Z5v v≤24)&&(decide (j.pend.length≤40)&&(win j.wr 0 100000&&win j.parts 0 1000)))))]) (I:=fun s u _=>s=(Z6M u,Z5v u)) (by omega) (fun u a v s e hI=>?_) (fun s hs=>?_) (0,0) rfl).trans ?_
 ·have hul:u.length<j.pend.length:=by rw[e];simp
  have hat:at' (j.pend.map Tk.e) u.length=a.e:=ZDs e rfl
  have hasz:a.sz≤1073741824:=Nat.le_trans (Z8K (f:=Tk.sz) (show a∈j.pend by rw[e];simp)) (by omega)
  have h1:Z6M u+a.left.length≤1073741800:=by
   rw[e,ZCR]at hL;simp only[Z6M,List.map_cons,List.sum_cons]at hL⊢;rw[e]at hsz;omega
  have h2:Z5v u+a.right.length≤1073741800:=by
   rw[e,ZBt]at hR;simp only[Z5v,List.map_cons,List.sum_cons]at hR⊢;rw[e]at hsz;omega
  subst hI
  have step:Z5j 0 (Z6M u:Nat) (Z5v u:Nat) (u.length:Nat) (j.pend.map Tk.e) j.wr j.parts=bif ZD2 j.pend a then Z5j 0 ((Z6M u+a.left.length:Nat):Int) ((Z5v u+a.right.length:Nat):Int) (w64 (u.length+1)) (j.pend.map Tk.e) j.wr j.parts else some [.bool false]:=by
   rw[Z8p,Z5V,ltT (by omega),cond_true,ZFc (by omega) (by omega),cond_true,ZFc (by omega) (by omega),ZJu (by omega)]
   simp only[Z6v,hat,Tk.e,gA,ZJI a hasz,Z5V,cond_true]
   unfold ZD2
   rw[Z5W ⟨by omega,by omega⟩,Z5W ⟨by omega,by omega⟩]
   cases ZJt a
   ·rfl
   ·simp only[Bool.not_true,cond_false,Bool.true_and,ZGk]
    rfl
  cases hp:ZD2 j.pend a with
  |true=>
   refine .inl ⟨(Z6M u+a.left.length,Z5v u+a.right.length),?_,?_,?_⟩
   ·show Z5j _ _ _ _ _ _ _=Z5j _ _ _ _ _ _ _
    rw[step,hp];rfl
   ·rw[ZCR,ZBt];simp[Z6M,Z5v]
   ·simp only[List.all_cons,hp,Bool.true_and,Z6M,Z5v,List.map_cons,List.sum_cons,Nat.add_assoc]
  |false=>
   refine .inr ?_
   show Z5j _ _ _ _ _ _ _=_
   rw[step,hp]
   simp[hp]
 ·show Z5j _ _ _ _ _ _ _=_
  subst hs
  rw[Z8p,Z5V,ltF (Int.le_refl _),cond_false,ZHy,ZHy,ZKB]
  simp only[ZAA,gA,List.all_nil,Bool.true_and,show Z6M []=0 from rfl,show Z5v []=0 from rfl,Nat.add_zero]
  cases decide (Z6M j.pend≤24)
  ·rfl
  ·cases decide (Z5v j.pend≤24)
   ·rfl
   ·cases decide (j.pend.length≤40)
    ·rfl
    ·cases win j.wr 0 100000<;>rfl
 ·simp only[Nat.zero_add,ZIW]
  cases j.pend.all (ZD2 j.pend)<;>cases decide (Z6M j.pend≤24)<;>cases decide (Z5v j.pend≤24)<;>cases decide (j.pend.length≤40)<;>cases win j.wr 0 100000<;>cases win j.parts 0 1000<;>rfl
theorem ZCs (u v:List Gt):Z6m (u++v)=Z6m u+Z6m v:=by simp[Z6m]
theorem ZFP:∀l:List Gt,Z6m l≤szL Gt.sz l
 |[]=>Nat.le_refl _
 |a::l=>by
  have:=ZFP l
  simp only[Z6m,List.map_cons,List.sum_cons,szL,Gt.sz]at*
  omega
def Ag.B2 (j:Ag):Prop:=j.sz≤1073741800
def ZJ5 (t:Gt):Bool:=aok t.rows&&win t.level 0 4
theorem ZIY (a:Ag):ZL9 a=(a.pend.all ZJ5&&(decide (a.pend.length≤40)&&(decide (Z6m a.pend≤24)&&win a.wr 0 100000))):=rfl
theorem ZJL (j:Ag) (h:j.B2):callI tE Z6h [.sl (j.pend.map Gt.e),.int j.wr,.bool j.early]=some [.bool (ZL9 j)]:=by
 have hl:=Z63 Gt.sz j.pend
 have hL:=ZFP j.pend
 have hsz:szL Gt.sz j.pend≤1073741800:=h
 rw[ZCB,ZIY,Z5V]
 refine(Z98 (l:=j.pend) (L:=fun(s:Nat) i=>Z5a 0 (s:Nat) (j.pend.map Gt.e) (j.pend.length:Nat) i (j.pend.map Gt.e) j.wr j.early) (F:=fun s v=>some [.bool (v.all ZJ5&&(decide (j.pend.length≤40)&&(decide (s+Z6m v≤24)&&win j.wr 0 100000)))]) (I:=fun s u _=>s=Z6m u) (by omega) (fun u a v s e hI=>?_) (fun s hs=>?_) 0 rfl).trans ?_
 ·have hul:u.length<j.pend.length:=by rw[e];simp
  have hat:at' (j.pend.map Gt.e) u.length=a.e:=ZDs e rfl
  have h1:Z6m u+a.rows.length≤1073741800:=by
   rw[e,ZCs]at hL;simp only[Z6m,List.map_cons,List.sum_cons]at hL⊢;rw[e]at hsz;omega
  subst hI
  have step:Z5a 0 (Z6m u:Nat) (j.pend.map Gt.e) (j.pend.length:Nat) (u.length:Nat) (j.pend.map Gt.e) j.wr j.early=bif ZJ5 a then Z5a 0 ((Z6m u+a.rows.length:Nat):Int) (j.pend.map Gt.e) (j.pend.length:Nat) (w64 (u.length+1)) (j.pend.map Gt.e) j.wr j.early else some [.bool false]:=by
   rw[Z7t,ltT (by omega),cond_true,Z5V,ZFc (by omega) (by omega),cond_true]
   simp only[Z6v,hat,Gt.e,gA,ZDT,Z7D,Z5V]
   unfold ZJ5
   rw[Z5W (n:=(Z6m u:Int)+(a.rows.length:Int)) ⟨by omega,by omega⟩]
   cases aok a.rows
   ·rfl
   ·cases win a.level 0 4<;>rfl
  cases hp:ZJ5 a with
  |true=>
   refine .inl ⟨Z6m u+a.rows.length,?_,?_,?_⟩
   ·show Z5a _ _ _ _ _ _ _ _=Z5a _ _ _ _ _ _ _ _
    rw[step,hp];rfl
   ·rw[ZCs];simp[Z6m]
   ·simp only[List.all_cons,hp,Bool.true_and,Z6m,List.map_cons,List.sum_cons,Nat.add_assoc]
  |false=>
   refine .inr ?_
   show Z5a _ _ _ _ _ _ _ _=_
   rw[step,hp]
   simp[hp]
 ·show Z5a _ _ _ _ _ _ _ _=_
  subst hs
  rw[Z7t,ltF (Int.le_refl _),cond_false,Z5V,ZHy,ZKB]
  simp only[Z7D,gA,List.all_nil,Bool.true_and,show Z6m []=0 from rfl,Nat.add_zero]
  cases decide (j.pend.length≤40)
  ·rfl
  ·cases decide (Z6m j.pend≤24)<;>rfl
 ·simp only[Nat.zero_add]
theorem ZJM (j:Ag) (h:j.B2):callI tE Z6g [.sl (j.pend.map Gt.e),.int j.wr,.bool j.early]=some [.bool (ZL9 j)]:=by
 have hl:=Z63 Gt.sz j.pend
 have hL:=ZFP j.pend
 have hsz:szL Gt.sz j.pend≤1073741800:=h
 rw[ZCA,ZIY]
 refine(Z98 (l:=j.pend) (L:=fun(s:Nat) i=>Z5Z 0 (s:Nat) i (j.pend.map Gt.e) j.wr j.early) (F:=fun s v=>some [.bool (v.all ZJ5&&(decide (s+Z6m v≤24)&&(decide (j.pend.length≤40)&&win j.wr 0 100000)))]) (I:=fun s u _=>s=Z6m u) (by omega) (fun u a v s e hI=>?_) (fun s hs=>?_) 0 rfl).trans ?_
 ·have hul:u.length<j.pend.length:=by rw[e];simp
  have hat:at' (j.pend.map Gt.e) u.length=a.e:=ZDs e rfl
  have hasz:a.rows.length≤1073741824:=Nat.le_trans (Z8K (f:=Gt.sz) (show a∈j.pend by rw[e];simp)) (by omega)
  have h1:Z6m u+a.rows.length≤1073741800:=by
   rw[e,ZCs]at hL;simp only[Z6m,List.map_cons,List.sum_cons]at hL⊢;rw[e]at hsz;omega
  subst hI
  have step:Z5Z 0 (Z6m u:Nat) (u.length:Nat) (j.pend.map Gt.e) j.wr j.early=bif ZJ5 a then Z5Z 0 ((Z6m u+a.rows.length:Nat):Int) (w64 (u.length+1)) (j.pend.map Gt.e) j.wr j.early else some [.bool false]:=by
   rw[Z7s,Z5V,ltT (by omega),cond_true,ZFc (by omega) (by omega),cond_true]
   simp only[Z6v,hat,Gt.e,gA,ZCf a.rows (show a.rows.length<4611686018427387904 by omega),ZAA,Z5V,cond_true]
   unfold ZJ5
   rw[Z5W (n:=(Z6m u:Int)+(a.rows.length:Int)) ⟨by omega,by omega⟩]
   cases aok a.rows
   ·rfl
   ·cases win a.level 0 4<;>rfl
  cases hp:ZJ5 a with
  |true=>
   refine .inl ⟨Z6m u+a.rows.length,?_,?_,?_⟩
   ·show Z5Z _ _ _ _ _ _=Z5Z _ _ _ _ _ _
    rw[step,hp];rfl
   ·rw[ZCs];simp[Z6m]
   ·simp only[List.all_cons,hp,Bool.true_and,Z6m,List.map_cons,List.sum_cons,Nat.add_assoc]
  |false=>
   refine .inr ?_
   show Z5Z _ _ _ _ _ _=_
   rw[step,hp]
   simp[hp]
 ·show Z5Z _ _ _ _ _ _=_
  subst hs
  rw[Z7s,Z5V,ltF (Int.le_refl _),cond_false,ZHy,ZKB]
  simp only[ZAA,gA,List.all_nil,Bool.true_and,show Z6m []=0 from rfl,Nat.add_zero]
  cases decide (Z6m j.pend≤24)
  ·rfl
  ·cases decide (j.pend.length≤40)<;>rfl
 ·simp only[Nat.zero_add]
  cases j.pend.all ZJ5<;>cases decide (Z6m j.pend≤24)<;>cases decide (j.pend.length≤40)<;>rfl
def Opr.B2 (o:Opr):Prop:=o.sz≤1073741800
theorem Opr.B2.p {o:Opr} (h:o.B2):o.so.B2∧o.jn.B2∧o.ag.B2:=by
 simp only[Opr.B2,Opr.sz,So.B2,Jn.B2,Ag.B2]at*
 omega
def ZKC (nx:Int) (c:Cl):Bool:=win c.id 0 (w64 (nx-1))&&(win c.req 8 60&&win c.prio 0 9)
def ZHB (nx:Int):Option Int→List Cl→Bool
 |_,[]=>true
 |p,c::l=>(ZKC nx c&& !(match p with|some q=>leI c.id q|none=>false))&&ZHB nx (some c.id) l
theorem ZH4 (n:Int):callI tE Z8j [.int n]=some [.bool (win n 8 60)]:=by
 simp only[ZG1,Z7D,gA]
theorem ZHh {α:Type} (l:List α):l=[]∨∃u x,l=u++[x]:=by
 rcases List.eq_nil_or_concat l with h|⟨u,x,h⟩
 ·exact .inl h
 ·exact .inr ⟨u,x,by simpa using h⟩
theorem ZGY (nx:Int) (c:Cl) (b:Bool) (X:Option (List Dat)):
  (bif !(win c.id 0 (w64 (nx-1)))then some [Dat.bool false]else bif b then some [.bool false]else bif !(win c.req 8 60)then some [.bool false]else bif !(win c.prio 0 9)then some [.bool false]else X)=bif(ZKC nx c&& !b)then X else some [.bool false]:=by
 unfold ZKC
 cases win c.id 0 (w64 (nx-1))<;>cases b<;>cases win c.req 8 60<;>cases win c.prio 0 9<;>rfl
theorem ZFQ (l:List Cl) (nx:Int) (hl:l.length≤4611686018427387904):∀(v u:List Cl),l=u++v→Z6e (l.map Cl.e) nx (l.map Cl.e) (lenI (l.map Cl.e)) (u.length:Int)=some [.bool (ZHB nx (u.getLast?.map (·.id)) v)]
 |[],u,e=>by
  rw[List.append_nil]at e
  subst e
  rw[Z9W,ZE9,cond_false];rfl
 |c::v,u,e=>by
  have hul:u.length<l.length:=by rw[e];simp
  have ih:=ZFQ l nx hl v (u++[c]) (by rw[e];simp)
  rw[List.length_append]at ih
  simp only[List.getLast?_append,List.getLast?_singleton,Option.some_or,Option.map_some]at ih
  have h1:ltI (u.length:Int) (lenI (l.map Cl.e))=true:=by rw[e];exact ZE8 u v c
  have h2:at' (l.map Cl.e) u.length=c.e:=by rw[e];exact ZDQ u v c
  have h3:inR (u.length:Int) (lenI (l.map Cl.e))=true:=by rw[e];exact ZDq u v c
  rw[Z9W,h1,h3,Z6v,h2,Z7x (by omega)]
  simp only[cond_true,Cl.e,Z7D,ZH4,gA]
  simp only[List.length_cons,List.length_nil]at ih
  rw[ih]
  rcases ZHh u with rfl|⟨u',p,rfl⟩
  ·rw[show ltI 0 ((([]:List Cl).length:Nat):Int)=false from rfl]
   simp only[cond_false]
   have:=ZGY nx c false (some [.bool (ZHB nx (some c.id) v)])
   simp only[cond_false]at this
   rw[this]
   simp only[ZHB,List.getLast?_nil,Option.map_none]
   cases ZKC nx c<;>rfl
  ·have e1:w64 ((((u'++[p]).length:Nat):Int)-1)=(u'.length:Int):=by rw[Z5W ⟨by simp only[List.length_append,List.length_singleton];omega,by omega⟩];simp
   have h4:at' (l.map Cl.e) u'.length=p.e:=by rw[e,List.append_assoc];exact ZDQ u' _ p
   have h5:inR (u'.length:Int) (lenI (l.map Cl.e))=true:=by rw[e,List.append_assoc];exact ZDq u' _ p
   rw[show ltI 0 (((u'++[p]).length:Nat):Int)=true from ltT (by simp only[List.length_append,List.length_singleton];omega),e1,h5,Z6v,h4]
   simp only[cond_true,Cl.e,gA]
   rw[ZGY nx c (leI c.id p.id)]
   simp only[ZHB,List.getLast?_append,List.getLast?_singleton,Option.some_or,Option.map_some]
   cases ZKC nx c&& !leI c.id p.id<;>rfl
theorem ZJv (l:List Cl) (nx:Int) (hl:l.length≤4611686018427387904):callI tE Z6u [.sl (l.map Cl.e),.int nx]=some [.bool (ZHB nx none l)]:=by
 rw[ZDJ];exact ZFQ l nx hl l [] rfl
def ZJN (id:Int):Nat→List Cl→Int
 |_,[]=> -1
 |i,c::l=>if c.id=id then i else ZJN id (i+1) l
def ZEa (l:List Cl) (id:Int):Bool:=l.any fun c=>decide (c.id=id)
theorem ZEg (id:Int):∀(l:List Cl) (i:Nat),leI 0 (ZJN id i l)=ZEa l id
 |[],i=>rfl
 |c::l,i=>by
  simp only[ZJN,ZEa,List.any_cons]
  by_cases h:c.id=id
  ·rw[if_pos h,decide_eq_true h,leT (by omega)];rfl
  ·rw[if_neg h,decide_eq_false h,ZEg id l (i+1)];rfl
theorem ZHi (l:List Cl) (id:Int) (hl:l.length≤4611686018427387904):∀(v u:List Cl),l=u++v→Z62 (l.map Cl.e) 0 (lenI (l.map Cl.e)) (u.length:Int) id=some [.int (ZJN id u.length v),.int id]
 |[],u,e=>by
  rw[List.append_nil]at e
  subst e
  rw[Z7c,ZE9,cond_false];rfl
 |c::v,u,e=>by
  have hul:u.length<l.length:=by rw[e];simp
  have ih:=ZHi l id hl v (u++[c]) (by rw[e];simp)
  rw[List.length_append]at ih
  have h1:ltI (u.length:Int) (lenI (l.map Cl.e))=true:=by rw[e];exact ZE8 u v c
  have h2:at' (l.map Cl.e) u.length=c.e:=by rw[e];exact ZDQ u v c
  have h3:inR (u.length:Int) (lenI (l.map Cl.e))=true:=by rw[e];exact ZDq u v c
  rw[Z7c,h1,h3,Z6v,h2,Z7x (by omega)]
  simp only[cond_true,Cl.e,ZE4,gA]
  simp only[List.length_cons,List.length_nil]at ih
  rw[ih]
  simp only[ZJN]
  by_cases h:c.id=id
  ·rw[eqT h,if_pos h];rfl
  ·rw[eqF h,if_neg h];rfl
theorem ZFR (l:List Cl) (id:Int) (hl:l.length≤4611686018427387904):callI tE Z8H [.sl (l.map Cl.e),.int id]=some [.int (ZJN id 0 l)]:=by
 rw[ZFL,ZC1,show Z62 (l.map Cl.e) 0 (lenI (l.map Cl.e)) 0 id=_ from ZHi l id hl l [] rfl];rfl
theorem ZHj (l:List Cl) (id:Int) (hl:l.length≤4611686018427387904):∀(v u:List Cl),l=u++v→ZAU (l.map Cl.e) id (u.length:Int)=some [.int (ZJN id u.length v)]
 |[],u,e=>by
  rw[List.append_nil]at e
  subst e
  rw[ZCC,ZE9,cond_false];rfl
 |c::v,u,e=>by
  have hul:u.length<l.length:=by rw[e];simp
  have ih:=ZHj l id hl v (u++[c]) (by rw[e];simp)
  rw[List.length_append]at ih
  have h1:ltI (u.length:Int) (lenI (l.map Cl.e))=true:=by rw[e];exact ZE8 u v c
  have h2:at' (l.map Cl.e) u.length=c.e:=by rw[e];exact ZDQ u v c
  have h3:inR (u.length:Int) (lenI (l.map Cl.e))=true:=by rw[e];exact ZDq u v c
  rw[ZCC,h1,h3,Z6v,h2,Z7x (by omega)]
  simp only[cond_true,Cl.e,gA]
  simp only[List.length_cons,List.length_nil]at ih
  rw[ih]
  simp only[ZJN]
  by_cases h:c.id=id
  ·rw[eqT h,if_pos h];rfl
  ·rw[eqF h,if_neg h];rfl
theorem sAt (l:List Cl) (id:Int) (hl:l.length≤4611686018427387904):callI tE ZAV [.sl (l.map Cl.e),.int id]=some [.int (ZJN id 0 l)]:=by
 rw[ZGy];exact ZHj l id hl l [] rfl
def ZE6 (p:Int):Int:=bif ltI (w64 (Int.tdiv p 8)) 5 then w64 (Int.tdiv p 8)else 5
def ZG6 (a w:List Cl):Bool:=w.all fun c=> !ZEa a c.id
def ZKq (b:Br):Bool:=leI b.act.length (ZE6 b.pool)&&((eqI b.wait.length 0||eqI b.act.length (ZE6 b.pool))&&leI b.wait.length 5)
def ZIZ (b:Br):Bool:=win b.pool 8 120&&(win b.next 0 1000&&(ZHB b.next none b.act&&(ZHB b.next none b.wait&&(ZG6 b.act b.wait&&ZKq b))))
theorem ZKr (b:Br):callI tE ZA2 [.int b.pool,.int b.next,.sl (b.act.map Cl.e),.sl (b.wait.map Cl.e)]=some [.int (ZE6 b.pool)]:=by rw[ZHO];rfl
theorem ZKs (p:Int):callI tE Z8g [.int p]=some [.int (ZE6 p)]:=by rw[ZFw];rfl
def Br.B (b:Br):Prop:=b.sz≤1073741824
theorem ZIa (b:Br):(bif leI (lenI (b.act.map Cl.e)) (ZE6 b.pool)then(bif eqI (lenI (b.wait.map Cl.e)) 0 then some [Dat.bool (leI (lenI (b.wait.map Cl.e)) 5)]else bif eqI (lenI (b.act.map Cl.e)) (ZE6 b.pool)then some [Dat.bool (leI (lenI (b.wait.map Cl.e)) 5)]else some [.bool false])else some [.bool false])=some [.bool (ZKq b)]:=by
 unfold ZKq
 rw[Z5V,Z5V]
 cases leI (b.act.length:Int) (ZE6 b.pool)<;>cases eqI (b.wait.length:Int) 0<;>cases eqI (b.act.length:Int) (ZE6 b.pool)<;>rfl
theorem ZHk (b:Br) (h:b.B):∀(v u:List Cl),b.wait=u++v→Z6Y 0 (b.wait.map Cl.e) (lenI (b.wait.map Cl.e)) (u.length:Int) b.pool b.next (b.act.map Cl.e) (b.wait.map Cl.e)=some [.bool (ZG6 b.act v&&ZKq b)]
 |[],u,e=>by
  rw[List.append_nil]at e
  rw[Z8v,show ltI (u.length:Int) (lenI (b.wait.map Cl.e))=false by rw[e];exact ZE9 u]
  simp only[cond_false,ZKr,gA]
  exact ZIa b
 |c::v,u,e=>by
  have hB:b.act.length+b.wait.length≤1073741824:=h
  have hul:u.length<b.wait.length:=by rw[e];simp
  have ih:=ZHk b h v (u++[c]) (by rw[e];simp)
  rw[List.length_append]at ih
  have h1:ltI (u.length:Int) (lenI (b.wait.map Cl.e))=true:=by rw[e];exact ZE8 u v c
  have h2:at' (b.wait.map Cl.e) u.length=c.e:=by rw[e];exact ZDQ u v c
  have h3:inR (u.length:Int) (lenI (b.wait.map Cl.e))=true:=by rw[e];exact ZDq u v c
  rw[Z8v,h1,h3,Z6v,h2,Z7x (by omega)]
  simp only[List.length_cons,List.length_nil]at ih
  simp only[cond_true,Cl.e,gA,ZFR b.act c.id (by omega),ZEg,ih]
  simp only[ZG6,List.all_cons]
  cases ZEa b.act c.id<;>rfl
theorem ZHl (b:Br) (h:b.B):callI tE Z6l [.int b.pool,.int b.next,.sl (b.act.map Cl.e),.sl (b.wait.map Cl.e)]=some [.bool (ZIZ b)]:=by
 have hB:b.act.length+b.wait.length≤1073741824:=h
 have:=ZHk b h b.wait [] rfl
 rw[ZCz]
 simp only[Z7D,ZJv b.act b.next (by omega),ZJv b.wait b.next (by omega),gA]
 rw[show Z6Y 0 (b.wait.map Cl.e) (lenI (b.wait.map Cl.e)) 0 b.pool b.next (b.act.map Cl.e) (b.wait.map Cl.e)=_ from this]
 unfold ZIZ
 cases win b.pool 8 120<;>cases win b.next 0 1000<;>cases ZHB b.next none b.act<;>cases ZHB b.next none b.wait<;>rfl
theorem ZIb {x0 pool next:Int} {A W LL:Rows} {l:List Cl} {i:Nat} (hl:l.length≤1073741824) (hi:at' LL i=[.sl (l.map Cl.e)]) (hin:inR (i:Int) (lenI LL)=true):∀(v u:List Cl),l=u++v→
  Z5x x0 (i:Int) (u.length:Int) pool next A W LL=bif ZHB next (u.getLast?.map (·.id)) v then Z6W x0 (w64 ((i:Int)+1)) pool next A W LL else some [.bool false]
 |[],u,e=>by
  rw[List.append_nil]at e
  subst e
  rw[Z8r,hin,Z6v,hi]
  simp only[cond_true,gA]
  rw[ZE9];rfl
 |c::v,u,e=>by
  have hul:u.length<l.length:=by rw[e];simp
  have ih:=ZIb (x0:=x0) (pool:=pool) (next:=next) (A:=A) (W:=W) hl hi hin v (u++[c]) (by rw[e];simp)
  rw[List.length_append]at ih
  simp only[List.getLast?_append,List.getLast?_singleton,Option.some_or,Option.map_some,List.length_cons,List.length_nil]at ih
  have h1:ltI (u.length:Int) (lenI (l.map Cl.e))=true:=by rw[e];exact ZE8 u v c
  have h2:at' (l.map Cl.e) u.length=c.e:=by rw[e];exact ZDQ u v c
  have h3:inR (u.length:Int) (lenI (l.map Cl.e))=true:=by rw[e];exact ZDq u v c
  rw[Z8r,hin,Z6v,hi]
  simp only[cond_true,gA]
  rw[h1,h3,Z6v,h2,Z7x (by omega)]
  simp only[cond_true,Cl.e,ZAA,gA]
  rw[ih]
  rcases ZHh u with rfl|⟨u',p,rfl⟩
  ·rw[show ltI 0 ((([]:List Cl).length:Nat):Int)=false from rfl]
   simp only[cond_false]
   have:=ZGY next c false (bif ZHB next (some c.id) v then Z6W x0 (w64 ((i:Int)+1)) pool next A W LL else some [.bool false])
   simp only[cond_false]at this
   rw[this]
   simp only[ZHB,List.getLast?_nil,Option.map_none]
   cases ZKC next c<;>rfl
  ·have e1:w64 ((((u'++[p]).length:Nat):Int)-1)=(u'.length:Int):=by rw[Z5W ⟨by simp only[List.length_append,List.length_singleton];omega,by omega⟩];simp
   have h4:at' (l.map Cl.e) u'.length=p.e:=by rw[e,List.append_assoc];exact ZDQ u' _ p
   have h5:inR (u'.length:Int) (lenI (l.map Cl.e))=true:=by rw[e,List.append_assoc];exact ZDq u' _ p
   rw[show ltI 0 (((u'++[p]).length:Nat):Int)=true from ltT (by simp only[List.length_append,List.length_singleton];omega),e1,h5,Z6v,h4]
   simp only[cond_true,Cl.e,gA]
   rw[ZGY next c (leI c.id p.id)]
   simp only[ZHB,List.getLast?_append,List.getLast?_singleton,Option.some_or,Option.map_some]
   cases ZKC next c&& !leI c.id p.id<;>rfl
theorem ZKt (b:Br) (h:b.B) {x0:Int} {i:Nat} {a:Cl} (ha:b.act[i]?=some a):∀(v u:List Cl),b.wait=u++v→
  Z6X x0 (i:Int) (u.length:Int) b.pool b.next (b.act.map Cl.e) (b.wait.map Cl.e)=bif v.all (fun c=> !decide (a.id=c.id))then Z6E x0 ((i+1:Nat):Int) b.pool b.next (b.act.map Cl.e) (b.wait.map Cl.e)else some [.bool false]
 |[],u,e=>by
  rw[List.append_nil]at e
  have hB:b.act.length+b.wait.length≤1073741824:=h
  have:=(List.getElem?_eq_some_iff.mp ha).1
  rw[Z8t,show ltI (u.length:Int) (lenI (b.wait.map Cl.e))=false by rw[e];exact ZE9 u,Z7x (i:=i) (by omega)];rfl
 |c::v,u,e=>by
  have hB:b.act.length+b.wait.length≤1073741824:=h
  have hul:u.length<b.wait.length:=by rw[e];simp
  have ih:=ZKt b h (x0:=x0) ha v (u++[c]) (by rw[e];simp)
  rw[List.length_append]at ih
  simp only[List.length_cons,List.length_nil]at ih
  have h1:ltI (u.length:Int) (lenI (b.wait.map Cl.e))=true:=by rw[e];exact ZE8 u v c
  have h2:at' (b.wait.map Cl.e) u.length=c.e:=by rw[e];exact ZDQ u v c
  have h3:inR (u.length:Int) (lenI (b.wait.map Cl.e))=true:=by rw[e];exact ZDq u v c
  have h4:at' (b.act.map Cl.e) i=a.e:=by simp[List.getD_eq_getElem?_getD,ha]
  have h5:inR (i:Int) (lenI (b.act.map Cl.e))=true:=ZDM (List.getElem?_eq_some_iff.mp ha).1
  rw[Z8t,h1,h3,h5,Z6v,Z6v,h2,h4,Z7x (i:=u.length) (by omega),ih]
  simp only[cond_true,Cl.e,gA,List.all_cons]
  by_cases hq:a.id=c.id
  ·rw[eqT hq,decide_eq_true hq];rfl
  ·rw[eqF hq,decide_eq_false hq];rfl
theorem ZKu (b:Br) (h:b.B) {x0:Int}:∀(v u:List Cl),b.act=u++v→
  Z6E x0 (u.length:Int) b.pool b.next (b.act.map Cl.e) (b.wait.map Cl.e)=some [.bool (v.all (fun a=>b.wait.all fun c=> !decide (a.id=c.id))&&(win b.pool 8 120&&(win b.next 0 1000&&ZKq b)))]
 |[],u,e=>by
  rw[List.append_nil]at e
  rw[Z8s,show ltI (u.length:Int) (lenI (b.act.map Cl.e))=false by rw[e];exact ZE9 u]
  simp only[cond_false,ZAA,ZKs,gA]
  rw[ZIa b]
  cases win b.pool 8 120<;>cases win b.next 0 1000<;>rfl
 |a::v,u,e=>by
  have ih:=ZKu b h (x0:=x0) v (u++[a]) (by rw[e];simp)
  rw[List.length_append]at ih
  simp only[List.length_cons,List.length_nil,Nat.zero_add]at ih
  have h1:ltI (u.length:Int) (lenI (b.act.map Cl.e))=true:=by rw[e];exact ZE8 u v a
  have h3:=ZKt b h (x0:=x0) (i:=u.length) (a:=a) (by rw[e];simp) b.wait [] rfl
  rw[Z8s,h1,cond_true,show Z6X x0 (u.length:Int) 0 b.pool b.next (b.act.map Cl.e) (b.wait.map Cl.e)=_ from h3,ih,List.all_cons]
  cases b.wait.all fun c=> !decide (a.id=c.id)<;>rfl
theorem ZJO (a w:List Cl):(a.all fun x=>w.all fun c=> !decide (x.id=c.id))=ZG6 a w:=by
 rw[Bool.eq_iff_iff]
 simp only[ZG6,ZEa,List.all_eq_true,Bool.not_eq_true',decide_eq_false_iff_not,List.any_eq_false,decide_eq_true_eq]
 exact⟨fun h c hc x hx=>h x hx c hc,fun h x hx c hc=>h c hc x hx⟩
theorem ZHm (b:Br) (h:b.B):callI tE Z5w [.int b.pool,.int b.next,.sl (b.act.map Cl.e),.sl (b.wait.map Cl.e)]=some [.bool (ZIZ b)]:=by
 have hB:b.act.length+b.wait.length≤1073741824:=h
 have k0:=ZIb (x0:=0) (pool:=b.pool) (next:=b.next) (A:=b.act.map Cl.e) (W:=b.wait.map Cl.e) (LL:=[[.sl (b.act.map Cl.e)],[.sl (b.wait.map Cl.e)]]) (l:=b.act) (i:=0) (by omega) rfl rfl b.act [] rfl
 have k1:=ZIb (x0:=0) (pool:=b.pool) (next:=b.next) (A:=b.act.map Cl.e) (W:=b.wait.map Cl.e) (LL:=[[.sl (b.act.map Cl.e)],[.sl (b.wait.map Cl.e)]]) (l:=b.wait) (i:=1) (by omega) rfl rfl b.wait [] rfl
 have k2:=ZKu b h (x0:=0) b.act [] rfl
 rw[ZCx,Z7K,show ltI 0 2=true from rfl,cond_true,show Z5x 0 0 0 b.pool b.next (b.act.map Cl.e) (b.wait.map Cl.e) [[.sl (b.act.map Cl.e)],[.sl (b.wait.map Cl.e)]]=_ from k0]
 rw[show w64 (((0:Nat):Int)+1)=1 from by decide,Z7K,show ltI 1 2=true from rfl,cond_true,show Z5x 0 1 0 b.pool b.next (b.act.map Cl.e) (b.wait.map Cl.e) [[.sl (b.act.map Cl.e)],[.sl (b.wait.map Cl.e)]]=_ from k1]
 rw[show w64 (((1:Nat):Int)+1)=2 from by decide,Z7K,show ltI 2 2=false from rfl,cond_false,show Z6E 0 0 b.pool b.next (b.act.map Cl.e) (b.wait.map Cl.e)=_ from k2,ZJO]
 simp only[List.getLast?_nil,Option.map_none]
 unfold ZIZ
 cases win b.pool 8 120<;>cases win b.next 0 1000<;>cases ZHB b.next none b.act<;>cases ZHB b.next none b.wait<;>cases ZG6 b.act b.wait<;>rfl
def ZI8 (o:Opr):Bool:=bif eqI o.kind 1 then ZKp o.so else bif eqI o.kind 2 then ZL8 o.jn else bif eqI o.kind 3 then ZL9 o.ag else false
theorem ZHn (o:Opr) (h:o.B2):callI tE Z8i o.e=some [.bool (ZI8 o)]:=by
 obtain⟨h1,h2,h3⟩:=h.p
 unfold Opr.e ZI8
 rw[ZG0]
 simp only[ZJF o.so h1,ZJJ o.jn h2,ZJL o.ag h3,gA]
 cases eqI o.kind 1<;>cases eqI o.kind 2<;>cases eqI o.kind 3<;>rfl
theorem ZKv (o:Opr) (h:o.B2):callI tE Z8f o.e=some [.bool (ZI8 o)]:=by
 obtain⟨h1,h2,h3⟩:=h.p
 unfold Opr.e ZI8
 rw[ZFv]
 simp only[ZJG o.so h1,ZJK o.jn h2,ZJM o.ag h3,gA]
 cases eqI o.kind 1<;>cases eqI o.kind 2<;>cases eqI o.kind 3<;>rfl
def ZFS (b:Br) (i:Nat) (x:Sl):Bool:=eqI x.id i&&(ZI8 x.op&&(eqBo x.done (ZCV x.op)&& !eqBo (ZEa b.act x.id||ZEa b.wait x.id) x.done))
def ZCp (b:Br):Nat→List Sl→Bool
 |_,[]=>true
 |i,x::l=>ZFS b i x&&ZCp b (i+1) l
def ZJ6 (y:Sy):Bool:=ZIZ y.br&&(eqI y.slots.length y.br.next&&(leI y.slots.length 8&&(win y.round 0 1000&&ZCp y.br 0 y.slots)))
def Sy.B2 (y:Sy):Prop:=y.sz≤1073741800
theorem Sy.B2.p {y:Sy} (h:y.B2):y.br.B∧y.slots.length≤1073741824∧∀x∈y.slots,x.op.B2∧x.out.sz≤1073741824:=by
 have h:y.br.sz+szL Sl.sz y.slots≤1073741800:=h
 have hl:=Z63 Sl.sz y.slots
 refine⟨by show y.br.sz≤_;omega,by omega,fun x hx=>?_⟩
 have:=Z8K (f:=Sl.sz) hx
 have e:Sl.sz x=x.op.sz+x.out.sz:=rfl
 exact⟨by show x.op.sz≤_;omega,by omega⟩
theorem ZHo (b:Br) (i:Nat) (x:Sl) (X:Option (List Dat)):(bif ZEa b.act x.id then(bif !(eqI x.id i)then some [Dat.bool false]else bif !(ZI8 x.op)then some [.bool false]else bif !(eqBo x.done (ZCV x.op))then some [.bool false]else bif eqBo true x.done then some [.bool false]else X)
  else(bif !(eqI x.id i)then some [Dat.bool false]else bif !(ZI8 x.op)then some [.bool false]else bif !(eqBo x.done (ZCV x.op))then some [.bool false]else bif eqBo (ZEa b.wait x.id) x.done then some [.bool false]else X))=bif ZFS b i x then X else some [.bool false]:=by
 unfold ZFS
 cases ZEa b.act x.id<;>cases eqI x.id i<;>cases ZI8 x.op<;>cases eqBo x.done (ZCV x.op)<;>cases ZEa b.wait x.id<;>cases x.done<;>rfl
theorem ZHp (y:Sy) (h:y.B2):∀(v u:List Sl),y.slots=u++v→Z6G 0 (y.slots.map Sl.e) (lenI (y.slots.map Sl.e)) (u.length:Int) y.br.pool y.br.next (y.br.act.map Cl.e) (y.br.wait.map Cl.e)=some [.bool (ZCp y.br u.length v)]
 |[],u,e=>by
  rw[List.append_nil]at e
  rw[Z8w,show ltI (u.length:Int) (lenI (y.slots.map Sl.e))=false by rw[e];exact ZE9 u];rfl
 |x::v,u,e=>by
  obtain⟨p1,p2,p3⟩:=h.p
  have hB:y.br.act.length+y.br.wait.length≤1073741824:=p1
  have hul:u.length<y.slots.length:=by rw[e];simp
  have ih:=ZHp y h v (u++[x]) (by rw[e];simp)
  rw[List.length_append]at ih
  simp only[List.length_cons,List.length_nil,Nat.zero_add]at ih
  have h1:ltI (u.length:Int) (lenI (y.slots.map Sl.e))=true:=by rw[e];exact ZE8 u v x
  have h2:at' (y.slots.map Sl.e) u.length=x.e:=by rw[e];exact ZDQ u v x
  have h3:inR (u.length:Int) (lenI (y.slots.map Sl.e))=true:=by rw[e];exact ZDq u v x
  have ho:=(p3 x (by rw[e];simp)).1
  have q1:=ZHn x.op ho
  have q2:=ZH2 x.op
  unfold Opr.e at q1 q2
  rw[Z8w,h1,h3,Z6v,h2,Z7x (by omega),ih]
  simp only[cond_true,Sl.e,gA,ZFR y.br.act x.id (by omega),ZFR y.br.wait x.id (by omega),ZEg,q1,q2]
  rw[ZHo]
  simp only[ZCp]
  cases ZFS y.br u.length x<;>rfl
theorem ZJP (y:Sy) (h:y.B2):callI tE Z7Q [.int y.br.pool,.int y.br.next,.sl (y.br.act.map Cl.e),.sl (y.br.wait.map Cl.e),.sl (y.slots.map Sl.e),.int y.round]=some [.bool (ZJ6 y)]:=by
 obtain⟨p1,p2,p3⟩:=h.p
 have:=ZHp y h y.slots [] rfl
 rw[ZD0]
 simp only[ZHl y.br p1,Z7D,gA]
 rw[show Z6G 0 (y.slots.map Sl.e) (lenI (y.slots.map Sl.e)) 0 y.br.pool y.br.next (y.br.act.map Cl.e) (y.br.wait.map Cl.e)=_ from this,Z5V]
 unfold ZJ6
 rw[show ltI 8 (y.slots.length:Int)= !leI (y.slots.length:Int) 8 by unfold ltI leI;rw[←decide_not];congr 1;apply propext;omega]
 cases ZIZ y.br<;>cases eqI (y.slots.length:Int) y.br.next<;>cases leI (y.slots.length:Int) 8<;>cases win y.round 0 1000<;>rfl
theorem ZHq (y:Sy) (h:y.B2):∀(v u:List Sl),y.slots=u++v→Z6F 0 (u.length:Int) y.br.pool y.br.next (y.br.act.map Cl.e) (y.br.wait.map Cl.e) (y.slots.map Sl.e) y.round=some [.bool (ZCp y.br u.length v)]
 |[],u,e=>by
  rw[List.append_nil]at e
  rw[Z8u,show ltI (u.length:Int) (lenI (y.slots.map Sl.e))=false by rw[e];exact ZE9 u];rfl
 |x::v,u,e=>by
  obtain⟨p1,p2,p3⟩:=h.p
  have hB:y.br.act.length+y.br.wait.length≤1073741824:=p1
  have hul:u.length<y.slots.length:=by rw[e];simp
  have ih:=ZHq y h v (u++[x]) (by rw[e];simp)
  rw[List.length_append]at ih
  simp only[List.length_cons,List.length_nil,Nat.zero_add]at ih
  have h1:ltI (u.length:Int) (lenI (y.slots.map Sl.e))=true:=by rw[e];exact ZE8 u v x
  have h2:at' (y.slots.map Sl.e) u.length=x.e:=by rw[e];exact ZDQ u v x
  have h3:inR (u.length:Int) (lenI (y.slots.map Sl.e))=true:=by rw[e];exact ZDq u v x
  have ho:=(p3 x (by rw[e];simp)).1
  have q1:=ZKv x.op ho
  have q2:=ZH3 x.op
  unfold Opr.e at q1 q2
  rw[Z8u,h1,h3,Z6v,h2,Z7x (by omega),ih]
  simp only[cond_true,Sl.e,gA,sAt y.br.act _ (show y.br.act.length≤4611686018427387904 by omega),sAt y.br.wait _ (show y.br.wait.length≤4611686018427387904 by omega),ZEg,q1,q2]
  by_cases hid:x.id=(u.length:Int)
  ·rw[←hid]
   have:=ZHo y.br u.length x (some [.bool (ZCp y.br (u.length+1) v)])
   rw[←hid]at this
   rw[this]
   simp only[ZCp]
   cases ZFS y.br u.length x<;>rfl
  ·have hs:ZFS y.br u.length x=false:=by unfold ZFS;rw[eqF hid];rfl
   simp only[ZCp,hs,eqF hid,Bool.not_false,cond_true,Bool.false_and]
   cases ZEa y.br.act (u.length:Int)<;>rfl
theorem ZJQ (y:Sy) (h:y.B2):callI tE Z7N [.int y.br.pool,.int y.br.next,.sl (y.br.act.map Cl.e),.sl (y.br.wait.map Cl.e),.sl (y.slots.map Sl.e),.int y.round]=some [.bool (ZJ6 y)]:=by
 obtain⟨p1,p2,p3⟩:=h.p
 have:=ZHq y h y.slots [] rfl
 rw[ZCy]
 simp only[ZHm y.br p1,ZAA,gA]
 rw[show Z6F 0 0 y.br.pool y.br.next (y.br.act.map Cl.e) (y.br.wait.map Cl.e) (y.slots.map Sl.e) y.round=_ from this,Z5V]
 unfold ZJ6
 rw[show ltI 8 (y.slots.length:Int)= !leI (y.slots.length:Int) 8 by unfold ltI leI;rw[←decide_not];congr 1;apply propext;omega]
 cases ZIZ y.br<;>cases eqI (y.slots.length:Int) y.br.next<;>cases leI (y.slots.length:Int) 8<;>cases win y.round 0 1000<;>rfl
theorem ZHz (l:List (List Rw)) (h:ZDB l):callI tE Z8y [.sl (l.map rsE)]=some [.sl (l.map rsE)]:=by
 have hl:=Z63 List.length l
 have h:szL List.length l≤1073741824:=h
 rw[ZEN]
 have:=Z98 (l:=l) (L:=fun(s:List (List Rw)) i=>Z6Q (l.map rsE) (lenI (l.map rsE)) i (s.map rsE)) (F:=fun _ _=>some [.sl (l.map rsE)]) (I:=fun s u _=>s=u) (by omega) (fun u a v s e hI=>by
  have ha:a.length≤1073741824:=Nat.le_trans (ZAT (by rw[e];simp)) h
  have hul:u.length≤1073741824:=by rw[e]at hl h;simp at hl;rw[e]at*;omega
  refine .inl ⟨u++[a],?_,rfl,rfl⟩
  show Z6Q _ _ _ _=Z6Q _ _ _ _
  subst e
  rw[ZAe,hI]
  simp only[ZE8,ZDq,Z6v,ZDQ,cond_true,rsE,gA,ZD1 a (by omega),Z5u]
  rw[show fitM (Nat.succ u.length) 24=true from Z9y (by omega),ZJr]
  rfl) (fun s hs=>by
  show Z6Q _ _ _ _=_
  rw[ZAe,ZE9,cond_false,hs]) [] rfl
 exact this
theorem ZIc (l:List (List Rw)) (h:ZDB l):callI tE ZAD [.sl (l.map rsE)]=some [.sl (l.map rsE)]:=by
 have hl:=Z63 List.length l
 have h:szL List.length l≤1073741824:=h
 rw[ZFd]
 have:=Z98 (l:=l) (L:=fun(s:List (List Rw)) i=>Z6k (l.map rsE) i (s.map rsE)) (F:=fun _ _=>some [.sl (l.map rsE)]) (I:=fun s u _=>s=u) (by omega) (fun u a v s e hI=>by
  have ha:a.length≤1073741824:=Nat.le_trans (ZAT (by rw[e];simp)) h
  have hul:u.length≤1073741824:=by rw[e]at hl h;simp at hl;rw[e]at*;omega
  refine .inl ⟨u++[a],?_,rfl,rfl⟩
  show Z6k _ _ _=Z6k _ _ _
  subst e
  rw[ZBW,hI]
  simp only[ZE8,ZDq,Z6v,ZDQ,cond_true,rsE,gA,Z5u]
  rw[show fitM (0+a.length) 24=true from Z9y (by omega),show fitM (Nat.succ u.length) 24=true from Z9y (by omega),ZJr]
  rfl) (fun s hs=>by
  show Z6k _ _ _=_
  rw[ZBW,ZE9,cond_false,hs]) [] rfl
 exact this
theorem ZJR (s:So) (h:s.B):callI tE Z9f [.sl (s.inp.map Rw.e),.int s.pos,.sl (s.heap.map Rw.e),.sl (s.dfd.map Rw.e),.sl (s.out.map Rw.e),.sl (s.runs.map rsE),.int s.lp,.int s.rp,.int s.ph,.int s.wr]=some [.sl (s.inp.map Rw.e),.int s.pos,.sl (s.heap.map Rw.e),.sl (s.dfd.map Rw.e),.sl (s.out.map Rw.e),.sl (s.runs.map rsE),.int s.lp,.int s.rp,.int s.ph,.int s.wr]:=by
 obtain⟨h1,h2,h3,h4,h5⟩:=h.p
 simp only[ZDZ,ZD1 s.inp (by omega),ZD1 s.heap (by omega),ZD1 s.dfd (by omega),ZD1 s.out (by omega),ZHz s.runs h5,gA]
theorem ZKD (s:So) (h:s.B):callI tE ZBx [.sl (s.inp.map Rw.e),.int s.pos,.sl (s.heap.map Rw.e),.sl (s.dfd.map Rw.e),.sl (s.out.map Rw.e),.sl (s.runs.map rsE),.int s.lp,.int s.rp,.int s.ph,.int s.wr]=some [.sl (s.inp.map Rw.e),.int s.pos,.sl (s.heap.map Rw.e),.sl (s.dfd.map Rw.e),.sl (s.out.map Rw.e),.sl (s.runs.map rsE),.int s.lp,.int s.rp,.int s.ph,.int s.wr]:=by
 obtain⟨h1,h2,h3,h4,h5⟩:=h.p
 simp only[ZFe,Z5u,ZIc s.runs h5,gA]
 rw[Z9y (by omega),Z9y (by omega),Z9y (by omega),Z9y (by omega)];rfl
theorem ZLJ (o:Ou) (h:o.sz≤1073741824):callI tE Z9h [.sl (o.rows.map Rw.e),.sl (o.pairs.map Pr.e),.sl (o.groups.map Gr.e)]=some o.e:=by
 simp only[Ou.sz]at h
 simp only[ZDg,ZD1 o.rows (by omega),gA,Z5u]
 rw[Z9y (by omega),Z9y (by omega)];rfl
theorem ZLK (o:Ou) (h:o.sz≤1073741824):callI tE ZCH [.sl (o.rows.map Rw.e),.sl (o.pairs.map Pr.e),.sl (o.groups.map Gr.e)]=some o.e:=by
 simp only[Ou.sz]at h
 rw[ZGV,Z5u,Z5u,Z5u,Z9y (by omega),Z9y (by omega),Z9y (by omega)];rfl
def Ou.zero:Ou:=⟨[],[],[]⟩
theorem ZLP {x:Tk} (h:x.sz≤1073741800):x.left.length≤1073741824∧x.right.length≤1073741824∧x.mat.length≤1073741824:=by
 simp only[Tk.sz]at h;omega
theorem ZJS (x:Tk) (h:x.sz≤1073741800):callI tE ZAp [.int x.kind,.sl (x.left.map Rw.e),.sl (x.right.map Rw.e),.sl (x.mat.map boE),.int x.level]=some x.e:=by
 obtain⟨h1,h2,h3⟩:=ZLP h
 rw[ZEO,ZD1 x.left (by omega),ZD1 x.right (by omega),Z5u,Z9y (by omega)];rfl
theorem ZKE (x:Tk) (h:x.sz≤1073741800):callI tE ZBy [.int x.kind,.sl (x.left.map Rw.e),.sl (x.right.map Rw.e),.sl (x.mat.map boE),.int x.level]=some x.e:=by
 obtain⟨h1,h2,h3⟩:=ZLP h
 rw[ZFk,Z5u,Z5u,Z5u,Z9y (by omega),Z9y (by omega),Z9y (by omega)];rfl
theorem ZD3 (l:List Tk) (hl:szL Tk.sz l≤1073741800):∀(v u:List Tk),l=u++v→Z6w (l.map Tk.e) (lenI (l.map Tk.e)) (u.length:Int) (u.map Tk.e)=some [.sl (l.map Tk.e)]
 |[],u,e=>by
  rw[List.append_nil]at e
  subst e
  rw[Z9z,ZE9,cond_false]
 |x::v,u,e=>by
  have hul:u.length<l.length:=by rw[e];simp
  have hlen:=Z63 Tk.sz l
  have hx:x.sz≤1073741800:=by have:=Z8K (f:=Tk.sz) (show x∈l by rw[e];simp);omega
  have ih:=ZD3 l hl v (u++[x]) (by rw[e];simp)
  rw[List.length_append,List.map_append]at ih
  simp only[List.length_cons,List.length_nil,Nat.zero_add]at ih
  have h1:ltI (u.length:Int) (lenI (l.map Tk.e))=true:=by rw[e];exact ZE8 u v x
  have h2:at' (l.map Tk.e) u.length=x.e:=by rw[e];exact ZDQ u v x
  have h3:inR (u.length:Int) (lenI (l.map Tk.e))=true:=by rw[e];exact ZDq u v x
  have hq:=ZJS x hx
  rw[Z9z,h1,h3,Z6v,h2,Z7x (by omega),Z5u,Z9y (by omega)]
  simp only[cond_true,Tk.e,gA]at hq⊢
  simp only[hq,gA]
  exact ih
theorem ZJT (j:Jn) (h:j.B2):callI tE Z9g [.sl (j.pend.map Tk.e),.int j.wr,.int j.parts]=some j.e:=by
 rw[ZDf,ZDw,show Z6w (j.pend.map Tk.e) (lenI (j.pend.map Tk.e)) 0 []=_ from ZD3 j.pend h j.pend [] rfl];rfl
theorem ZEB (j:Jn) (x0 x1 x2 x7 x8:Int) (x11:Rows) (hl:j.B2):∀(v u:List Tk),j.pend=u++v→Z99 x0 x1 x2 (u.length:Int) (j.pend.map Tk.e) j.wr j.parts x7 x8 j.wr j.parts x11 (u.map Tk.e)=some j.e
 |[],u,e=>by
  rw[List.append_nil]at e
  have h0:ltI (u.length:Int) (lenI (j.pend.map Tk.e))=false:=by rw[e];exact ZE9 u
  rw[ZBY,h0,cond_false,←e];rfl
 |x::v,u,e=>by
  have hl':szL Tk.sz j.pend≤1073741800:=hl
  have hul:u.length<j.pend.length:=by rw[e];simp
  have hlen:=Z63 Tk.sz j.pend
  have hx:x.sz≤1073741800:=by have:=Z8K (f:=Tk.sz) (show x∈j.pend by rw[e];simp);omega
  have ih:=ZEB j x0 x1 x2 x7 x8 x11 hl v (u++[x]) (by rw[e];simp)
  rw[List.length_append,List.map_append]at ih
  simp only[List.length_cons,List.length_nil,Nat.zero_add]at ih
  have h1:ltI (u.length:Int) (lenI (j.pend.map Tk.e))=true:=by rw[e];exact ZE8 u v x
  have h2:at' (j.pend.map Tk.e) u.length=x.e:=by rw[e];exact ZDQ u v x
  have h3:inR (u.length:Int) (lenI (j.pend.map Tk.e))=true:=by rw[e];exact ZDq u v x
  have hq:=ZKE x hx
  rw[ZBY,h1,h3,Z6v,h2,Z7x (by omega),Z5u,Z9y (by omega)]
  simp only[cond_true,Tk.e,gA]at hq⊢
  simp only[hq,gA]
  exact ih
theorem ZKF (j:Jn) (h:j.B2):callI tE ZAE [.sl (j.pend.map Tk.e),.int j.wr,.int j.parts]=some j.e:=by
 rw[ZFl];exact ZEB j 0 0 0 0 0 [] h j.pend [] rfl
theorem ZDm (j:Ag) (x0 x1 x8:Int) (x5 x11:Rows) (x9:Bool) (hl:j.B2):∀(v u:List Gt),j.pend=u++v→Z6i x0 x1 (j.pend.map Gt.e) (lenI (j.pend.map Gt.e)) (u.length:Int) x5 j.wr j.early x8 x9 (u.map Gt.e) x11=some j.e
 |[],u,e=>by
  rw[List.append_nil]at e
  have h0:ltI (u.length:Int) (lenI (j.pend.map Gt.e))=false:=by rw[e];exact ZE9 u
  rw[Z8M,h0,cond_false,←e];rfl
 |x::v,u,e=>by
  have hl':szL Gt.sz j.pend≤1073741800:=hl
  have hul:u.length<j.pend.length:=by rw[e];simp
  have hlen:=Z63 Gt.sz j.pend
  have hx:x.rows.length≤1073741800:=by have:=Z8K (f:=Gt.sz) (show x∈j.pend by rw[e];simp);simp only[Gt.sz]at this;omega
  have ih:=ZDm j x0 x1 x8 x5 x11 x9 hl v (u++[x]) (by rw[e];simp)
  rw[List.length_append,List.map_append]at ih
  simp only[List.length_cons,List.length_nil,Nat.zero_add]at ih
  have h1:ltI (u.length:Int) (lenI (j.pend.map Gt.e))=true:=by rw[e];exact ZE8 u v x
  have h2:at' (j.pend.map Gt.e) u.length=x.e:=by rw[e];exact ZDQ u v x
  have h3:inR (u.length:Int) (lenI (j.pend.map Gt.e))=true:=by rw[e];exact ZDq u v x
  rw[Z8M,h1,h3,Z6v,h2,Z7x (by omega),Z5u,Z9y (by omega)]
  simp only[cond_true,Gt.e,gA,ZD1 x.rows (by omega)]
  exact ih
theorem ZJU (j:Ag) (h:j.B2):callI tE Z6x [.sl (j.pend.map Gt.e),.int j.wr,.bool j.early]=some j.e:=by
 rw[ZCY];exact ZDm j 0 0 0 _ [] false h j.pend [] rfl
theorem ZEC (j:Ag) (x0 x1 x2 x7:Int) (x8:Bool) (x11:Rows) (hl:j.B2):∀(v u:List Gt),j.pend=u++v→Z9A x0 x1 x2 (u.length:Int) (j.pend.map Gt.e) j.wr j.early x7 x8 j.wr j.early x11 (u.map Gt.e)=some j.e
 |[],u,e=>by
  rw[List.append_nil]at e
  have h0:ltI (u.length:Int) (lenI (j.pend.map Gt.e))=false:=by rw[e];exact ZE9 u
  rw[ZBZ,h0,cond_false,←e];rfl
 |x::v,u,e=>by
  have hl':szL Gt.sz j.pend≤1073741800:=hl
  have hul:u.length<j.pend.length:=by rw[e];simp
  have hlen:=Z63 Gt.sz j.pend
  have hx:x.rows.length≤1073741800:=by have:=Z8K (f:=Gt.sz) (show x∈j.pend by rw[e];simp);simp only[Gt.sz]at this;omega
  have ih:=ZEC j x0 x1 x2 x7 x8 x11 hl v (u++[x]) (by rw[e];simp)
  rw[List.length_append,List.map_append]at ih
  simp only[List.length_cons,List.length_nil,Nat.zero_add]at ih
  have h1:ltI (u.length:Int) (lenI (j.pend.map Gt.e))=true:=by rw[e];exact ZE8 u v x
  have h2:at' (j.pend.map Gt.e) u.length=x.e:=by rw[e];exact ZDQ u v x
  have h3:inR (u.length:Int) (lenI (j.pend.map Gt.e))=true:=by rw[e];exact ZDq u v x
  rw[ZBZ,h1,h3,Z6v,h2,Z7x (by omega)]
  simp only[cond_true,Gt.e,gA,Z5u]
  rw[Z9y (by omega),Z9y (by omega)]
  exact ih
theorem ZKG (j:Ag) (h:j.B2):callI tE ZAF [.sl (j.pend.map Gt.e),.int j.wr,.bool j.early]=some j.e:=by
 rw[ZFm];exact ZEC j 0 0 0 0 false [] h j.pend [] rfl
theorem ZHr (o:Opr) (h:o.B2):callI tE ZAN o.e=some o.e:=by
 obtain⟨h1,h2,h3⟩:=h.p
 have e1:=ZJR o.so h1.b
 have e2:=ZJT o.jn h2
 have e3:=ZJU o.ag h3
 unfold Opr.e
 rw[ZFq]
 simp only[So.e,Jn.e,Ag.e]at e1 e2 e3
 simp only[e1,e2,e3,gA]
theorem ZId (o:Opr) (h:o.B2):callI tE ZBk o.e=some o.e:=by
 obtain⟨h1,h2,h3⟩:=h.p
 have e1:=ZKD o.so h1.b
 have e2:=ZKF o.jn h2
 have e3:=ZKG o.ag h3
 unfold Opr.e
 rw[ZGz]
 simp only[So.e,Jn.e,Ag.e]at e1 e2 e3
 simp only[e1,e2,e3,gA]
theorem ZHs (b:Br) (h:b.B):callI tE Z7z [.int b.pool,.int b.next,.sl (b.act.map Cl.e),.sl (b.wait.map Cl.e)]=some b.e:=by
 have hB:b.act.length+b.wait.length≤1073741824:=h
 rw[ZDi,Z5u,Z5u,Z9y (by omega),Z9y (by omega)];rfl
theorem ZIe (b:Br) (h:b.B):callI tE ZAG [.int b.pool,.int b.next,.sl (b.act.map Cl.e),.sl (b.wait.map Cl.e)]=some b.e:=by
 have hB:b.act.length+b.wait.length≤1073741824:=h
 rw[ZFx,Z5u,Z5u,Z9y (by omega),Z9y (by omega)];rfl
theorem ZDn (y:Sy) (h:y.B2) {x0 x1 x5 x6 x7:Int} {x11 x12 x13:Rows}:∀(v u:List Sl),y.slots=u++v→
  Z7S x0 x1 (y.slots.map Sl.e) (lenI (y.slots.map Sl.e)) (u.length:Int) x5 x6 x7 y.br.pool y.br.next y.round x11 x12 x13 (y.br.act.map Cl.e) (y.br.wait.map Cl.e) (u.map Sl.e)=some y.e
 |[],u,e=>by
  rw[List.append_nil]at e
  have h0:ltI (u.length:Int) (lenI (y.slots.map Sl.e))=false:=by rw[e];exact ZE9 u
  rw[Z9u,h0,cond_false,←e];rfl
 |x::v,u,e=>by
  obtain⟨p1,p2,p3⟩:=h.p
  have hul:u.length<y.slots.length:=by rw[e];simp
  have hx:=p3 x (by rw[e];simp)
  have ih:=ZDn y h (x0:=x0) (x1:=x1) (x5:=x5) (x6:=x6) (x7:=x7) (x11:=x11) (x12:=x12) (x13:=x13) v (u++[x]) (by rw[e];simp)
  rw[List.length_append,List.map_append]at ih
  simp only[List.length_cons,List.length_nil,Nat.zero_add]at ih
  have h1:ltI (u.length:Int) (lenI (y.slots.map Sl.e))=true:=by rw[e];exact ZE8 u v x
  have h2:at' (y.slots.map Sl.e) u.length=x.e:=by rw[e];exact ZDQ u v x
  have h3:inR (u.length:Int) (lenI (y.slots.map Sl.e))=true:=by rw[e];exact ZDq u v x
  have q1:=ZHr x.op hx.1
  have q2:=ZLJ x.out hx.2
  unfold Opr.e at q1
  unfold Ou.e at q2
  rw[Z9u,h1,h3,Z6v,h2,Z7x (by omega),Z5u,Z9y (by omega)]
  simp only[cond_true,Sl.e,gA,q1,q2]
  exact ih
theorem ZJV (y:Sy) (h:y.B2):callI tE Z80 [.int y.br.pool,.int y.br.next,.sl (y.br.act.map Cl.e),.sl (y.br.wait.map Cl.e),.sl (y.slots.map Sl.e),.int y.round]=some y.e:=by
 rw[ZDj,ZHs y.br h.p.1]
 simp only[Br.e,gA]
 exact ZDn y h y.slots [] rfl
theorem ZED (y:Sy) (h:y.B2) {x0 x1 x2 x10 x11 x12:Int} {x16 x17 x18:Rows}:∀(v u:List Sl),y.slots=u++v→
  Z9F x0 x1 x2 (u.length:Int) y.br.pool y.br.next (y.br.act.map Cl.e) (y.br.wait.map Cl.e) (y.slots.map Sl.e) y.round x10 x11 x12 y.br.pool y.br.next y.round x16 x17 x18 (y.br.act.map Cl.e) (y.br.wait.map Cl.e) (u.map Sl.e)=some y.e
 |[],u,e=>by
  rw[List.append_nil]at e
  have h0:ltI (u.length:Int) (lenI (y.slots.map Sl.e))=false:=by rw[e];exact ZE9 u
  rw[ZBf,h0,cond_false,←e];rfl
 |x::v,u,e=>by
  obtain⟨p1,p2,p3⟩:=h.p
  have hul:u.length<y.slots.length:=by rw[e];simp
  have hx:=p3 x (by rw[e];simp)
  have ih:=ZED y h (x0:=x0) (x1:=x1) (x2:=x2) (x10:=x10) (x11:=x11) (x12:=x12) (x16:=x16) (x17:=x17) (x18:=x18) v (u++[x]) (by rw[e];simp)
  rw[List.length_append,List.map_append]at ih
  simp only[List.length_cons,List.length_nil,Nat.zero_add]at ih
  have h1:ltI (u.length:Int) (lenI (y.slots.map Sl.e))=true:=by rw[e];exact ZE8 u v x
  have h2:at' (y.slots.map Sl.e) u.length=x.e:=by rw[e];exact ZDQ u v x
  have h3:inR (u.length:Int) (lenI (y.slots.map Sl.e))=true:=by rw[e];exact ZDq u v x
  have q1:=ZId x.op hx.1
  have q2:=ZLK x.out hx.2
  unfold Opr.e at q1
  unfold Ou.e at q2
  rw[ZBf,h1,h3,Z6v,h2,Z7x (by omega),Z5u,Z9y (by omega)]
  simp only[cond_true,Sl.e,gA,q1,q2]
  exact ih
theorem ZKH (y:Sy) (h:y.B2):callI tE ZAH [.int y.br.pool,.int y.br.next,.sl (y.br.act.map Cl.e),.sl (y.br.wait.map Cl.e),.sl (y.slots.map Sl.e),.int y.round]=some y.e:=by
 rw[ZFy,ZIe y.br h.p.1]
 simp only[Br.e,gA]
 exact ZED y h y.slots [] rfl
def ZE7 (b:Br) (want prio:Int):Br×Int×Bool:=
 bif ZIZ b&&(win want 8 60&&(win prio 0 9&&(!eqI b.next 1000&& !eqI b.wait.length 5)))then
  (bif ltI b.act.length (ZE6 b.pool)then({b with next:=w64 (b.next+1),act:=b.act++[⟨b.next,want,prio⟩]},b.next,true)else({b with next:=w64 (b.next+1),wait:=b.wait++[⟨b.next,want,prio⟩]},b.next,true))
 else(b,0,false)
def clO (x:Br×Int×Bool):List Dat:=[.int x.1.pool,.int x.1.next,.sl (x.1.act.map Cl.e),.sl (x.1.wait.map Cl.e),.int x.2.1,.bool x.2.2]
theorem ZKw (p n:Int) (a w:List Cl):callI tE ZA2 [.int p,.int n,.sl (a.map Cl.e),.sl (w.map Cl.e)]=some [.int (ZE6 p)]:=ZKr ⟨p,n,a,w⟩
theorem ZKx (b:Br) (want prio:Int) (h:b.B):callI tE ZAq [.int b.pool,.int b.next,.sl (b.act.map Cl.e),.sl (b.wait.map Cl.e),.int want,.int prio]=some (clO (ZE7 b want prio)):=by
 have hB:b.act.length+b.wait.length≤1073741824:=h
 rw[ZEW,ZHs b h,ZHl b h]
 simp only[Br.e,gA,ZH4,Z7D,ZKw,Z5V,Z5u]
 rw[Z9y (n:=b.act.length.succ) (by omega),Z9y (n:=b.wait.length.succ) (by omega)]
 unfold ZE7 clO
 cases ZIZ b<;>cases win want 8 60<;>cases win prio 0 9<;>cases eqI b.next 1000<;>cases eqI (b.wait.length:Int) 5<;>cases ltI (b.act.length:Int) (ZE6 b.pool)<;>(try rfl)<;>(simp only[cond_true,cond_false,Bool.not_true,Bool.not_false,Bool.and_self,List.map_append,List.map_cons,List.map_nil,Cl.e];rfl)
theorem ZKy (b:Br) (want prio:Int) (h:b.B):callI tE ZAo [.int b.pool,.int b.next,.sl (b.act.map Cl.e),.sl (b.wait.map Cl.e),.int want,.int prio]=some (clO (ZE7 b want prio)):=by
 have hB:b.act.length+b.wait.length≤1073741824:=h
 rw[ZEU,ZIe b h,ZHm b h]
 simp only[Br.e,gA,ZAA,ZKs,Z5V,Z5u]
 rw[Z9y (n:=b.act.length.succ) (by omega),Z9y (n:=b.wait.length.succ) (by omega)]
 unfold ZE7 clO
 cases ZIZ b<;>cases win want 8 60<;>cases win prio 0 9<;>cases eqI b.next 1000<;>cases eqI (b.wait.length:Int) 5<;>cases ltI (b.act.length:Int) (ZE6 b.pool)<;>(try rfl)<;>(simp only[cond_true,cond_false,Bool.not_true,Bool.not_false,Bool.and_self,List.map_append,List.map_cons,List.map_nil,Cl.e];rfl)
def ZHP (y:Sy) (o:Opr) (want prio:Int):Sy×Int×Bool:=
 bif ZJ6 y&&(ZI8 o&&(!ZCV o&&(!leI 8 y.slots.length&&(ZE7 y.br want prio).2.2)))then
  ({y with br:=(ZE7 y.br want prio).1,slots:=y.slots++[⟨(ZE7 y.br want prio).2.1,o,Ou.zero,false⟩]},(ZE7 y.br want prio).2.1,true)
 else(y,0,false)
def syO (x:Sy×Int×Bool):List Dat:=[.int x.1.br.pool,.int x.1.br.next,.sl (x.1.br.act.map Cl.e),.sl (x.1.br.wait.map Cl.e),.sl (x.1.slots.map Sl.e),.int x.1.round,.int x.2.1,.bool x.2.2]
theorem ZKz (y:Sy) (o:Opr) (want prio:Int) (h:y.B2) (ho:o.B2):callI tE ZBl (y.e++(o.e++[.int want,.int prio]))=some (syO (ZHP y o want prio)):=by
 obtain⟨p1,p2,p3⟩:=h.p
 have q1:=ZHr o ho
 have q2:=ZHn o ho
 have q3:=ZH2 o
 unfold Opr.e at q1 q2 q3⊢
 simp only[Sy.e,List.cons_append,List.nil_append]
 rw[ZH1,ZJV y h,ZJP y h]
 simp only[Sy.e,gA,q2,q3,ZKx y.br want prio p1,clO,q1,Z5V,Z5u]
 rw[Z9y (n:=y.slots.length.succ) (by omega)]
 unfold ZHP syO
 cases ZJ6 y<;>cases ZI8 o<;>cases ZCV o<;>cases leI 8 (y.slots.length:Int)<;>cases(ZE7 y.br want prio).2.2<;>(try rfl)<;>(simp only[cond_true,cond_false,Bool.not_true,Bool.not_false,Bool.and_self,List.map_append,List.map_cons,List.map_nil,Sl.e,Ou.zero];rfl)
theorem ZJW {y:Sy} (h:ZJ6 y=true):y.slots.length≤8:=by
 simp only[ZJ6,Bool.and_eq_true]at h
 have:=h.2.2.1
 simp only[leI,decide_eq_true_eq]at this
 omega
theorem ZL0 (y:Sy) (o:Opr) (want prio:Int) (h:y.B2) (ho:o.B2):callI tE ZCa (y.e++(o.e++[.int want,.int prio]))=some (syO (ZHP y o want prio)):=by
 obtain⟨p1,p2,p3⟩:=h.p
 have q1:=ZId o ho
 have q2:=ZKv o ho
 have q3:=ZH3 o
 unfold Opr.e at q1 q2 q3⊢
 simp only[Sy.e,List.cons_append,List.nil_append]
 rw[ZH0,ZKH y h,ZJQ y h]
 simp only[Sy.e,gA,q2,q3,ZKy y.br want prio p1,clO,q1,Z5V,Z5u]
 rw[Z9y (n:=y.slots.length.succ) (by omega)]
 unfold ZHP syO
 cases hv:ZJ6 y with
 |false=>rfl
 |true=>
  have h8:eqI (y.slots.length:Int) 8=leI 8 (y.slots.length:Int):=by
   have:=ZJW hv
   unfold eqI leI
   congr 1
   apply propext
   omega
  rw[h8]
  cases ZI8 o<;>cases ZCV o<;>cases leI 8 (y.slots.length:Int)<;>cases(ZE7 y.br want prio).2.2<;>(try rfl)<;>(simp only[cond_true,cond_false,Bool.not_true,Bool.not_false,Bool.and_self,List.map_append,List.map_cons,List.map_nil,Sl.e,Ou.zero];rfl)
theorem ZJX (b:Br) (want prio:Int):(ZE7 b want prio).1.sz≤b.sz+1:=by
 unfold ZE7
 cases ZIZ b&&(win want 8 60&&(win prio 0 9&&(!eqI b.next 1000&& !eqI b.wait.length 5)))with
 |false=>simp only[cond_false];omega
 |true=>
  cases ltI (b.act.length:Int) (ZE6 b.pool)<;>simp only[cond_true,cond_false,Br.sz,List.length_append,List.length_singleton]<;>omega
theorem ZJY (y:Sy) (o:Opr) (want prio:Int):(ZHP y o want prio).1.sz≤y.sz+o.sz+2:=by
 have hc:=ZJX y.br want prio
 unfold ZHP
 cases ZJ6 y&&(ZI8 o&&(!ZCV o&&(!leI 8 y.slots.length&&(ZE7 y.br want prio).2.2)))with
 |false=>simp only[cond_false];omega
 |true=>
  simp only[cond_true,Sy.sz,ZDR,szL,Sl.sz,Ou.sz,Ou.zero,List.length_nil]
  omega
theorem ZAu {α:Type} {e:α→List Dat} {p:α→Prop} {t:TypeId} {te:TI} (ht:tE.T t=some te) (hp:0<te.by_) (hE:∀{ds:List Dat},OkDs tE te.ls ds→∃x,ds=e x∧p x) {d:Dat} (h:OkD tE (.sl t) d):∃l:List α,d=.sl (l.map e)∧BdL p l:=by
 obtain⟨rows,rfl,hn,hr⟩:=h.sl' ht
 have key:∀rows:Rows,(∀r∈rows,OkDs tE te.ls r)→∃l:List α,rows=l.map e∧∀a∈l,p a:=by
  intro rows
  induction rows with
  |nil=>intro _;exact⟨[],rfl,fun a ha=>by cases ha⟩
  |cons r rows ih=>
   intro hr
   obtain⟨l,h1,h2⟩:=ih (fun q hq=>hr q (List.mem_cons_of_mem _ hq))
   obtain⟨x,h3,h4⟩:=hE (hr r (by simp))
   exact⟨x::l,by rw[h1,h3];rfl,fun a ha=>(List.mem_cons.mp ha).elim (fun e=>e▸h4) (h2 a)⟩
 obtain⟨l,h1,h2⟩:=key rows hr
 refine⟨l,by rw[h1],?_,h2⟩
 have:rows.length=l.length:=by rw[h1];simp
 have h3:rows.length≤reachBytes:=Nat.le_trans (Nat.le_mul_of_pos_right _ hp) hn
 have h4:reachBytes≤1152921504606846976:=by decide
 omega
theorem OkDs.split {ls1 ls2:List Leaf} {ds:List Dat} (h:OkDs tE (ls1++ls2) ds):∃d1 d2,ds=d1++d2∧OkDs tE ls1 d1∧OkDs tE ls2 d2:=by
 induction ls1 generalizing ds with
 |nil=>exact⟨[],ds,rfl,.nil,h⟩
 |cons l ls ih=>
  obtain⟨d,r,rfl,h1,h2⟩:=h.inv
  obtain⟨d1,d2,rfl,h3,h4⟩:=ih h2
  exact⟨d::d1,d2,rfl,.cons _ _ _ _ h1 h3,h4⟩
theorem ZKI {ds:List Dat} (h:OkDs tE [.bool] ds):∃n,ds=boE n∧BdT n:=by
 obtain⟨_,_,rfl,i,h⟩:=h.inv
 obtain rfl:=h.nil_inv
 obtain⟨n,rfl⟩:=i.bool'
 exact⟨n,rfl,trivial⟩
theorem ZCD {ds:List Dat} (h:OkDs tE [.int .i64,.int .i64,.int .i64] ds):∃x:Rw,ds=Rw.e x∧Rw.bd x:=by
 obtain⟨_,_,rfl,i0,h⟩:=h.inv
 obtain⟨_,_,rfl,i1,h⟩:=h.inv
 obtain⟨_,_,rfl,i2,h⟩:=h.inv
 obtain rfl:=h.nil_inv
 obtain⟨n0,rfl,j0⟩:=i0.i64
 obtain⟨n1,rfl,j1⟩:=i1.i64
 obtain⟨n2,rfl,j2⟩:=i2.i64
 exact⟨⟨n0,n1,n2⟩,rfl,⟨j0,j1,j2⟩⟩
theorem ZKJ {ds:List Dat} (h:OkDs tE [.int .i64,.int .i64,.int .i64,.int .i64,.int .i64,.int .i64,.bool] ds):∃x:Pr,ds=Pr.e x∧Pr.bd x:=by
 obtain⟨_,_,rfl,i0,h⟩:=h.inv
 obtain⟨_,_,rfl,i1,h⟩:=h.inv
 obtain⟨_,_,rfl,i2,h⟩:=h.inv
 obtain⟨_,_,rfl,i3,h⟩:=h.inv
 obtain⟨_,_,rfl,i4,h⟩:=h.inv
 obtain⟨_,_,rfl,i5,h⟩:=h.inv
 obtain⟨_,_,rfl,i6,h⟩:=h.inv
 obtain rfl:=h.nil_inv
 obtain⟨n0,rfl,j0⟩:=i0.i64
 obtain⟨n1,rfl,j1⟩:=i1.i64
 obtain⟨n2,rfl,j2⟩:=i2.i64
 obtain⟨n3,rfl,j3⟩:=i3.i64
 obtain⟨n4,rfl,j4⟩:=i4.i64
 obtain⟨n5,rfl,j5⟩:=i5.i64
 obtain⟨n6,rfl⟩:=i6.bool'
 exact⟨⟨⟨n0,n1,n2⟩,⟨n3,n4,n5⟩,n6⟩,rfl,⟨⟨j0,j1,j2⟩,⟨j3,j4,j5⟩,trivial⟩⟩
theorem ZJZ {ds:List Dat} (h:OkDs tE [.int .i64,.int .i64,.int .i64,.int .i64,.int .i64] ds):∃x:Gr,ds=Gr.e x∧Gr.bd x:=by
 obtain⟨_,_,rfl,i0,h⟩:=h.inv
 obtain⟨_,_,rfl,i1,h⟩:=h.inv
 obtain⟨_,_,rfl,i2,h⟩:=h.inv
 obtain⟨_,_,rfl,i3,h⟩:=h.inv
 obtain⟨_,_,rfl,i4,h⟩:=h.inv
 obtain rfl:=h.nil_inv
 obtain⟨n0,rfl,j0⟩:=i0.i64
 obtain⟨n1,rfl,j1⟩:=i1.i64
 obtain⟨n2,rfl,j2⟩:=i2.i64
 obtain⟨n3,rfl,j3⟩:=i3.i64
 obtain⟨n4,rfl,j4⟩:=i4.i64
 exact⟨⟨n0,n1,n2,n3,n4⟩,rfl,⟨j0,j1,j2,j3,j4⟩⟩
theorem ZH5 {ds:List Dat} (h:OkDs tE [.int .i64,.int .i64,.int .i64] ds):∃x:Cl,ds=Cl.e x∧Cl.bd x:=by
 obtain⟨_,_,rfl,i0,h⟩:=h.inv
 obtain⟨_,_,rfl,i1,h⟩:=h.inv
 obtain⟨_,_,rfl,i2,h⟩:=h.inv
 obtain rfl:=h.nil_inv
 obtain⟨n0,rfl,j0⟩:=i0.i64
 obtain⟨n1,rfl,j1⟩:=i1.i64
 obtain⟨n2,rfl,j2⟩:=i2.i64
 exact⟨⟨n0,n1,n2⟩,rfl,⟨j0,j1,j2⟩⟩
theorem ZIf {ds:List Dat} (h:OkDs tE [.int .i64,.sl 242,.sl 242,.sl 4,.int .i64] ds):∃x:Tk,ds=Tk.e x∧Tk.bd x:=by
 obtain⟨_,_,rfl,i0,h⟩:=h.inv
 obtain⟨_,_,rfl,i1,h⟩:=h.inv
 obtain⟨_,_,rfl,i2,h⟩:=h.inv
 obtain⟨_,_,rfl,i3,h⟩:=h.inv
 obtain⟨_,_,rfl,i4,h⟩:=h.inv
 obtain rfl:=h.nil_inv
 obtain⟨n0,rfl,j0⟩:=i0.i64
 obtain⟨n1,rfl,j1⟩:=ZAu (te:=⟨[.int .i64,.int .i64,.int .i64],24,true,[(0,3),(1,3),(2,3)]⟩) rfl (by decide) ZCD i1
 obtain⟨n2,rfl,j2⟩:=ZAu (te:=⟨[.int .i64,.int .i64,.int .i64],24,true,[(0,3),(1,3),(2,3)]⟩) rfl (by decide) ZCD i2
 obtain⟨n3,rfl,j3⟩:=ZAu (te:=⟨[.bool],1,false,[]⟩) rfl (by decide) ZKI i3
 obtain⟨n4,rfl,j4⟩:=i4.i64
 exact⟨⟨n0,n1,n2,n3,n4⟩,rfl,⟨j0,j1,j2,j3,j4⟩⟩
theorem ZEE {ds:List Dat} (h:OkDs tE [.sl 242,.int .i64] ds):∃x:Gt,ds=Gt.e x∧Gt.bd x:=by
 obtain⟨_,_,rfl,i0,h⟩:=h.inv
 obtain⟨_,_,rfl,i1,h⟩:=h.inv
 obtain rfl:=h.nil_inv
 obtain⟨n0,rfl,j0⟩:=ZAu (te:=⟨[.int .i64,.int .i64,.int .i64],24,true,[(0,3),(1,3),(2,3)]⟩) rfl (by decide) ZCD i0
 obtain⟨n1,rfl,j1⟩:=i1.i64
 exact⟨⟨n0,n1⟩,rfl,⟨j0,j1⟩⟩
theorem ZJw {ds:List Dat} (h:OkDs tE [.sl 242] ds):∃x:List Rw,ds=rsE x∧rsB x:=by
 obtain⟨_,_,rfl,i0,h⟩:=h.inv
 obtain rfl:=h.nil_inv
 obtain⟨n0,rfl,j0⟩:=ZAu (te:=⟨[.int .i64,.int .i64,.int .i64],24,true,[(0,3),(1,3),(2,3)]⟩) rfl (by decide) ZCD i0
 exact⟨n0,rfl,j0⟩
theorem ZLL {ds:List Dat} (h:OkDs tE [.int .i64,.sl 242,.int .i64,.sl 242,.sl 242,.sl 242,.sl 345,.int .i64,.int .i64,.int .i64,.int .i64,.sl 348,.int .i64,.int .i64,.sl 351,.int .i64,.bool] ds):∃x:Opr,ds=Opr.e x∧Opr.bd x:=by
 obtain⟨_,_,rfl,i0,h⟩:=h.inv
 obtain⟨_,_,rfl,i1,h⟩:=h.inv
 obtain⟨_,_,rfl,i2,h⟩:=h.inv
 obtain⟨_,_,rfl,i3,h⟩:=h.inv
 obtain⟨_,_,rfl,i4,h⟩:=h.inv
 obtain⟨_,_,rfl,i5,h⟩:=h.inv
 obtain⟨_,_,rfl,i6,h⟩:=h.inv
 obtain⟨_,_,rfl,i7,h⟩:=h.inv
 obtain⟨_,_,rfl,i8,h⟩:=h.inv
 obtain⟨_,_,rfl,i9,h⟩:=h.inv
 obtain⟨_,_,rfl,i10,h⟩:=h.inv
 obtain⟨_,_,rfl,i11,h⟩:=h.inv
 obtain⟨_,_,rfl,i12,h⟩:=h.inv
 obtain⟨_,_,rfl,i13,h⟩:=h.inv
 obtain⟨_,_,rfl,i14,h⟩:=h.inv
 obtain⟨_,_,rfl,i15,h⟩:=h.inv
 obtain⟨_,_,rfl,i16,h⟩:=h.inv
 obtain rfl:=h.nil_inv
 obtain⟨n0,rfl,j0⟩:=i0.i64
 obtain⟨n1,rfl,j1⟩:=ZAu (te:=⟨[.int .i64,.int .i64,.int .i64],24,true,[(0,3),(1,3),(2,3)]⟩) rfl (by decide) ZCD i1
 obtain⟨n2,rfl,j2⟩:=i2.i64
 obtain⟨n3,rfl,j3⟩:=ZAu (te:=⟨[.int .i64,.int .i64,.int .i64],24,true,[(0,3),(1,3),(2,3)]⟩) rfl (by decide) ZCD i3
 obtain⟨n4,rfl,j4⟩:=ZAu (te:=⟨[.int .i64,.int .i64,.int .i64],24,true,[(0,3),(1,3),(2,3)]⟩) rfl (by decide) ZCD i4
 obtain⟨n5,rfl,j5⟩:=ZAu (te:=⟨[.int .i64,.int .i64,.int .i64],24,true,[(0,3),(1,3),(2,3)]⟩) rfl (by decide) ZCD i5
 obtain⟨n6,rfl,j6⟩:=ZAu (te:=⟨[.sl 242],24,true,[(0,28)]⟩) rfl (by decide) ZJw i6
 obtain⟨n7,rfl,j7⟩:=i7.i64
 obtain⟨n8,rfl,j8⟩:=i8.i64
 obtain⟨n9,rfl,j9⟩:=i9.i64
 obtain⟨n10,rfl,j10⟩:=i10.i64
 obtain⟨n11,rfl,j11⟩:=ZAu (te:=⟨[.int .i64,.sl 242,.sl 242,.sl 4,.int .i64],88,true,[(0,3),(1,28),(2,28),(3,200),(4,3)]⟩) rfl (by decide) ZIf i11
 obtain⟨n12,rfl,j12⟩:=i12.i64
 obtain⟨n13,rfl,j13⟩:=i13.i64
 obtain⟨n14,rfl,j14⟩:=ZAu (te:=⟨[.sl 242,.int .i64],32,true,[(0,28),(1,3)]⟩) rfl (by decide) ZEE i14
 obtain⟨n15,rfl,j15⟩:=i15.i64
 obtain⟨n16,rfl⟩:=i16.bool'
 exact⟨⟨n0,⟨n1,n2,n3,n4,n5,n6,n7,n8,n9,n10⟩,⟨n11,n12,n13⟩,⟨n14,n15,n16⟩⟩,rfl,⟨j0,⟨j1,j2,j3,j4,j5,j6,j7,j8,j9,j10⟩,⟨j11,j12,j13⟩,⟨j14,j15,trivial⟩⟩⟩
theorem ZKK {ds:List Dat} (h:OkDs tE [.int .i64,.int .i64,.sl 242,.int .i64,.sl 242,.sl 242,.sl 242,.sl 345,.int .i64,.int .i64,.int .i64,.int .i64,.sl 348,.int .i64,.int .i64,.sl 351,.int .i64,.bool,.sl 242,.sl 396,.sl 398,.bool] ds):∃x:Sl,ds=Sl.e x∧Sl.bd x:=by
 obtain⟨_,_,rfl,i0,h⟩:=h.inv
 obtain⟨_,_,rfl,i1,h⟩:=h.inv
 obtain⟨_,_,rfl,i2,h⟩:=h.inv
 obtain⟨_,_,rfl,i3,h⟩:=h.inv
 obtain⟨_,_,rfl,i4,h⟩:=h.inv
 obtain⟨_,_,rfl,i5,h⟩:=h.inv
 obtain⟨_,_,rfl,i6,h⟩:=h.inv
 obtain⟨_,_,rfl,i7,h⟩:=h.inv
 obtain⟨_,_,rfl,i8,h⟩:=h.inv
 obtain⟨_,_,rfl,i9,h⟩:=h.inv
 obtain⟨_,_,rfl,i10,h⟩:=h.inv
 obtain⟨_,_,rfl,i11,h⟩:=h.inv
 obtain⟨_,_,rfl,i12,h⟩:=h.inv
 obtain⟨_,_,rfl,i13,h⟩:=h.inv
 obtain⟨_,_,rfl,i14,h⟩:=h.inv
 obtain⟨_,_,rfl,i15,h⟩:=h.inv
 obtain⟨_,_,rfl,i16,h⟩:=h.inv
 obtain⟨_,_,rfl,i17,h⟩:=h.inv
 obtain⟨_,_,rfl,i18,h⟩:=h.inv
 obtain⟨_,_,rfl,i19,h⟩:=h.inv
 obtain⟨_,_,rfl,i20,h⟩:=h.inv
 obtain⟨_,_,rfl,i21,h⟩:=h.inv
 obtain rfl:=h.nil_inv
 obtain⟨n0,rfl,j0⟩:=i0.i64
 obtain⟨n1,rfl,j1⟩:=i1.i64
 obtain⟨n2,rfl,j2⟩:=ZAu (te:=⟨[.int .i64,.int .i64,.int .i64],24,true,[(0,3),(1,3),(2,3)]⟩) rfl (by decide) ZCD i2
 obtain⟨n3,rfl,j3⟩:=i3.i64
 obtain⟨n4,rfl,j4⟩:=ZAu (te:=⟨[.int .i64,.int .i64,.int .i64],24,true,[(0,3),(1,3),(2,3)]⟩) rfl (by decide) ZCD i4
 obtain⟨n5,rfl,j5⟩:=ZAu (te:=⟨[.int .i64,.int .i64,.int .i64],24,true,[(0,3),(1,3),(2,3)]⟩) rfl (by decide) ZCD i5
 obtain⟨n6,rfl,j6⟩:=ZAu (te:=⟨[.int .i64,.int .i64,.int .i64],24,true,[(0,3),(1,3),(2,3)]⟩) rfl (by decide) ZCD i6
 obtain⟨n7,rfl,j7⟩:=ZAu (te:=⟨[.sl 242],24,true,[(0,28)]⟩) rfl (by decide) ZJw i7
 obtain⟨n8,rfl,j8⟩:=i8.i64
 obtain⟨n9,rfl,j9⟩:=i9.i64
 obtain⟨n10,rfl,j10⟩:=i10.i64
 obtain⟨n11,rfl,j11⟩:=i11.i64
 obtain⟨n12,rfl,j12⟩:=ZAu (te:=⟨[.int .i64,.sl 242,.sl 242,.sl 4,.int .i64],88,true,[(0,3),(1,28),(2,28),(3,200),(4,3)]⟩) rfl (by decide) ZIf i12
 obtain⟨n13,rfl,j13⟩:=i13.i64
 obtain⟨n14,rfl,j14⟩:=i14.i64
 obtain⟨n15,rfl,j15⟩:=ZAu (te:=⟨[.sl 242,.int .i64],32,true,[(0,28),(1,3)]⟩) rfl (by decide) ZEE i15
 obtain⟨n16,rfl,j16⟩:=i16.i64
 obtain⟨n17,rfl⟩:=i17.bool'
 obtain⟨n18,rfl,j18⟩:=ZAu (te:=⟨[.int .i64,.int .i64,.int .i64],24,true,[(0,3),(1,3),(2,3)]⟩) rfl (by decide) ZCD i18
 obtain⟨n19,rfl,j19⟩:=ZAu (te:=⟨[.int .i64,.int .i64,.int .i64,.int .i64,.int .i64,.int .i64,.bool],56,true,[(0,242),(3,242),(6,4)]⟩) rfl (by decide) ZKJ i19
 obtain⟨n20,rfl,j20⟩:=ZAu (te:=⟨[.int .i64,.int .i64,.int .i64,.int .i64,.int .i64],40,true,[(0,3),(1,3),(2,3),(3,3),(4,3)]⟩) rfl (by decide) ZJZ i20
 obtain⟨n21,rfl⟩:=i21.bool'
 exact⟨⟨n0,⟨n1,⟨n2,n3,n4,n5,n6,n7,n8,n9,n10,n11⟩,⟨n12,n13,n14⟩,⟨n15,n16,n17⟩⟩,⟨n18,n19,n20⟩,n21⟩,rfl,⟨j0,⟨j1,⟨j2,j3,j4,j5,j6,j7,j8,j9,j10,j11⟩,⟨j12,j13,j14⟩,⟨j15,j16,trivial⟩⟩,⟨j18,j19,j20⟩,trivial⟩⟩
theorem ZIg {ds:List Dat} (h:OkDs tE [.int .i64,.int .i64,.sl 355,.sl 355,.sl 253,.int .i64] ds):∃x:Sy,ds=Sy.e x∧Sy.bd x:=by
 obtain⟨_,_,rfl,i0,h⟩:=h.inv
 obtain⟨_,_,rfl,i1,h⟩:=h.inv
 obtain⟨_,_,rfl,i2,h⟩:=h.inv
 obtain⟨_,_,rfl,i3,h⟩:=h.inv
 obtain⟨_,_,rfl,i4,h⟩:=h.inv
 obtain⟨_,_,rfl,i5,h⟩:=h.inv
 obtain rfl:=h.nil_inv
 obtain⟨n0,rfl,j0⟩:=i0.i64
 obtain⟨n1,rfl,j1⟩:=i1.i64
 obtain⟨n2,rfl,j2⟩:=ZAu (te:=⟨[.int .i64,.int .i64,.int .i64],24,true,[(0,3),(1,3),(2,3)]⟩) rfl (by decide) ZH5 i2
 obtain⟨n3,rfl,j3⟩:=ZAu (te:=⟨[.int .i64,.int .i64,.int .i64],24,true,[(0,3),(1,3),(2,3)]⟩) rfl (by decide) ZH5 i3
 obtain⟨n4,rfl,j4⟩:=ZAu (te:=⟨[.int .i64,.int .i64,.sl 242,.int .i64,.sl 242,.sl 242,.sl 242,.sl 345,.int .i64,.int .i64,.int .i64,.int .i64,.sl 348,.int .i64,.int .i64,.sl 351,.int .i64,.bool,.sl 242,.sl 396,.sl 398,.bool],336,true,[(0,3),(1,39),(18,251),(21,4)]⟩) rfl (by decide) ZKK i4
 obtain⟨n5,rfl,j5⟩:=i5.i64
 exact⟨⟨⟨n0,n1,n2,n3⟩,n4,n5⟩,rfl,⟨⟨j0,j1,j2,j3⟩,j4,j5⟩⟩
theorem ZIh (x:Rw):callI tE ZAW [.int x.k,.int x.v,.int x.w]=some [.int x.k,.int x.v,.int x.w]:=by
 simp only[ZGf,gA]
theorem ZCS (l:List Rw) (h:l.length≤1048576):callI tE Z6J [.sl (l.map Rw.e)]=some [.sl (l.map Rw.e)]:=by
 have hl:l.length≤1048576:=h
 rw[ZGD]
 have:=ZC2 (L:=Z9n) (e:=Rw.e) (z:=[.int 0,.int 0,.int 0]) (P:=fun a=>(fun _=>0) a≤1048576) (fun p q p' q' a _ hpl hlt=>by
  rw[ZBn]
  simp only[Z6H,Z6C,Z6v,Z68,cond_true,cond_false,gA,Z7J hpl,ZB9 hpl,Rw.e,ZIh a,setRange,List.set_cons_zero,List.set_cons_succ]) (fun p p' hpl=>by
  rw[ZBn,Z6I,cond_false]) l [] [] rfl (fun a ha=>Nat.zero_le _) (by simp;omega)
 simp only[List.nil_append,List.length_nil,Int.ofNat_zero,Int.natCast_zero]at this
 rw[ZCP,Z6n,Z9y (by show(l.map Rw.e).length*_≤_;rw[List.length_map];omega)]
 simp only[Bool.and_self,cond_true]
 rw[show tn (lenI (l.map Rw.e))=l.length by show(l.map Rw.e).length=_;simp]
 exact this
theorem ZCT (l:List Rw) (n:Int) (h0:0≤n) (h1:n≤1048576) (h:BdL Rw.bd l):callI tE Z6P [.sl (l.map Rw.e),.int n]=some [.int (szv n l.length)]:=by
 rw[ZGB]
 exact ZEr h0 h1 (by simp) h.1
theorem ZIi (x y:Rw):callI tE ZAY [.int x.k,.int x.v,.int x.w,.int y.k,.int y.v,.int y.w]=some [.bool (decide (x=y))]:=by
 have e:decide (x=y)=(decide (x.k=y.k)&&(decide (x.v=y.v)&&(decide (x.w=y.w)))):=by
  cases x;cases y
  simp only[Rw.mk.injEq,Bool.decide_and]
 simp only[gA,eqI,eqBo,e,Z9N,Bool.and_true,ZGj]
theorem ZCU (l l':List Rw) (h:l.length≤1152921504606846976):callI tE Z6K [.sl (l.map Rw.e),.sl (l'.map Rw.e)]=some [.bool (decide (l=l'))]:=by
 have hl:l.length≤1152921504606846976:=h
 rw[ZGF]
 by_cases hll:l.length=l'.length
 ·rw[ZC6 hll,Bool.not_true,cond_false]
  have:=ZA9 (L:=Z9o) (e:=Rw.e) (P:=fun a=>(fun _=>0) a≤1152921504606846976) (fun p q p' q' a b _ hpl hlt=>by
   rw[ZBo]
   simp only[Z6H,Z6C,Z6v,Z68,cond_true,cond_false,gA,Z7J hpl,ZAs hpl,Rw.e,ZIi a b,ZGk]) (fun p p' hpl=>by
   rw[ZBo,Z6I,cond_false]) l l' [] [] rfl hll (fun a ha=>Nat.zero_le _) (by simp;omega)
  simpa using this
 ·rw[ZC7 hll,Bool.not_false,cond_true,decide_eq_false (fun e=>hll (by rw[e]))]
theorem Z7b (l:List Rw) (k:Int) (h0:0≤k) (h1:k+Za Rw.ct l<4611686018427387904) (h2:l.length≤1152921504606846976):callI tE Z5m [.sl (l.map Rw.e),.int k]=some [.int (k+Za Rw.ct l),.sl ((mkL Rw.mkm Rw.ct l k).map Rw.e)]:=by
 have hl:l.length≤1152921504606846976:=h2
 rw[ZEm]
 have:=Z8l (L:=Z8V) (e:=Rw.e) (f:=Rw.mkm) (c:=Rw.ct) (g:=(fun _=>0)) (fun p q a k h0 hc hg hlt=>by
  rw[show k+((Rw.ct a:Nat):Int)=k+1+1+1 by simp only[Rw.ct];omega]
  rw[ZAy]
  simp only[Z6H,Z6C,Z6v,Z68,cond_true,cond_false,gA,ZBT,Rw.e,Rw.mkm,Z5W (n:=k+1) (by simp only[Rw.ct]at hc;omega),Z5W (n:=k+1+1) (by simp only[Rw.ct]at hc;omega),Z5W (n:=k+1+1+1) (by simp only[Rw.ct]at hc;omega),setRange,List.set_cons_zero,List.set_cons_succ]) (fun p k=>by
  rw[ZAy,Z6I,cond_false]) l [] k h0 h1 (by rw[Z9p];exact h2) (by simp;omega)
 simpa using this
theorem Z9x (l:List Rw) (k:Int) (h0:0≤k) (h1:k+Za Rw.ct l<4611686018427387904) (h2:l.length≤1152921504606846976):callI tE Z5t [.sl ((mkL Rw.mkm Rw.ct l k).map Rw.e),.int k]=some [.int (k+Za Rw.ct l)]:=by
 have hl:l.length≤1152921504606846976:=h2
 rw[ZEn]
 have:=Z8m (L:=Z8W) (e:=Rw.e) (f:=Rw.mkm) (c:=Rw.ct) (g:=(fun _=>0)) (fun p q a k h0 hc hg hlt=>by
  rw[show k+((Rw.ct a:Nat):Int)=k+1+1+1 by simp only[Rw.ct];omega]
  rw[ZAz]
  simp only[Z6H,Z6C,Z6v,Z68,cond_true,cond_false,gA,Rw.e,Rw.mkm,Z5W (n:=k+1) (by simp only[Rw.ct]at hc;omega),Z5W (n:=k+1+1) (by simp only[Rw.ct]at hc;omega),Z5W (n:=k+1+1+1) (by simp only[Rw.ct]at hc;omega),Z6n,Z8k,Bool.not_true,ZDS h0]) (fun p k=>by
  rw[ZAz,Z6I,cond_false]) l [] k h0 h1 (by rw[Z9p];exact h2) (by simp;omega)
 simpa using this
theorem ZJa (l:List Bool) (h:l.length≤1048576):callI tE ZAI [.sl (l.map boE)]=some [.sl (l.map boE)]:=by
 have hl:l.length≤1048576:=h
 rw[ZFZ]
 have:=ZC2 (L:=Z96) (e:=boE) (z:=[.bool false]) (P:=fun a=>(fun _=>0) a≤1048576) (fun p q p' q' a _ hpl hlt=>by
  rw[ZBR]
  simp only[Z6H,Z6C,Z6v,Z68,cond_true,cond_false,gA,Z7J hpl,ZB9 hpl,boE,setRange,List.set_cons_zero,List.set_cons_succ]) (fun p p' hpl=>by
  rw[ZBR,Z6I,cond_false]) l [] [] rfl (fun a ha=>Nat.zero_le _) (by simp;omega)
 simp only[List.nil_append,List.length_nil,Int.ofNat_zero,Int.natCast_zero]at this
 rw[ZCP,Z6n,Z9y (by show(l.map boE).length*_≤_;rw[List.length_map];omega)]
 simp only[Bool.and_self,cond_true]
 rw[show tn (lenI (l.map boE))=l.length by show(l.map boE).length=_;simp]
 exact this
theorem ZJb (l:List Bool) (n:Int) (h0:0≤n) (h1:n≤1048576) (h:BdL BdT l):callI tE ZBu [.sl (l.map boE),.int n]=some [.int (szv n l.length)]:=by
 rw[ZFX]
 exact ZEr h0 h1 (by simp) h.1
theorem ZJc (l l':List Bool) (h:l.length≤1152921504606846976):callI tE ZAO [.sl (l.map boE),.sl (l'.map boE)]=some [.bool (decide (l=l'))]:=by
 have hl:l.length≤1152921504606846976:=h
 rw[ZFb]
 by_cases hll:l.length=l'.length
 ·rw[ZC6 hll,Bool.not_true,cond_false]
  have:=ZA9 (L:=Z97) (e:=boE) (P:=fun a=>(fun _=>0) a≤1152921504606846976) (fun p q p' q' a b _ hpl hlt=>by
   rw[ZBS]
   simp only[Z6H,Z6C,Z6v,Z68,cond_true,cond_false,gA,Z7J hpl,ZAs hpl,boE,eqBo,ZGk]) (fun p p' hpl=>by
   rw[ZBS,Z6I,cond_false]) l l' [] [] rfl hll (fun a ha=>Nat.zero_le _) (by simp;omega)
  simpa using this
 ·rw[ZC7 hll,Bool.not_false,cond_true,decide_eq_false (fun e=>hll (by rw[e]))]
theorem ZI0 (l:List Bool) (k:Int) (h0:0≤k) (h1:k+Za c1 l<4611686018427387904) (h2:l.length≤1152921504606846976):callI tE Z90 [.sl (l.map boE),.int k]=some [.int (k+Za c1 l),.sl ((mkL mkB c1 l k).map boE)]:=by
 have hl:l.length≤1152921504606846976:=h2
 rw[ZEL]
 have:=Z8l (L:=Z82) (e:=boE) (f:=mkB) (c:=c1) (g:=(fun _=>0)) (fun p q a k h0 hc hg hlt=>by
  rw[show k+((c1 a:Nat):Int)=k+1 by simp only[c1];omega]
  rw[ZAc]
  simp only[Z6H,Z6C,Z6v,Z68,cond_true,cond_false,gA,ZBT,boE,mkB,Z5W (n:=k+1) (by simp only[c1]at hc;omega),setRange,List.set_cons_zero,List.set_cons_succ]) (fun p k=>by
  rw[ZAc,Z6I,cond_false]) l [] k h0 h1 (by rw[Z9p];exact h2) (by simp;omega)
 simpa using this
theorem ZI1 (l:List Bool) (k:Int) (h0:0≤k) (h1:k+Za c1 l<4611686018427387904) (h2:l.length≤1152921504606846976):callI tE Z93 [.sl ((mkL mkB c1 l k).map boE),.int k]=some [.int (k+Za c1 l)]:=by
 have hl:l.length≤1152921504606846976:=h2
 rw[ZEM]
 have:=Z8m (L:=Z83) (e:=boE) (f:=mkB) (c:=c1) (g:=(fun _=>0)) (fun p q a k h0 hc hg hlt=>by
  rw[show k+((c1 a:Nat):Int)=k+1 by simp only[c1];omega]
  rw[ZAd]
  simp only[Z6H,Z6C,Z6v,Z68,cond_true,cond_false,gA,boE,mkB,Z5W (n:=k+1) (by simp only[c1]at hc;omega),Z6n,Z8k,Bool.not_true,ZDS h0]) (fun p k=>by
  rw[ZAd,Z6I,cond_false]) l [] k h0 h1 (by rw[Z9p];exact h2) (by simp;omega)
 simpa using this
theorem ZL1 (x:List Rw) (h:x.length≤1048576):callI tE ZCb [.sl (x.map Rw.e)]=some [.sl (x.map Rw.e)]:=by
 simp only[ZGq,ZCS x (by exact h),gA]
theorem ZKL (l:List (List Rw)) (h:szL List.length l≤1048576):callI tE ZB6 [.sl (l.map rsE)]=some [.sl (l.map rsE)]:=by
 have hl:l.length≤1048576:=(Nat.le_trans (Z63 _ _) h)
 rw[ZGI]
 have:=ZC2 (L:=Z9r) (e:=rsE) (z:=[.sl []]) (P:=fun a=>List.length a≤1048576) (fun p q p' q' a hP hpl hlt=>by
  rw[ZBr]
  simp only[Z6H,Z6C,Z6v,Z68,cond_true,cond_false,gA,Z7J hpl,ZB9 hpl,rsE,ZL1 a hP,setRange,List.set_cons_zero,List.set_cons_succ]) (fun p p' hpl=>by
  rw[ZBr,Z6I,cond_false]) l [] [] rfl (fun a ha=>Nat.le_trans (Z8K ha) h) (by simp;omega)
 simp only[List.nil_append,List.length_nil,Int.ofNat_zero,Int.natCast_zero]at this
 rw[ZCP,Z6n,Z9y (by show(l.map rsE).length*_≤_;rw[List.length_map];omega)]
 simp only[Bool.and_self,cond_true]
 rw[show tn (lenI (l.map rsE))=l.length by show(l.map rsE).length=_;simp]
 exact this
theorem ZL2 (x:List Rw) (n:Int) (h0:0≤n) (h1:n≤1048576) (h:rsB x):callI tE ZCZ [.sl (x.map Rw.e),.int n]=some [.int (szv n (x.length))]:=by
 rw[ZGp]
 have b0:BdL Rw.bd x:=h
 rw[ZCT x n (by omega) (by omega) b0]
 simp only[gA]
 exact ZBU (by omega)
theorem ZKM (l:List (List Rw)) (n:Int) (h0:0≤n) (h1:n≤1048576) (h:BdL rsB l):callI tE ZB5 [.sl (l.map rsE),.int n]=some [.int (szv n (szL List.length l))]:=by
 have hl:l.length≤1152921504606846976:=h.1
 rw[ZGG,ZEq]
 refine ZHY (X:=fun m=>Z8L (l.map rsE) m 0) h0 h1 (List.length_map _) hl fun h2=>?_
 have:=ZEp (L:=Z8L) (e:=rsE) (g:=List.length) (P:=rsB) (fun p q a n hP h0 h1 hlt=>by
  rw[ZBq]
  simp only[Z6H,Z6C,Z6v,Z68,cond_true,cond_false,gA,rsE,ZL2 a n h0 h1 hP]) (fun p n=>by
  rw[ZBq,Z6I,cond_false]) l [] (n-l.length) (fun a ha=>h.2 a ha) (by omega) (by omega) (by simp;omega)
 simpa using this
theorem ZL3 (x y:List Rw) (h:x.length≤1152921504606846976):callI tE ZCd [.sl (x.map Rw.e),.sl (y.map Rw.e)]=some [.bool (decide (x=y))]:=by
 simp only[ZGs,ZCU x y h,gA,Z9N,Bool.and_true]
theorem ZKN (l l':List (List Rw)) (h:szL List.length l≤1152921504606846976):callI tE ZB7 [.sl (l.map rsE),.sl (l'.map rsE)]=some [.bool (decide (l=l'))]:=by
 have hl:l.length≤1152921504606846976:=(Nat.le_trans (Z63 _ _) h)
 rw[ZGJ]
 by_cases hll:l.length=l'.length
 ·rw[ZC6 hll,Bool.not_true,cond_false]
  have:=ZA9 (L:=Z9t) (e:=rsE) (P:=fun a=>List.length a≤1152921504606846976) (fun p q p' q' a b hP hpl hlt=>by
   rw[ZBs]
   simp only[Z6H,Z6C,Z6v,Z68,cond_true,cond_false,gA,Z7J hpl,ZAs hpl,rsE,ZL3 a b hP,ZGk]) (fun p p' hpl=>by
   rw[ZBs,Z6I,cond_false]) l l' [] [] rfl hll (fun a ha=>Nat.le_trans (Z8K ha) h) (by simp;omega)
  simpa using this
 ·rw[ZC7 hll,Bool.not_false,cond_true,decide_eq_false (fun e=>hll (by rw[e]))]
theorem ZH6 (l:List (List Rw)) (k:Int) (h0:0≤k) (h1:k+Za (Za Rw.ct) l<4611686018427387904) (h2:szL List.length l≤1152921504606846976):callI tE Z8I [.sl (l.map rsE),.int k]=some [.int (k+Za (Za Rw.ct) l),.sl ((mkL (mkL Rw.mkm Rw.ct) (Za Rw.ct) l k).map rsE)]:=by
 have hl:l.length≤1152921504606846976:=(Nat.le_trans (Z63 _ _) h2)
 rw[ZF1]
 have:=Z8l (L:=Z8X) (e:=rsE) (f:=(mkL Rw.mkm Rw.ct)) (c:=(Za Rw.ct)) (g:=List.length) (fun p q a k h0 hc hg hlt=>by
  rw[ZB1]
  simp only[Z6H,Z6C,Z6v,Z68,cond_true,cond_false,gA,ZBT,rsE,Z7b a k h0 hc hg,setRange,List.set_cons_zero,List.set_cons_succ]) (fun p k=>by
  rw[ZB1,Z6I,cond_false]) l [] k h0 h1 (by exact h2) (by simp;omega)
 simpa using this
theorem ZIj (l:List (List Rw)) (k:Int) (h0:0≤k) (h1:k+Za (Za Rw.ct) l<4611686018427387904) (h2:szL List.length l≤1152921504606846976):callI tE Z9k [.sl ((mkL (mkL Rw.mkm Rw.ct) (Za Rw.ct) l k).map rsE),.int k]=some [.int (k+Za (Za Rw.ct) l)]:=by
 have hl:l.length≤1152921504606846976:=(Nat.le_trans (Z63 _ _) h2)
 rw[ZF2]
 have:=Z8m (L:=Z8Y) (e:=rsE) (f:=(mkL Rw.mkm Rw.ct)) (c:=(Za Rw.ct)) (g:=List.length) (fun p q a k h0 hc hg hlt=>by
  rw[ZB2]
  simp only[Z6H,Z6C,Z6v,Z68,cond_true,cond_false,gA,rsE,Z9x a k h0 hc hg,Z6n,Z8k,Bool.not_true,ZDS h0]) (fun p k=>by
  rw[ZB2,Z6I,cond_false]) l [] k h0 h1 (by exact h2) (by simp;omega)
 simpa using this
theorem ZIk (x:So) (h:x.sz≤1048576):callI tE ZBI [.sl (x.inp.map Rw.e),.int x.pos,.sl (x.heap.map Rw.e),.sl (x.dfd.map Rw.e),.sl (x.out.map Rw.e),.sl (x.runs.map rsE),.int x.lp,.int x.rp,.int x.ph,.int x.wr]=some [.sl (x.inp.map Rw.e),.int x.pos,.sl (x.heap.map Rw.e),.sl (x.dfd.map Rw.e),.sl (x.out.map Rw.e),.sl (x.runs.map rsE),.int x.lp,.int x.rp,.int x.ph,.int x.wr]:=by
 simp only[ZEy,ZCS x.inp (by simp only[So.sz]at h;omega),ZCS x.heap (by simp only[So.sz]at h;omega),ZCS x.dfd (by simp only[So.sz]at h;omega),ZCS x.out (by simp only[So.sz]at h;omega),ZKL x.runs (by simp only[So.sz]at h;omega),gA]
theorem ZIl (x:So) (n:Int) (h0:0≤n) (h1:n≤1048576) (h:x.bd):callI tE ZBB [.sl (x.inp.map Rw.e),.int x.pos,.sl (x.heap.map Rw.e),.sl (x.dfd.map Rw.e),.sl (x.out.map Rw.e),.sl (x.runs.map rsE),.int x.lp,.int x.rp,.int x.ph,.int x.wr,.int n]=some [.int (szv n (x.sz))]:=by
 rw[ZEx]
 simp only[So.sz]
 obtain⟨b0,_,b2,b3,b4,b5,_,_,_,_⟩:=h
 rw[ZCT x.inp n (by omega) (by omega) b0]
 simp only[gA]
 refine Z7R (by omega) fun h0 g0=>?_
 rw[g0]
 rw[ZCT x.heap (n-(x.inp.length:Nat)) (by omega) (by omega) b2]
 simp only[gA]
 refine Z7R (by omega) fun h1 g1=>?_
 rw[g1]
 rw[ZCT x.dfd (n-(x.inp.length:Nat)-(x.heap.length:Nat)) (by omega) (by omega) b3]
 simp only[gA]
 refine Z7R (by omega) fun h2 g2=>?_
 rw[g2]
 rw[ZCT x.out (n-(x.inp.length:Nat)-(x.heap.length:Nat)-(x.dfd.length:Nat)) (by omega) (by omega) b4]
 simp only[gA]
 refine Z7R (by omega) fun h3 g3=>?_
 rw[g3]
 rw[ZKM x.runs (n-(x.inp.length:Nat)-(x.heap.length:Nat)-(x.dfd.length:Nat)-(x.out.length:Nat)) (by omega) (by omega) b5]
 simp only[gA]
 exact ZBU (by omega)
theorem ZIm (x y:So) (h:x.sz≤1152921504606846976):callI tE ZBN [.sl (x.inp.map Rw.e),.int x.pos,.sl (x.heap.map Rw.e),.sl (x.dfd.map Rw.e),.sl (x.out.map Rw.e),.sl (x.runs.map rsE),.int x.lp,.int x.rp,.int x.ph,.int x.wr,.sl (y.inp.map Rw.e),.int y.pos,.sl (y.heap.map Rw.e),.sl (y.dfd.map Rw.e),.sl (y.out.map Rw.e),.sl (y.runs.map rsE),.int y.lp,.int y.rp,.int y.ph,.int y.wr]=some [.bool (decide (x=y))]:=by
 have e:decide (x=y)=(decide (x.inp=y.inp)&&(decide (x.pos=y.pos)&&(decide (x.heap=y.heap)&&(decide (x.dfd=y.dfd)&&(decide (x.out=y.out)&&(decide (x.runs=y.runs)&&(decide (x.lp=y.lp)&&(decide (x.rp=y.rp)&&(decide (x.ph=y.ph)&&(decide (x.wr=y.wr))))))))))):=by
  cases x;cases y
  simp only[So.mk.injEq,Bool.decide_and]
 simp only[ZCU x.inp y.inp (by simp only[So.sz]at h;omega),ZCU x.heap y.heap (by simp only[So.sz]at h;omega),ZCU x.dfd y.dfd (by simp only[So.sz]at h;omega),ZCU x.out y.out (by simp only[So.sz]at h;omega),ZKN x.runs y.runs (by simp only[So.sz]at h;omega),gA,eqI,eqBo,e,Z9N,Bool.and_true,ZF0]
theorem ZHQ (x:So) (k:Int) (h0:0≤k) (h1:k+(Za Rw.ct x.inp:Nat)+(Za Rw.ct x.heap:Nat)+(Za Rw.ct x.dfd:Nat)+(Za Rw.ct x.out:Nat)+(Za (Za Rw.ct) x.runs:Nat)<4611686018427387904) (h2:x.sz≤1152921504606846976):callI tE ZA5 [.sl (x.inp.map Rw.e),.int x.pos,.sl (x.heap.map Rw.e),.sl (x.dfd.map Rw.e),.sl (x.out.map Rw.e),.sl (x.runs.map rsE),.int x.lp,.int x.rp,.int x.ph,.int x.wr,.int k]=some [.int (k+(Za Rw.ct x.inp:Nat)+(Za Rw.ct x.heap:Nat)+(Za Rw.ct x.dfd:Nat)+(Za Rw.ct x.out:Nat)+(Za (Za Rw.ct) x.runs:Nat)),.sl ((mkL Rw.mkm Rw.ct x.inp k).map Rw.e),.sl ((mkL Rw.mkm Rw.ct x.heap (k+(Za Rw.ct x.inp:Nat))).map Rw.e),.sl ((mkL Rw.mkm Rw.ct x.dfd (k+(Za Rw.ct x.inp:Nat)+(Za Rw.ct x.heap:Nat))).map Rw.e),.sl ((mkL Rw.mkm Rw.ct x.out (k+(Za Rw.ct x.inp:Nat)+(Za Rw.ct x.heap:Nat)+(Za Rw.ct x.dfd:Nat))).map Rw.e),.sl ((mkL (mkL Rw.mkm Rw.ct) (Za Rw.ct) x.runs (k+(Za Rw.ct x.inp:Nat)+(Za Rw.ct x.heap:Nat)+(Za Rw.ct x.dfd:Nat)+(Za Rw.ct x.out:Nat))).map rsE)]:=by
 simp only[ZDt,Z7b x.inp k (by omega) (by omega) (by simp only[So.sz]at h2;omega),Z7b x.heap (k+(Za Rw.ct x.inp:Nat)) (by omega) (by omega) (by simp only[So.sz]at h2;omega),Z7b x.dfd (k+(Za Rw.ct x.inp:Nat)+(Za Rw.ct x.heap:Nat)) (by omega) (by omega) (by simp only[So.sz]at h2;omega),Z7b x.out (k+(Za Rw.ct x.inp:Nat)+(Za Rw.ct x.heap:Nat)+(Za Rw.ct x.dfd:Nat)) (by omega) (by omega) (by simp only[So.sz]at h2;omega),ZH6 x.runs (k+(Za Rw.ct x.inp:Nat)+(Za Rw.ct x.heap:Nat)+(Za Rw.ct x.dfd:Nat)+(Za Rw.ct x.out:Nat)) (by omega) (by omega) (by simp only[So.sz]at h2;omega),gA]
theorem ZKO (x:Pr):callI tE ZCJ [.int x.l.k,.int x.l.v,.int x.l.w,.int x.r.k,.int x.r.v,.int x.r.w,.bool x.m]=some [.int x.l.k,.int x.l.v,.int x.l.w,.int x.r.k,.int x.r.v,.int x.r.w,.bool x.m]:=by
 simp only[ZGQ,ZIh x.l,ZIh x.r,gA]
theorem ZJd (l:List Pr) (h:l.length≤1048576):callI tE ZAK [.sl (l.map Pr.e)]=some [.sl (l.map Pr.e)]:=by
 have hl:l.length≤1048576:=h
 rw[ZFo]
 have:=ZC2 (L:=Z9C) (e:=Pr.e) (z:=[.int 0,.int 0,.int 0,.int 0,.int 0,.int 0,.bool false]) (P:=fun a=>(fun _=>0) a≤1048576) (fun p q p' q' a _ hpl hlt=>by
  rw[ZBb]
  simp only[Z6H,Z6C,Z6v,Z68,cond_true,cond_false,gA,Z7J hpl,ZB9 hpl,Pr.e,ZKO a,setRange,List.set_cons_zero,List.set_cons_succ]) (fun p p' hpl=>by
  rw[ZBb,Z6I,cond_false]) l [] [] rfl (fun a ha=>Nat.zero_le _) (by simp;omega)
 simp only[List.nil_append,List.length_nil,Int.ofNat_zero,Int.natCast_zero]at this
 rw[ZCP,Z6n,Z9y (by show(l.map Pr.e).length*_≤_;rw[List.length_map];omega)]
 simp only[Bool.and_self,cond_true]
 rw[show tn (lenI (l.map Pr.e))=l.length by show(l.map Pr.e).length=_;simp]
 exact this
theorem ZJe (l:List Pr) (n:Int) (h0:0≤n) (h1:n≤1048576) (h:BdL Pr.bd l):callI tE ZBv [.sl (l.map Pr.e),.int n]=some [.int (szv n l.length)]:=by
 rw[ZFj]
 exact ZEr h0 h1 (by simp) h.1
theorem ZKP (x y:Pr):callI tE ZCN [.int x.l.k,.int x.l.v,.int x.l.w,.int x.r.k,.int x.r.v,.int x.r.w,.bool x.m,.int y.l.k,.int y.l.v,.int y.l.w,.int y.r.k,.int y.r.v,.int y.r.w,.bool y.m]=some [.bool (decide (x=y))]:=by
 have e:decide (x=y)=(decide (x.l=y.l)&&(decide (x.r=y.r)&&(decide (x.m=y.m)))):=by
  cases x;cases y
  simp only[Pr.mk.injEq,Bool.decide_and]
 simp only[ZIi x.l y.l,ZIi x.r y.r,gA,eqI,eqBo,e,Z9N,Bool.and_true,ZGS]
theorem ZJf (l l':List Pr) (h:l.length≤1152921504606846976):callI tE ZAQ [.sl (l.map Pr.e),.sl (l'.map Pr.e)]=some [.bool (decide (l=l'))]:=by
 have hl:l.length≤1152921504606846976:=h
 rw[ZFs]
 by_cases hll:l.length=l'.length
 ·rw[ZC6 hll,Bool.not_true,cond_false]
  have:=ZA9 (L:=Z9E) (e:=Pr.e) (P:=fun a=>(fun _=>0) a≤1152921504606846976) (fun p q p' q' a b _ hpl hlt=>by
   rw[ZBd]
   simp only[Z6H,Z6C,Z6v,Z68,cond_true,cond_false,gA,Z7J hpl,ZAs hpl,Pr.e,ZKP a b,ZGk]) (fun p p' hpl=>by
   rw[ZBd,Z6I,cond_false]) l l' [] [] rfl hll (fun a ha=>Nat.zero_le _) (by simp;omega)
  simpa using this
 ·rw[ZC7 hll,Bool.not_false,cond_true,decide_eq_false (fun e=>hll (by rw[e]))]
theorem ZI2 (l:List Pr) (k:Int) (h0:0≤k) (h1:k+Za Pr.ct l<4611686018427387904) (h2:l.length≤1152921504606846976):callI tE Z8z [.sl (l.map Pr.e),.int k]=some [.int (k+Za Pr.ct l),.sl ((mkL Pr.mkm Pr.ct l k).map Pr.e)]:=by
 have hl:l.length≤1152921504606846976:=h2
 rw[ZEP]
 have:=Z8l (L:=Z85) (e:=Pr.e) (f:=Pr.mkm) (c:=Pr.ct) (g:=(fun _=>0)) (fun p q a k h0 hc hg hlt=>by
  rw[show k+((Pr.ct a:Nat):Int)=k+1+1+1+1+1+1+1 by simp only[Pr.ct];omega]
  rw[ZAg]
  simp only[Z6H,Z6C,Z6v,Z68,cond_true,cond_false,gA,ZBT,Pr.e,Pr.mkm,Z5W (n:=k+1) (by simp only[Pr.ct]at hc;omega),Z5W (n:=k+1+1) (by simp only[Pr.ct]at hc;omega),Z5W (n:=k+1+1+1) (by simp only[Pr.ct]at hc;omega),Z5W (n:=k+1+1+1+1) (by simp only[Pr.ct]at hc;omega),Z5W (n:=k+1+1+1+1+1) (by simp only[Pr.ct]at hc;omega),Z5W (n:=k+1+1+1+1+1+1) (by simp only[Pr.ct]at hc;omega),Z5W (n:=k+1+1+1+1+1+1+1) (by simp only[Pr.ct]at hc;omega),setRange,List.set_cons_zero,List.set_cons_succ]) (fun p k=>by
  rw[ZAg,Z6I,cond_false]) l [] k h0 h1 (by rw[Z9p];exact h2) (by simp;omega)
 simpa using this
theorem ZI3 (l:List Pr) (k:Int) (h0:0≤k) (h1:k+Za Pr.ct l<4611686018427387904) (h2:l.length≤1152921504606846976):callI tE Z92 [.sl ((mkL Pr.mkm Pr.ct l k).map Pr.e),.int k]=some [.int (k+Za Pr.ct l)]:=by
 have hl:l.length≤1152921504606846976:=h2
 rw[ZER]
 have:=Z8m (L:=Z87) (e:=Pr.e) (f:=Pr.mkm) (c:=Pr.ct) (g:=(fun _=>0)) (fun p q a k h0 hc hg hlt=>by
  rw[show k+((Pr.ct a:Nat):Int)=k+1+1+1+1+1+1+1 by simp only[Pr.ct];omega]
  rw[ZAi]
  simp only[Z6H,Z6C,Z6v,Z68,cond_true,cond_false,gA,Pr.e,Pr.mkm,Z5W (n:=k+1) (by simp only[Pr.ct]at hc;omega),Z5W (n:=k+1+1) (by simp only[Pr.ct]at hc;omega),Z5W (n:=k+1+1+1) (by simp only[Pr.ct]at hc;omega),Z5W (n:=k+1+1+1+1) (by simp only[Pr.ct]at hc;omega),Z5W (n:=k+1+1+1+1+1) (by simp only[Pr.ct]at hc;omega),Z5W (n:=k+1+1+1+1+1+1) (by simp only[Pr.ct]at hc;omega),Z5W (n:=k+1+1+1+1+1+1+1) (by simp only[Pr.ct]at hc;omega),Z6n,Z8k,Bool.not_true,ZDS h0]) (fun p k=>by
  rw[ZAi,Z6I,cond_false]) l [] k h0 h1 (by rw[Z9p];exact h2) (by simp;omega)
 simpa using this
theorem ZJg (x:Gr):callI tE ZBz [.int x.key,.int x.cnt,.int x.sum,.int x.lo,.int x.hi]=some [.int x.key,.int x.cnt,.int x.sum,.int x.lo,.int x.hi]:=by
 simp only[ZFp,gA]
theorem ZIn (l:List Gr) (h:l.length≤1048576):callI tE Z9c [.sl (l.map Gr.e)]=some [.sl (l.map Gr.e)]:=by
 have hl:l.length≤1048576:=h
 rw[ZFA]
 have:=ZC2 (L:=Z8Z) (e:=Gr.e) (z:=[.int 0,.int 0,.int 0,.int 0,.int 0]) (P:=fun a=>(fun _=>0) a≤1048576) (fun p q p' q' a _ hpl hlt=>by
  rw[ZB3]
  simp only[Z6H,Z6C,Z6v,Z68,cond_true,cond_false,gA,Z7J hpl,ZB9 hpl,Gr.e,ZJg a,setRange,List.set_cons_zero,List.set_cons_succ]) (fun p p' hpl=>by
  rw[ZB3,Z6I,cond_false]) l [] [] rfl (fun a ha=>Nat.zero_le _) (by simp;omega)
 simp only[List.nil_append,List.length_nil,Int.ofNat_zero,Int.natCast_zero]at this
 rw[ZCP,Z6n,Z9y (by show(l.map Gr.e).length*_≤_;rw[List.length_map];omega)]
 simp only[Bool.and_self,cond_true]
 rw[show tn (lenI (l.map Gr.e))=l.length by show(l.map Gr.e).length=_;simp]
 exact this
theorem ZIo (l:List Gr) (n:Int) (h0:0≤n) (h1:n≤1048576) (h:BdL Gr.bd l):callI tE ZBD [.sl (l.map Gr.e),.int n]=some [.int (szv n l.length)]:=by
 rw[ZF6]
 exact ZEr h0 h1 (by simp) h.1
theorem ZJh (x y:Gr):callI tE ZC0 [.int x.key,.int x.cnt,.int x.sum,.int x.lo,.int x.hi,.int y.key,.int y.cnt,.int y.sum,.int y.lo,.int y.hi]=some [.bool (decide (x=y))]:=by
 have e:decide (x=y)=(decide (x.key=y.key)&&(decide (x.cnt=y.cnt)&&(decide (x.sum=y.sum)&&(decide (x.lo=y.lo)&&(decide (x.hi=y.hi)))))):=by
  cases x;cases y
  simp only[Gr.mk.injEq,Bool.decide_and]
 simp only[gA,eqI,eqBo,e,Z9N,Bool.and_true,ZFt]
theorem ZIp (l l':List Gr) (h:l.length≤1152921504606846976):callI tE Z9j [.sl (l.map Gr.e),.sl (l'.map Gr.e)]=some [.bool (decide (l=l'))]:=by
 have hl:l.length≤1152921504606846976:=h
 rw[ZFE]
 by_cases hll:l.length=l'.length
 ·rw[ZC6 hll,Bool.not_true,cond_false]
  have:=ZA9 (L:=Z8a) (e:=Gr.e) (P:=fun a=>(fun _=>0) a≤1152921504606846976) (fun p q p' q' a b _ hpl hlt=>by
   rw[ZB4]
   simp only[Z6H,Z6C,Z6v,Z68,cond_true,cond_false,gA,Z7J hpl,ZAs hpl,Gr.e,ZJh a b,ZGk]) (fun p p' hpl=>by
   rw[ZB4,Z6I,cond_false]) l l' [] [] rfl hll (fun a ha=>Nat.zero_le _) (by simp;omega)
  simpa using this
 ·rw[ZC7 hll,Bool.not_false,cond_true,decide_eq_false (fun e=>hll (by rw[e]))]
theorem ZHR (l:List Gr) (k:Int) (h0:0≤k) (h1:k+Za Gr.ct l<4611686018427387904) (h2:l.length≤1152921504606846976):callI tE Z8P [.sl (l.map Gr.e),.int k]=some [.int (k+Za Gr.ct l),.sl ((mkL Gr.mkm Gr.ct l k).map Gr.e)]:=by
 have hl:l.length≤1152921504606846976:=h2
 rw[ZDx]
 have:=Z8l (L:=Z7k) (e:=Gr.e) (f:=Gr.mkm) (c:=Gr.ct) (g:=(fun _=>0)) (fun p q a k h0 hc hg hlt=>by
  rw[show k+((Gr.ct a:Nat):Int)=k+1+1+1+1+1 by simp only[Gr.ct];omega]
  rw[ZA0]
  simp only[Z6H,Z6C,Z6v,Z68,cond_true,cond_false,gA,ZBT,Gr.e,Gr.mkm,Z5W (n:=k+1) (by simp only[Gr.ct]at hc;omega),Z5W (n:=k+1+1) (by simp only[Gr.ct]at hc;omega),Z5W (n:=k+1+1+1) (by simp only[Gr.ct]at hc;omega),Z5W (n:=k+1+1+1+1) (by simp only[Gr.ct]at hc;omega),Z5W (n:=k+1+1+1+1+1) (by simp only[Gr.ct]at hc;omega),setRange,List.set_cons_zero,List.set_cons_succ]) (fun p k=>by
  rw[ZA0,Z6I,cond_false]) l [] k h0 h1 (by rw[Z9p];exact h2) (by simp;omega)
 simpa using this
theorem ZHS (l:List Gr) (k:Int) (h0:0≤k) (h1:k+Za Gr.ct l<4611686018427387904) (h2:l.length≤1152921504606846976):callI tE Z8Q [.sl ((mkL Gr.mkm Gr.ct l k).map Gr.e),.int k]=some [.int (k+Za Gr.ct l)]:=by
 have hl:l.length≤1152921504606846976:=h2
 rw[ZDz]
 have:=Z8m (L:=Z7l) (e:=Gr.e) (f:=Gr.mkm) (c:=Gr.ct) (g:=(fun _=>0)) (fun p q a k h0 hc hg hlt=>by
  rw[show k+((Gr.ct a:Nat):Int)=k+1+1+1+1+1 by simp only[Gr.ct];omega]
  rw[ZA1]
  simp only[Z6H,Z6C,Z6v,Z68,cond_true,cond_false,gA,Gr.e,Gr.mkm,Z5W (n:=k+1) (by simp only[Gr.ct]at hc;omega),Z5W (n:=k+1+1) (by simp only[Gr.ct]at hc;omega),Z5W (n:=k+1+1+1) (by simp only[Gr.ct]at hc;omega),Z5W (n:=k+1+1+1+1) (by simp only[Gr.ct]at hc;omega),Z5W (n:=k+1+1+1+1+1) (by simp only[Gr.ct]at hc;omega),Z6n,Z8k,Bool.not_true,ZDS h0]) (fun p k=>by
  rw[ZA1,Z6I,cond_false]) l [] k h0 h1 (by rw[Z9p];exact h2) (by simp;omega)
 simpa using this
theorem ZKQ (x:Tk) (h:x.sz≤1048576):callI tE ZCI [.int x.kind,.sl (x.left.map Rw.e),.sl (x.right.map Rw.e),.sl (x.mat.map boE),.int x.level]=some [.int x.kind,.sl (x.left.map Rw.e),.sl (x.right.map Rw.e),.sl (x.mat.map boE),.int x.level]:=by
 simp only[ZGP,ZCS x.left (by simp only[Tk.sz]at h;omega),ZCS x.right (by simp only[Tk.sz]at h;omega),ZJa x.mat (by simp only[Tk.sz]at h;omega),gA]
theorem ZJi (l:List Tk) (h:szL Tk.sz l≤1048576):callI tE ZAJ [.sl (l.map Tk.e)]=some [.sl (l.map Tk.e)]:=by
 have hl:l.length≤1048576:=(Nat.le_trans (Z63 _ _) h)
 rw[ZFn]
 have:=ZC2 (L:=Z9B) (e:=Tk.e) (z:=[.int 0,.sl [],.sl [],.sl [],.int 0]) (P:=fun a=>Tk.sz a≤1048576) (fun p q p' q' a hP hpl hlt=>by
  rw[ZBa]
  simp only[Z6H,Z6C,Z6v,Z68,cond_true,cond_false,gA,Z7J hpl,ZB9 hpl,Tk.e,ZKQ a hP,setRange,List.set_cons_zero,List.set_cons_succ]) (fun p p' hpl=>by
  rw[ZBa,Z6I,cond_false]) l [] [] rfl (fun a ha=>Nat.le_trans (Z8K ha) h) (by simp;omega)
 simp only[List.nil_append,List.length_nil,Int.ofNat_zero,Int.natCast_zero]at this
 rw[ZCP,Z6n,Z9y (by show(l.map Tk.e).length*_≤_;rw[List.length_map];omega)]
 simp only[Bool.and_self,cond_true]
 rw[show tn (lenI (l.map Tk.e))=l.length by show(l.map Tk.e).length=_;simp]
 exact this
theorem ZKR (x:Tk) (n:Int) (h0:0≤n) (h1:n≤1048576) (h:x.bd):callI tE ZCE [.int x.kind,.sl (x.left.map Rw.e),.sl (x.right.map Rw.e),.sl (x.mat.map boE),.int x.level,.int n]=some [.int (szv n (x.sz))]:=by
 rw[ZGO]
 simp only[Tk.sz]
 obtain⟨_,b1,b2,b3,_⟩:=h
 rw[ZCT x.left n (by omega) (by omega) b1]
 simp only[gA]
 refine Z7R (by omega) fun h0 g0=>?_
 rw[g0]
 rw[ZCT x.right (n-(x.left.length:Nat)) (by omega) (by omega) b2]
 simp only[gA]
 refine Z7R (by omega) fun h1 g1=>?_
 rw[g1]
 rw[ZJb x.mat (n-(x.left.length:Nat)-(x.right.length:Nat)) (by omega) (by omega) b3]
 simp only[gA]
 exact ZBU (by omega)
theorem ZJj (l:List Tk) (n:Int) (h0:0≤n) (h1:n≤1048576) (h:BdL Tk.bd l):callI tE ZAB [.sl (l.map Tk.e),.int n]=some [.int (szv n (szL Tk.sz l))]:=by
 have hl:l.length≤1152921504606846976:=h.1
 rw[ZFi,ZEq]
 refine ZHY (X:=fun m=>Z7r (l.map Tk.e) m 0) h0 h1 (List.length_map _) hl fun h2=>?_
 have:=ZEp (L:=Z7r) (e:=Tk.e) (g:=Tk.sz) (P:=Tk.bd) (fun p q a n hP h0 h1 hlt=>by
  rw[ZBX]
  simp only[Z6H,Z6C,Z6v,Z68,cond_true,cond_false,gA,Tk.e,ZKR a n h0 h1 hP]) (fun p n=>by
  rw[ZBX,Z6I,cond_false]) l [] (n-l.length) (fun a ha=>h.2 a ha) (by omega) (by omega) (by simp;omega)
 simpa using this
theorem ZKS (x y:Tk) (h:x.sz≤1152921504606846976):callI tE ZCL [.int x.kind,.sl (x.left.map Rw.e),.sl (x.right.map Rw.e),.sl (x.mat.map boE),.int x.level,.int y.kind,.sl (y.left.map Rw.e),.sl (y.right.map Rw.e),.sl (y.mat.map boE),.int y.level]=some [.bool (decide (x=y))]:=by
 have e:decide (x=y)=(decide (x.kind=y.kind)&&(decide (x.left=y.left)&&(decide (x.right=y.right)&&(decide (x.mat=y.mat)&&(decide (x.level=y.level)))))):=by
  cases x;cases y
  simp only[Tk.mk.injEq,Bool.decide_and]
 simp only[ZCU x.left y.left (by simp only[Tk.sz]at h;omega),ZCU x.right y.right (by simp only[Tk.sz]at h;omega),ZJc x.mat y.mat (by simp only[Tk.sz]at h;omega),gA,eqI,eqBo,e,Z9N,Bool.and_true,ZGR]
theorem ZJk (l l':List Tk) (h:szL Tk.sz l≤1152921504606846976):callI tE ZAP [.sl (l.map Tk.e),.sl (l'.map Tk.e)]=some [.bool (decide (l=l'))]:=by
 have hl:l.length≤1152921504606846976:=(Nat.le_trans (Z63 _ _) h)
 rw[ZFr]
 by_cases hll:l.length=l'.length
 ·rw[ZC6 hll,Bool.not_true,cond_false]
  have:=ZA9 (L:=Z9D) (e:=Tk.e) (P:=fun a=>Tk.sz a≤1152921504606846976) (fun p q p' q' a b hP hpl hlt=>by
   rw[ZBc]
   simp only[Z6H,Z6C,Z6v,Z68,cond_true,cond_false,gA,Z7J hpl,ZAs hpl,Tk.e,ZKS a b hP,ZGk]) (fun p p' hpl=>by
   rw[ZBc,Z6I,cond_false]) l l' [] [] rfl hll (fun a ha=>Nat.le_trans (Z8K ha) h) (by simp;omega)
  simpa using this
 ·rw[ZC7 hll,Bool.not_false,cond_true,decide_eq_false (fun e=>hll (by rw[e]))]
theorem ZG7 (l:List Tk) (k:Int) (h0:0≤k) (h1:k+Za Tk.ct l<4611686018427387904) (h2:szL Tk.sz l≤1152921504606846976):callI tE Z7q [.sl (l.map Tk.e),.int k]=some [.int (k+Za Tk.ct l),.sl ((mkL Tk.mkm Tk.ct l k).map Tk.e)]:=by
 have hl:l.length≤1152921504606846976:=(Nat.le_trans (Z63 _ _) h2)
 rw[ZEQ]
 have:=Z8l (L:=Z86) (e:=Tk.e) (f:=Tk.mkm) (c:=Tk.ct) (g:=Tk.sz) (fun p q a k h0 hc hg hlt=>by
  rw[show k+((Tk.ct a:Nat):Int)=k+1+(Za Rw.ct a.left:Nat)+(Za Rw.ct a.right:Nat)+(Za c1 a.mat:Nat)+1 by simp only[Tk.ct];omega]
  rw[ZAh]
  simp only[Z6H,Z6C,Z6v,Z68,cond_true,cond_false,gA,ZBT,Tk.e,Tk.mkm,Z7b a.left (k+1) (by omega) (by simp only[Tk.ct]at hc;omega) (by simp only[Tk.sz]at hg;omega),Z7b a.right (k+1+(Za Rw.ct a.left:Nat)) (by omega) (by simp only[Tk.ct]at hc;omega) (by simp only[Tk.sz]at hg;omega),ZI0 a.mat (k+1+(Za Rw.ct a.left:Nat)+(Za Rw.ct a.right:Nat)) (by omega) (by simp only[Tk.ct]at hc;omega) (by simp only[Tk.sz]at hg;omega),Z5W (n:=k+1) (by simp only[Tk.ct]at hc;omega),Z5W (n:=k+1+(Za Rw.ct a.left:Nat)+(Za Rw.ct a.right:Nat)+(Za c1 a.mat:Nat)+1) (by simp only[Tk.ct]at hc;omega),setRange,List.set_cons_zero,List.set_cons_succ]) (fun p k=>by
  rw[ZAh,Z6I,cond_false]) l [] k h0 h1 (by exact h2) (by simp;omega)
 simpa using this
theorem ZI4 (l:List Tk) (k:Int) (h0:0≤k) (h1:k+Za Tk.ct l<4611686018427387904) (h2:szL Tk.sz l≤1152921504606846976):callI tE Z94 [.sl ((mkL Tk.mkm Tk.ct l k).map Tk.e),.int k]=some [.int (k+Za Tk.ct l)]:=by
 have hl:l.length≤1152921504606846976:=(Nat.le_trans (Z63 _ _) h2)
 rw[ZES]
 have:=Z8m (L:=Z88) (e:=Tk.e) (f:=Tk.mkm) (c:=Tk.ct) (g:=Tk.sz) (fun p q a k h0 hc hg hlt=>by
  rw[show k+((Tk.ct a:Nat):Int)=k+1+(Za Rw.ct a.left:Nat)+(Za Rw.ct a.right:Nat)+(Za c1 a.mat:Nat)+1 by simp only[Tk.ct];omega]
  rw[ZAj]
  simp only[Z6H,Z6C,Z6v,Z68,cond_true,cond_false,gA,Tk.e,Tk.mkm,Z9x a.left (k+1) (by omega) (by simp only[Tk.ct]at hc;omega) (by simp only[Tk.sz]at hg;omega),ltF (a:=k+1+(Za Rw.ct a.left:Nat)) (b:=0) (by omega),Z9x a.right (k+1+(Za Rw.ct a.left:Nat)) (by omega) (by simp only[Tk.ct]at hc;omega) (by simp only[Tk.sz]at hg;omega),ltF (a:=k+1+(Za Rw.ct a.left:Nat)+(Za Rw.ct a.right:Nat)) (b:=0) (by omega),ZI1 a.mat (k+1+(Za Rw.ct a.left:Nat)+(Za Rw.ct a.right:Nat)) (by omega) (by simp only[Tk.ct]at hc;omega) (by simp only[Tk.sz]at hg;omega),ltF (a:=k+1+(Za Rw.ct a.left:Nat)+(Za Rw.ct a.right:Nat)+(Za c1 a.mat:Nat)) (b:=0) (by omega),Z5W (n:=k+1) (by simp only[Tk.ct]at hc;omega),Z5W (n:=k+1+(Za Rw.ct a.left:Nat)+(Za Rw.ct a.right:Nat)+(Za c1 a.mat:Nat)+1) (by simp only[Tk.ct]at hc;omega),Z6n,Z8k,Bool.not_true,ZDS h0]) (fun p k=>by
  rw[ZAj,Z6I,cond_false]) l [] k h0 h1 (by exact h2) (by simp;omega)
 simpa using this
theorem ZH7 (x:Gt) (h:x.sz≤1048576):callI tE Z9b [.sl (x.rows.map Rw.e),.int x.level]=some [.sl (x.rows.map Rw.e),.int x.level]:=by
 simp only[ZDd,ZCS x.rows (by simp only[Gt.sz]at h;omega),gA]
theorem ZGZ (l:List Gt) (h:szL Gt.sz l≤1048576):callI tE Z7g [.sl (l.map Gt.e)]=some [.sl (l.map Gt.e)]:=by
 have hl:l.length≤1048576:=(Nat.le_trans (Z63 _ _) h)
 rw[ZDF]
 have:=ZC2 (L:=Z7G) (e:=Gt.e) (z:=[.sl [],.int 0]) (P:=fun a=>Gt.sz a≤1048576) (fun p q p' q' a hP hpl hlt=>by
  rw[Z9U]
  simp only[Z6H,Z6C,Z6v,Z68,cond_true,cond_false,gA,Z7J hpl,ZB9 hpl,Gt.e,ZH7 a hP,setRange,List.set_cons_zero,List.set_cons_succ]) (fun p p' hpl=>by
  rw[Z9U,Z6I,cond_false]) l [] [] rfl (fun a ha=>Nat.le_trans (Z8K ha) h) (by simp;omega)
 simp only[List.nil_append,List.length_nil,Int.ofNat_zero,Int.natCast_zero]at this
 rw[ZCP,Z6n,Z9y (by show(l.map Gt.e).length*_≤_;rw[List.length_map];omega)]
 simp only[Bool.and_self,cond_true]
 rw[show tn (lenI (l.map Gt.e))=l.length by show(l.map Gt.e).length=_;simp]
 exact this
theorem ZH8 (x:Gt) (n:Int) (h0:0≤n) (h1:n≤1048576) (h:x.bd):callI tE Z9X [.sl (x.rows.map Rw.e),.int x.level,.int n]=some [.int (szv n (x.sz))]:=by
 rw[ZDb]
 simp only[Gt.sz]
 obtain⟨b0,_⟩:=h
 rw[ZCT x.rows n (by omega) (by omega) b0]
 simp only[gA]
 exact ZBU (by omega)
theorem ZGa (l:List Gt) (n:Int) (h0:0≤n) (h1:n≤1048576) (h:BdL Gt.bd l):callI tE Z7d [.sl (l.map Gt.e),.int n]=some [.int (szv n (szL Gt.sz l))]:=by
 have hl:l.length≤1152921504606846976:=h.1
 rw[ZDD,ZEq]
 refine ZHY (X:=fun m=>Z6d (l.map Gt.e) m 0) h0 h1 (List.length_map _) hl fun h2=>?_
 have:=ZEp (L:=Z6d) (e:=Gt.e) (g:=Gt.sz) (P:=Gt.bd) (fun p q a n hP h0 h1 hlt=>by
  rw[Z9T]
  simp only[Z6H,Z6C,Z6v,Z68,cond_true,cond_false,gA,Gt.e,ZH8 a n h0 h1 hP]) (fun p n=>by
  rw[Z9T,Z6I,cond_false]) l [] (n-l.length) (fun a ha=>h.2 a ha) (by omega) (by omega) (by simp;omega)
 simpa using this
theorem ZH9 (x y:Gt) (h:x.sz≤1152921504606846976):callI tE Z9i [.sl (x.rows.map Rw.e),.int x.level,.sl (y.rows.map Rw.e),.int y.level]=some [.bool (decide (x=y))]:=by
 have e:decide (x=y)=(decide (x.rows=y.rows)&&(decide (x.level=y.level))):=by
  cases x;cases y
  simp only[Gt.mk.injEq,Bool.decide_and]
 simp only[ZCU x.rows y.rows (by simp only[Gt.sz]at h;omega),gA,eqI,eqBo,e,Z9N,Bool.and_true,ZDh]
theorem ZGb (l l':List Gt) (h:szL Gt.sz l≤1152921504606846976):callI tE Z7j [.sl (l.map Gt.e),.sl (l'.map Gt.e)]=some [.bool (decide (l=l'))]:=by
 have hl:l.length≤1152921504606846976:=(Nat.le_trans (Z63 _ _) h)
 rw[ZDH]
 by_cases hll:l.length=l'.length
 ·rw[ZC6 hll,Bool.not_true,cond_false]
  have:=ZA9 (L:=Z7H) (e:=Gt.e) (P:=fun a=>Gt.sz a≤1152921504606846976) (fun p q p' q' a b hP hpl hlt=>by
   rw[Z9V]
   simp only[Z6H,Z6C,Z6v,Z68,cond_true,cond_false,gA,Z7J hpl,ZAs hpl,Gt.e,ZH9 a b hP,ZGk]) (fun p p' hpl=>by
   rw[Z9V,Z6I,cond_false]) l l' [] [] rfl hll (fun a ha=>Nat.le_trans (Z8K ha) h) (by simp;omega)
  simpa using this
 ·rw[ZC7 hll,Bool.not_false,cond_true,decide_eq_false (fun e=>hll (by rw[e]))]
theorem ZCq (l:List Gt) (k:Int) (h0:0≤k) (h1:k+Za Gt.ct l<4611686018427387904) (h2:szL Gt.sz l≤1152921504606846976):callI tE Z6c [.sl (l.map Gt.e),.int k]=some [.int (k+Za Gt.ct l),.sl ((mkL Gt.mkm Gt.ct l k).map Gt.e)]:=by
 have hl:l.length≤1152921504606846976:=(Nat.le_trans (Z63 _ _) h2)
 rw[ZCm]
 have:=Z8l (L:=Z6q) (e:=Gt.e) (f:=Gt.mkm) (c:=Gt.ct) (g:=Gt.sz) (fun p q a k h0 hc hg hlt=>by
  rw[show k+((Gt.ct a:Nat):Int)=k+(Za Rw.ct a.rows:Nat)+1 by simp only[Gt.ct];omega]
  rw[Z8b]
  simp only[Z6H,Z6C,Z6v,Z68,cond_true,cond_false,gA,ZBT,Gt.e,Gt.mkm,Z7b a.rows k (by omega) (by simp only[Gt.ct]at hc;omega) (by simp only[Gt.sz]at hg;omega),Z5W (n:=k+(Za Rw.ct a.rows:Nat)+1) (by simp only[Gt.ct]at hc;omega),setRange,List.set_cons_zero,List.set_cons_succ]) (fun p k=>by
  rw[Z8b,Z6I,cond_false]) l [] k h0 h1 (by exact h2) (by simp;omega)
 simpa using this
theorem ZFT (l:List Gt) (k:Int) (h0:0≤k) (h1:k+Za Gt.ct l<4611686018427387904) (h2:szL Gt.sz l≤1152921504606846976):callI tE Z73 [.sl ((mkL Gt.mkm Gt.ct l k).map Gt.e),.int k]=some [.int (k+Za Gt.ct l)]:=by
 have hl:l.length≤1152921504606846976:=(Nat.le_trans (Z63 _ _) h2)
 rw[ZCo]
 have:=Z8m (L:=Z6r) (e:=Gt.e) (f:=Gt.mkm) (c:=Gt.ct) (g:=Gt.sz) (fun p q a k h0 hc hg hlt=>by
  rw[show k+((Gt.ct a:Nat):Int)=k+(Za Rw.ct a.rows:Nat)+1 by simp only[Gt.ct];omega]
  rw[Z8c]
  simp only[Z6H,Z6C,Z6v,Z68,cond_true,cond_false,gA,Gt.e,Gt.mkm,Z9x a.rows k (by omega) (by simp only[Gt.ct]at hc;omega) (by simp only[Gt.sz]at hg;omega),ltF (a:=k+(Za Rw.ct a.rows:Nat)) (b:=0) (by omega),Z5W (n:=k+(Za Rw.ct a.rows:Nat)+1) (by simp only[Gt.ct]at hc;omega),Z6n,Z8k,Bool.not_true,ZDS h0]) (fun p k=>by
  rw[Z8c,Z6I,cond_false]) l [] k h0 h1 (by exact h2) (by simp;omega)
 simpa using this
theorem ZIq (x:Jn) (h:x.sz≤1048576):callI tE ZBJ [.sl (x.pend.map Tk.e),.int x.wr,.int x.parts]=some [.sl (x.pend.map Tk.e),.int x.wr,.int x.parts]:=by
 simp only[ZF9,ZJi x.pend (by simp only[Jn.sz]at h;omega),gA]
theorem ZGc (x:Ag) (h:x.sz≤1048576):callI tE Z9J [.sl (x.pend.map Gt.e),.int x.wr,.bool x.early]=some [.sl (x.pend.map Gt.e),.int x.wr,.bool x.early]:=by
 simp only[ZDG,ZGZ x.pend (by simp only[Ag.sz]at h;omega),gA]
theorem ZL4 (x:Opr) (h:x.sz≤1048576):callI tE Z9K [.int x.kind,.sl (x.so.inp.map Rw.e),.int x.so.pos,.sl (x.so.heap.map Rw.e),.sl (x.so.dfd.map Rw.e),.sl (x.so.out.map Rw.e),.sl (x.so.runs.map rsE),.int x.so.lp,.int x.so.rp,.int x.so.ph,.int x.so.wr,.sl (x.jn.pend.map Tk.e),.int x.jn.wr,.int x.jn.parts,.sl (x.ag.pend.map Gt.e),.int x.ag.wr,.bool x.ag.early]=some [.int x.kind,.sl (x.so.inp.map Rw.e),.int x.so.pos,.sl (x.so.heap.map Rw.e),.sl (x.so.dfd.map Rw.e),.sl (x.so.out.map Rw.e),.sl (x.so.runs.map rsE),.int x.so.lp,.int x.so.rp,.int x.so.ph,.int x.so.wr,.sl (x.jn.pend.map Tk.e),.int x.jn.wr,.int x.jn.parts,.sl (x.ag.pend.map Gt.e),.int x.ag.wr,.bool x.ag.early]:=by
 simp only[ZHM,ZIk x.so (by simp only[Opr.sz]at h;omega),ZIq x.jn (by simp only[Opr.sz]at h;omega),ZGc x.ag (by simp only[Opr.sz]at h;omega),gA]
theorem ZIr (x:Ou) (h:x.sz≤1048576):callI tE ZBK [.sl (x.rows.map Rw.e),.sl (x.pairs.map Pr.e),.sl (x.groups.map Gr.e)]=some [.sl (x.rows.map Rw.e),.sl (x.pairs.map Pr.e),.sl (x.groups.map Gr.e)]:=by
 simp only[ZFB,ZCS x.rows (by simp only[Ou.sz]at h;omega),ZJd x.pairs (by simp only[Ou.sz]at h;omega),ZIn x.groups (by simp only[Ou.sz]at h;omega),gA]
theorem ZIs (x:Jn) (n:Int) (h0:0≤n) (h1:n≤1048576) (h:x.bd):callI tE ZBC [.sl (x.pend.map Tk.e),.int x.wr,.int x.parts,.int n]=some [.int (szv n (x.sz))]:=by
 rw[ZF5]
 simp only[Jn.sz]
 obtain⟨b0,_,_⟩:=h
 rw[ZJj x.pend n (by omega) (by omega) b0]
 simp only[gA]
 exact ZBU (by omega)
theorem ZGd (x:Ag) (n:Int) (h0:0≤n) (h1:n≤1048576) (h:x.bd):callI tE Z9I [.sl (x.pend.map Gt.e),.int x.wr,.bool x.early,.int n]=some [.int (szv n (x.sz))]:=by
 rw[ZDE]
 simp only[Ag.sz]
 obtain⟨b0,_,_⟩:=h
 rw[ZGa x.pend n (by omega) (by omega) b0]
 simp only[gA]
 exact ZBU (by omega)
theorem ZL5 (x:Opr) (n:Int) (h0:0≤n) (h1:n≤1048576) (h:x.bd):callI tE ZCF [.int x.kind,.sl (x.so.inp.map Rw.e),.int x.so.pos,.sl (x.so.heap.map Rw.e),.sl (x.so.dfd.map Rw.e),.sl (x.so.out.map Rw.e),.sl (x.so.runs.map rsE),.int x.so.lp,.int x.so.rp,.int x.so.ph,.int x.so.wr,.sl (x.jn.pend.map Tk.e),.int x.jn.wr,.int x.jn.parts,.sl (x.ag.pend.map Gt.e),.int x.ag.wr,.bool x.ag.early,.int n]=some [.int (szv n (x.sz))]:=by
 rw[ZHL]
 simp only[Opr.sz]
 obtain⟨_,b1,b2,b3⟩:=h
 rw[ZIl x.so n (by omega) (by omega) b1]
 simp only[gA]
 refine Z7R (by omega) fun h0 g0=>?_
 rw[g0]
 rw[ZIs x.jn (n-(x.so.sz:Nat)) (by omega) (by omega) b2]
 simp only[gA]
 refine Z7R (by omega) fun h1 g1=>?_
 rw[g1]
 rw[ZGd x.ag (n-(x.so.sz:Nat)-(x.jn.sz:Nat)) (by omega) (by omega) b3]
 simp only[gA]
 exact ZBU (by omega)
theorem ZIt (x:Ou) (n:Int) (h0:0≤n) (h1:n≤1048576) (h:x.bd):callI tE ZBE [.sl (x.rows.map Rw.e),.sl (x.pairs.map Pr.e),.sl (x.groups.map Gr.e),.int n]=some [.int (szv n (x.sz))]:=by
 rw[ZF7]
 simp only[Ou.sz]
 obtain⟨b0,b1,b2⟩:=h
 rw[ZCT x.rows n (by omega) (by omega) b0]
 simp only[gA]
 refine Z7R (by omega) fun h0 g0=>?_
 rw[g0]
 rw[ZJe x.pairs (n-(x.rows.length:Nat)) (by omega) (by omega) b1]
 simp only[gA]
 refine Z7R (by omega) fun h1 g1=>?_
 rw[g1]
 rw[ZIo x.groups (n-(x.rows.length:Nat)-(x.pairs.length:Nat)) (by omega) (by omega) b2]
 simp only[gA]
 exact ZBU (by omega)
theorem ZIu (x y:Jn) (h:x.sz≤1152921504606846976):callI tE ZBO [.sl (x.pend.map Tk.e),.int x.wr,.int x.parts,.sl (y.pend.map Tk.e),.int y.wr,.int y.parts]=some [.bool (decide (x=y))]:=by
 have e:decide (x=y)=(decide (x.pend=y.pend)&&(decide (x.wr=y.wr)&&(decide (x.parts=y.parts)))):=by
  cases x;cases y
  simp only[Jn.mk.injEq,Bool.decide_and]
 simp only[ZJk x.pend y.pend (by simp only[Jn.sz]at h;omega),gA,eqI,eqBo,e,Z9N,Bool.and_true,ZFD]
theorem ZGe (x y:Ag) (h:x.sz≤1152921504606846976):callI tE Z9L [.sl (x.pend.map Gt.e),.int x.wr,.bool x.early,.sl (y.pend.map Gt.e),.int y.wr,.bool y.early]=some [.bool (decide (x=y))]:=by
 have e:decide (x=y)=(decide (x.pend=y.pend)&&(decide (x.wr=y.wr)&&(decide (x.early=y.early)))):=by
  cases x;cases y
  simp only[Ag.mk.injEq,Bool.decide_and]
 simp only[ZGb x.pend y.pend (by simp only[Ag.sz]at h;omega),gA,eqI,eqBo,e,Z9N,Bool.and_true,ZDI]
theorem ZL6 (x y:Opr) (h:x.sz≤1152921504606846976):callI tE ZCM [.int x.kind,.sl (x.so.inp.map Rw.e),.int x.so.pos,.sl (x.so.heap.map Rw.e),.sl (x.so.dfd.map Rw.e),.sl (x.so.out.map Rw.e),.sl (x.so.runs.map rsE),.int x.so.lp,.int x.so.rp,.int x.so.ph,.int x.so.wr,.sl (x.jn.pend.map Tk.e),.int x.jn.wr,.int x.jn.parts,.sl (x.ag.pend.map Gt.e),.int x.ag.wr,.bool x.ag.early,.int y.kind,.sl (y.so.inp.map Rw.e),.int y.so.pos,.sl (y.so.heap.map Rw.e),.sl (y.so.dfd.map Rw.e),.sl (y.so.out.map Rw.e),.sl (y.so.runs.map rsE),.int y.so.lp,.int y.so.rp,.int y.so.ph,.int y.so.wr,.sl (y.jn.pend.map Tk.e),.int y.jn.wr,.int y.jn.parts,.sl (y.ag.pend.map Gt.e),.int y.ag.wr,.bool y.ag.early]=some [.bool (decide (x=y))]:=by
 have e:decide (x=y)=(decide (x.kind=y.kind)&&(decide (x.so=y.so)&&(decide (x.jn=y.jn)&&(decide (x.ag=y.ag))))):=by
  cases x;cases y
  simp only[Opr.mk.injEq,Bool.decide_and]
 simp only[ZIm x.so y.so (by simp only[Opr.sz]at h;omega),ZIu x.jn y.jn (by simp only[Opr.sz]at h;omega),ZGe x.ag y.ag (by simp only[Opr.sz]at h;omega),gA,eqI,eqBo,e,Z9N,Bool.and_true,ZHN]
theorem ZIv (x y:Ou) (h:x.sz≤1152921504606846976):callI tE ZBP [.sl (x.rows.map Rw.e),.sl (x.pairs.map Pr.e),.sl (x.groups.map Gr.e),.sl (y.rows.map Rw.e),.sl (y.pairs.map Pr.e),.sl (y.groups.map Gr.e)]=some [.bool (decide (x=y))]:=by
 have e:decide (x=y)=(decide (x.rows=y.rows)&&(decide (x.pairs=y.pairs)&&(decide (x.groups=y.groups)))):=by
  cases x;cases y
  simp only[Ou.mk.injEq,Bool.decide_and]
 simp only[ZCU x.rows y.rows (by simp only[Ou.sz]at h;omega),ZJf x.pairs y.pairs (by simp only[Ou.sz]at h;omega),ZIp x.groups y.groups (by simp only[Ou.sz]at h;omega),gA,eqI,eqBo,e,Z9N,Bool.and_true,ZFF]
theorem ZHT (x:Jn) (k:Int) (h0:0≤k) (h1:k+(Za Tk.ct x.pend:Nat)<4611686018427387904) (h2:x.sz≤1152921504606846976):callI tE ZA6 [.sl (x.pend.map Tk.e),.int x.wr,.int x.parts,.int k]=some [.int (k+(Za Tk.ct x.pend:Nat)),.sl ((mkL Tk.mkm Tk.ct x.pend k).map Tk.e)]:=by
 simp only[ZDy,ZG7 x.pend k (by omega) (by omega) (by simp only[Jn.sz]at h2;omega),gA]
theorem ZFU (x:Ag) (k:Int) (h0:0≤k) (h1:k+(Za Gt.ct x.pend:Nat)<4611686018427387904) (h2:x.sz≤1152921504606846976):callI tE Z8J [.sl (x.pend.map Gt.e),.int x.wr,.bool x.early,.int k]=some [.int (k+(Za Gt.ct x.pend:Nat)),.sl ((mkL Gt.mkm Gt.ct x.pend k).map Gt.e)]:=by
 simp only[ZCn,ZCq x.pend k (by omega) (by omega) (by simp only[Ag.sz]at h2;omega),gA]
theorem ZKT (x:Opr) (k:Int) (h0:0≤k) (h1:k+(Za Rw.ct x.so.inp:Nat)+(Za Rw.ct x.so.heap:Nat)+(Za Rw.ct x.so.dfd:Nat)+(Za Rw.ct x.so.out:Nat)+(Za (Za Rw.ct) x.so.runs:Nat)+(Za Tk.ct x.jn.pend:Nat)+(Za Gt.ct x.ag.pend:Nat)<4611686018427387904) (h2:x.sz≤1152921504606846976):callI tE ZB8 [.int x.kind,.sl (x.so.inp.map Rw.e),.int x.so.pos,.sl (x.so.heap.map Rw.e),.sl (x.so.dfd.map Rw.e),.sl (x.so.out.map Rw.e),.sl (x.so.runs.map rsE),.int x.so.lp,.int x.so.rp,.int x.so.ph,.int x.so.wr,.sl (x.jn.pend.map Tk.e),.int x.jn.wr,.int x.jn.parts,.sl (x.ag.pend.map Gt.e),.int x.ag.wr,.bool x.ag.early,.int k]=some [.int (k+(Za Rw.ct x.so.inp:Nat)+(Za Rw.ct x.so.heap:Nat)+(Za Rw.ct x.so.dfd:Nat)+(Za Rw.ct x.so.out:Nat)+(Za (Za Rw.ct) x.so.runs:Nat)+(Za Tk.ct x.jn.pend:Nat)+(Za Gt.ct x.ag.pend:Nat)),.sl ((mkL Rw.mkm Rw.ct x.so.inp k).map Rw.e),.sl ((mkL Rw.mkm Rw.ct x.so.heap (k+(Za Rw.ct x.so.inp:Nat))).map Rw.e),.sl ((mkL Rw.mkm Rw.ct x.so.dfd (k+(Za Rw.ct x.so.inp:Nat)+(Za Rw.ct x.so.heap:Nat))).map Rw.e),.sl ((mkL Rw.mkm Rw.ct x.so.out (k+(Za Rw.ct x.so.inp:Nat)+(Za Rw.ct x.so.heap:Nat)+(Za Rw.ct x.so.dfd:Nat))).map Rw.e),.sl ((mkL (mkL Rw.mkm Rw.ct) (Za Rw.ct) x.so.runs (k+(Za Rw.ct x.so.inp:Nat)+(Za Rw.ct x.so.heap:Nat)+(Za Rw.ct x.so.dfd:Nat)+(Za Rw.ct x.so.out:Nat))).map rsE),.sl ((mkL Tk.mkm Tk.ct x.jn.pend (k+(Za Rw.ct x.so.inp:Nat)+(Za Rw.ct x.so.heap:Nat)+(Za Rw.ct x.so.dfd:Nat)+(Za Rw.ct x.so.out:Nat)+(Za (Za Rw.ct) x.so.runs:Nat))).map Tk.e),.sl ((mkL Gt.mkm Gt.ct x.ag.pend (k+(Za Rw.ct x.so.inp:Nat)+(Za Rw.ct x.so.heap:Nat)+(Za Rw.ct x.so.dfd:Nat)+(Za Rw.ct x.so.out:Nat)+(Za (Za Rw.ct) x.so.runs:Nat)+(Za Tk.ct x.jn.pend:Nat))).map Gt.e)]:=by
 simp only[ZGT,ZHQ x.so k (by omega) (by omega) (by simp only[Opr.sz]at h2;omega),ZHT x.jn (k+(Za Rw.ct x.so.inp:Nat)+(Za Rw.ct x.so.heap:Nat)+(Za Rw.ct x.so.dfd:Nat)+(Za Rw.ct x.so.out:Nat)+(Za (Za Rw.ct) x.so.runs:Nat)) (by omega) (by omega) (by simp only[Opr.sz]at h2;omega),ZFU x.ag (k+(Za Rw.ct x.so.inp:Nat)+(Za Rw.ct x.so.heap:Nat)+(Za Rw.ct x.so.dfd:Nat)+(Za Rw.ct x.so.out:Nat)+(Za (Za Rw.ct) x.so.runs:Nat)+(Za Tk.ct x.jn.pend:Nat)) (by omega) (by omega) (by simp only[Opr.sz]at h2;omega),gA]
theorem ZIw (x:Cl):callI tE ZBG [.int x.id,.int x.req,.int x.prio]=some [.int x.id,.int x.req,.int x.prio]:=by
 simp only[ZFI,gA]
theorem ZG8 (l:List Cl) (h:l.length≤1048576):callI tE Z7m [.sl (l.map Cl.e)]=some [.sl (l.map Cl.e)]:=by
 have hl:l.length≤1048576:=h
 rw[ZEV]
 have:=ZC2 (L:=Z89) (e:=Cl.e) (z:=[.int 0,.int 0,.int 0]) (P:=fun a=>(fun _=>0) a≤1048576) (fun p q p' q' a _ hpl hlt=>by
  rw[ZAk]
  simp only[Z6H,Z6C,Z6v,Z68,cond_true,cond_false,gA,Z7J hpl,ZB9 hpl,Cl.e,ZIw a,setRange,List.set_cons_zero,List.set_cons_succ]) (fun p p' hpl=>by
  rw[ZAk,Z6I,cond_false]) l [] [] rfl (fun a ha=>Nat.zero_le _) (by simp;omega)
 simp only[List.nil_append,List.length_nil,Int.ofNat_zero,Int.natCast_zero]at this
 rw[ZCP,Z6n,Z9y (by show(l.map Cl.e).length*_≤_;rw[List.length_map];omega)]
 simp only[Bool.and_self,cond_true]
 rw[show tn (lenI (l.map Cl.e))=l.length by show(l.map Cl.e).length=_;simp]
 exact this
theorem ZG9 (l:List Cl) (n:Int) (h0:0≤n) (h1:n≤1048576) (h:BdL Cl.bd l):callI tE Z8x [.sl (l.map Cl.e),.int n]=some [.int (szv n l.length)]:=by
 rw[ZET]
 exact ZEr h0 h1 (by simp) h.1
theorem ZIx (x y:Cl):callI tE ZBL [.int x.id,.int x.req,.int x.prio,.int y.id,.int y.req,.int y.prio]=some [.bool (decide (x=y))]:=by
 have e:decide (x=y)=(decide (x.id=y.id)&&(decide (x.req=y.req)&&(decide (x.prio=y.prio)))):=by
  cases x;cases y
  simp only[Cl.mk.injEq,Bool.decide_and]
 simp only[gA,eqI,eqBo,e,Z9N,Bool.and_true,ZFM]
theorem ZGA (l l':List Cl) (h:l.length≤1152921504606846976):callI tE Z7p [.sl (l.map Cl.e),.sl (l'.map Cl.e)]=some [.bool (decide (l=l'))]:=by
 have hl:l.length≤1152921504606846976:=h
 rw[ZEX]
 by_cases hll:l.length=l'.length
 ·rw[ZC6 hll,Bool.not_true,cond_false]
  have:=ZA9 (L:=Z8A) (e:=Cl.e) (P:=fun a=>(fun _=>0) a≤1152921504606846976) (fun p q p' q' a b _ hpl hlt=>by
   rw[ZAl]
   simp only[Z6H,Z6C,Z6v,Z68,cond_true,cond_false,gA,Z7J hpl,ZAs hpl,Cl.e,ZIx a b,ZGk]) (fun p p' hpl=>by
   rw[ZAl,Z6I,cond_false]) l l' [] [] rfl hll (fun a ha=>Nat.zero_le _) (by simp;omega)
  simpa using this
 ·rw[ZC7 hll,Bool.not_false,cond_true,decide_eq_false (fun e=>hll (by rw[e]))]
theorem ZEF (l:List Cl) (k:Int) (h0:0≤k) (h1:k+Za Cl.ct l<4611686018427387904) (h2:l.length≤1152921504606846976):callI tE Z71 [.sl (l.map Cl.e),.int k]=some [.int (k+Za Cl.ct l),.sl ((mkL Cl.mkm Cl.ct l k).map Cl.e)]:=by
 have hl:l.length≤1152921504606846976:=h2
 rw[ZDk]
 have:=Z8l (L:=Z7T) (e:=Cl.e) (f:=Cl.mkm) (c:=Cl.ct) (g:=(fun _=>0)) (fun p q a k h0 hc hg hlt=>by
  rw[show k+((Cl.ct a:Nat):Int)=k+1+1+1 by simp only[Cl.ct];omega]
  rw[Z9v]
  simp only[Z6H,Z6C,Z6v,Z68,cond_true,cond_false,gA,ZBT,Cl.e,Cl.mkm,Z5W (n:=k+1) (by simp only[Cl.ct]at hc;omega),Z5W (n:=k+1+1) (by simp only[Cl.ct]at hc;omega),Z5W (n:=k+1+1+1) (by simp only[Cl.ct]at hc;omega),setRange,List.set_cons_zero,List.set_cons_succ]) (fun p k=>by
  rw[Z9v,Z6I,cond_false]) l [] k h0 h1 (by rw[Z9p];exact h2) (by simp;omega)
 simpa using this
theorem ZEG (l:List Cl) (k:Int) (h0:0≤k) (h1:k+Za Cl.ct l<4611686018427387904) (h2:l.length≤1152921504606846976):callI tE Z72 [.sl ((mkL Cl.mkm Cl.ct l k).map Cl.e),.int k]=some [.int (k+Za Cl.ct l)]:=by
 have hl:l.length≤1152921504606846976:=h2
 rw[ZDl]
 have:=Z8m (L:=Z7U) (e:=Cl.e) (f:=Cl.mkm) (c:=Cl.ct) (g:=(fun _=>0)) (fun p q a k h0 hc hg hlt=>by
  rw[show k+((Cl.ct a:Nat):Int)=k+1+1+1 by simp only[Cl.ct];omega]
  rw[Z9w]
  simp only[Z6H,Z6C,Z6v,Z68,cond_true,cond_false,gA,Cl.e,Cl.mkm,Z5W (n:=k+1) (by simp only[Cl.ct]at hc;omega),Z5W (n:=k+1+1) (by simp only[Cl.ct]at hc;omega),Z5W (n:=k+1+1+1) (by simp only[Cl.ct]at hc;omega),Z6n,Z8k,Bool.not_true,ZDS h0]) (fun p k=>by
  rw[Z9w,Z6I,cond_false]) l [] k h0 h1 (by rw[Z9p];exact h2) (by simp;omega)
 simpa using this
theorem ZKU (x:Sl) (h:x.sz≤1048576):callI tE ZCK [.int x.id,.int x.op.kind,.sl (x.op.so.inp.map Rw.e),.int x.op.so.pos,.sl (x.op.so.heap.map Rw.e),.sl (x.op.so.dfd.map Rw.e),.sl (x.op.so.out.map Rw.e),.sl (x.op.so.runs.map rsE),.int x.op.so.lp,.int x.op.so.rp,.int x.op.so.ph,.int x.op.so.wr,.sl (x.op.jn.pend.map Tk.e),.int x.op.jn.wr,.int x.op.jn.parts,.sl (x.op.ag.pend.map Gt.e),.int x.op.ag.wr,.bool x.op.ag.early,.sl (x.out.rows.map Rw.e),.sl (x.out.pairs.map Pr.e),.sl (x.out.groups.map Gr.e),.bool x.done]=some [.int x.id,.int x.op.kind,.sl (x.op.so.inp.map Rw.e),.int x.op.so.pos,.sl (x.op.so.heap.map Rw.e),.sl (x.op.so.dfd.map Rw.e),.sl (x.op.so.out.map Rw.e),.sl (x.op.so.runs.map rsE),.int x.op.so.lp,.int x.op.so.rp,.int x.op.so.ph,.int x.op.so.wr,.sl (x.op.jn.pend.map Tk.e),.int x.op.jn.wr,.int x.op.jn.parts,.sl (x.op.ag.pend.map Gt.e),.int x.op.ag.wr,.bool x.op.ag.early,.sl (x.out.rows.map Rw.e),.sl (x.out.pairs.map Pr.e),.sl (x.out.groups.map Gr.e),.bool x.done]:=by
 simp only[ZGW,ZL4 x.op (by simp only[Sl.sz]at h;omega),ZIr x.out (by simp only[Sl.sz]at h;omega),gA]
theorem ZJl (l:List Sl) (h:szL Sl.sz l≤1048576):callI tE ZAL [.sl (l.map Sl.e)]=some [.sl (l.map Sl.e)]:=by
 have hl:l.length≤1048576:=(Nat.le_trans (Z63 _ _) h)
 rw[ZFz]
 have:=ZC2 (L:=Z9G) (e:=Sl.e) (z:=[.int 0,.int 0,.sl [],.int 0,.sl [],.sl [],.sl [],.sl [],.int 0,.int 0,.int 0,.int 0,.sl [],.int 0,.int 0,.sl [],.int 0,.bool false,.sl [],.sl [],.sl [],.bool false]) (P:=fun a=>Sl.sz a≤1048576) (fun p q p' q' a hP hpl hlt=>by
  rw[ZBg]
  simp only[Z6H,Z6C,Z6v,Z68,cond_true,cond_false,gA,Z7J hpl,ZB9 hpl,Sl.e,ZKU a hP,setRange,List.set_cons_zero,List.set_cons_succ]) (fun p p' hpl=>by
  rw[ZBg,Z6I,cond_false]) l [] [] rfl (fun a ha=>Nat.le_trans (Z8K ha) h) (by simp;omega)
 simp only[List.nil_append,List.length_nil,Int.ofNat_zero,Int.natCast_zero]at this
 rw[ZCP,Z6n,Z9y (by show(l.map Sl.e).length*_≤_;rw[List.length_map];omega)]
 simp only[Bool.and_self,cond_true]
 rw[show tn (lenI (l.map Sl.e))=l.length by show(l.map Sl.e).length=_;simp]
 exact this
theorem ZKV (x:Sl) (n:Int) (h0:0≤n) (h1:n≤1048576) (h:x.bd):callI tE ZCG [.int x.id,.int x.op.kind,.sl (x.op.so.inp.map Rw.e),.int x.op.so.pos,.sl (x.op.so.heap.map Rw.e),.sl (x.op.so.dfd.map Rw.e),.sl (x.op.so.out.map Rw.e),.sl (x.op.so.runs.map rsE),.int x.op.so.lp,.int x.op.so.rp,.int x.op.so.ph,.int x.op.so.wr,.sl (x.op.jn.pend.map Tk.e),.int x.op.jn.wr,.int x.op.jn.parts,.sl (x.op.ag.pend.map Gt.e),.int x.op.ag.wr,.bool x.op.ag.early,.sl (x.out.rows.map Rw.e),.sl (x.out.pairs.map Pr.e),.sl (x.out.groups.map Gr.e),.bool x.done,.int n]=some [.int (szv n (x.sz))]:=by
 rw[ZGU]
 simp only[Sl.sz]
 obtain⟨_,b1,b2,_⟩:=h
 rw[ZL5 x.op n (by omega) (by omega) b1]
 simp only[gA]
 refine Z7R (by omega) fun h0 g0=>?_
 rw[g0]
 rw[ZIt x.out (n-(x.op.sz:Nat)) (by omega) (by omega) b2]
 simp only[gA]
 exact ZBU (by omega)
theorem ZJm (l:List Sl) (n:Int) (h0:0≤n) (h1:n≤1048576) (h:BdL Sl.bd l):callI tE ZAC [.sl (l.map Sl.e),.int n]=some [.int (szv n (szL Sl.sz l))]:=by
 have hl:l.length≤1152921504606846976:=h.1
 rw[ZFu,ZEq]
 refine ZHY (X:=fun m=>Z7u (l.map Sl.e) m 0) h0 h1 (List.length_map _) hl fun h2=>?_
 have:=ZEp (L:=Z7u) (e:=Sl.e) (g:=Sl.sz) (P:=Sl.bd) (fun p q a n hP h0 h1 hlt=>by
  rw[ZBe]
  simp only[Z6H,Z6C,Z6v,Z68,cond_true,cond_false,gA,Sl.e,ZKV a n h0 h1 hP]) (fun p n=>by
  rw[ZBe,Z6I,cond_false]) l [] (n-l.length) (fun a ha=>h.2 a ha) (by omega) (by omega) (by simp;omega)
 simpa using this
theorem ZKW (x y:Sl) (h:x.sz≤1152921504606846976):callI tE ZCO [.int x.id,.int x.op.kind,.sl (x.op.so.inp.map Rw.e),.int x.op.so.pos,.sl (x.op.so.heap.map Rw.e),.sl (x.op.so.dfd.map Rw.e),.sl (x.op.so.out.map Rw.e),.sl (x.op.so.runs.map rsE),.int x.op.so.lp,.int x.op.so.rp,.int x.op.so.ph,.int x.op.so.wr,.sl (x.op.jn.pend.map Tk.e),.int x.op.jn.wr,.int x.op.jn.parts,.sl (x.op.ag.pend.map Gt.e),.int x.op.ag.wr,.bool x.op.ag.early,.sl (x.out.rows.map Rw.e),.sl (x.out.pairs.map Pr.e),.sl (x.out.groups.map Gr.e),.bool x.done,.int y.id,.int y.op.kind,.sl (y.op.so.inp.map Rw.e),.int y.op.so.pos,.sl (y.op.so.heap.map Rw.e),.sl (y.op.so.dfd.map Rw.e),.sl (y.op.so.out.map Rw.e),.sl (y.op.so.runs.map rsE),.int y.op.so.lp,.int y.op.so.rp,.int y.op.so.ph,.int y.op.so.wr,.sl (y.op.jn.pend.map Tk.e),.int y.op.jn.wr,.int y.op.jn.parts,.sl (y.op.ag.pend.map Gt.e),.int y.op.ag.wr,.bool y.op.ag.early,.sl (y.out.rows.map Rw.e),.sl (y.out.pairs.map Pr.e),.sl (y.out.groups.map Gr.e),.bool y.done]=some [.bool (decide (x=y))]:=by
 have e:decide (x=y)=(decide (x.id=y.id)&&(decide (x.op=y.op)&&(decide (x.out=y.out)&&(decide (x.done=y.done))))):=by
  cases x;cases y
  simp only[Sl.mk.injEq,Bool.decide_and]
 simp only[ZL6 x.op y.op (by simp only[Sl.sz]at h;omega),ZIv x.out y.out (by simp only[Sl.sz]at h;omega),gA,eqI,eqBo,e,Z9N,Bool.and_true,ZGX]
theorem ZJn (l l':List Sl) (h:szL Sl.sz l≤1152921504606846976):callI tE ZAR [.sl (l.map Sl.e),.sl (l'.map Sl.e)]=some [.bool (decide (l=l'))]:=by
 have hl:l.length≤1152921504606846976:=(Nat.le_trans (Z63 _ _) h)
 rw[ZG2]
 by_cases hll:l.length=l'.length
 ·rw[ZC6 hll,Bool.not_true,cond_false]
  have:=ZA9 (L:=Z9H) (e:=Sl.e) (P:=fun a=>Sl.sz a≤1152921504606846976) (fun p q p' q' a b hP hpl hlt=>by
   rw[ZBh]
   simp only[Z6H,Z6C,Z6v,Z68,cond_true,cond_false,gA,Z7J hpl,ZAs hpl,Sl.e,ZKW a b hP,ZGk]) (fun p p' hpl=>by
   rw[ZBh,Z6I,cond_false]) l l' [] [] rfl hll (fun a ha=>Nat.le_trans (Z8K ha) h) (by simp;omega)
  simpa using this
 ·rw[ZC7 hll,Bool.not_false,cond_true,decide_eq_false (fun e=>hll (by rw[e]))]
theorem ZI5 (l:List Sl) (k:Int) (h0:0≤k) (h1:k+Za Sl.ct l<4611686018427387904) (h2:szL Sl.sz l≤1152921504606846976):callI tE Z91 [.sl (l.map Sl.e),.int k]=some [.int (k+Za Sl.ct l),.sl ((mkL Sl.mkm Sl.ct l k).map Sl.e)]:=by
 have hl:l.length≤1152921504606846976:=(Nat.le_trans (Z63 _ _) h2)
 rw[ZEY]
 have:=Z8l (L:=Z8B) (e:=Sl.e) (f:=Sl.mkm) (c:=Sl.ct) (g:=Sl.sz) (fun p q a k h0 hc hg hlt=>by
  rw[show k+((Sl.ct a:Nat):Int)=k+1+1+(Za Rw.ct a.op.so.inp:Nat)+1+(Za Rw.ct a.op.so.heap:Nat)+(Za Rw.ct a.op.so.dfd:Nat)+(Za Rw.ct a.op.so.out:Nat)+(Za (Za Rw.ct) a.op.so.runs:Nat)+1+1+1+1+(Za Tk.ct a.op.jn.pend:Nat)+1+1+(Za Gt.ct a.op.ag.pend:Nat)+1+1+(Za Rw.ct a.out.rows:Nat)+(Za Pr.ct a.out.pairs:Nat)+(Za Gr.ct a.out.groups:Nat)+1 by simp only[Sl.ct];omega]
  rw[ZAm]
  simp only[Z6H,Z6C,Z6v,Z68,cond_true,cond_false,gA,ZBT,Sl.e,Sl.mkm,Z7b a.op.so.inp (k+1+1) (by omega) (by simp only[Sl.ct]at hc;omega) (by simp only[Sl.sz,Opr.sz,So.sz,Jn.sz,Ag.sz,Ou.sz]at hg;omega),Z7b a.op.so.heap (k+1+1+(Za Rw.ct a.op.so.inp:Nat)+1) (by omega) (by simp only[Sl.ct]at hc;omega) (by simp only[Sl.sz,Opr.sz,So.sz,Jn.sz,Ag.sz,Ou.sz]at hg;omega),Z7b a.op.so.dfd (k+1+1+(Za Rw.ct a.op.so.inp:Nat)+1+(Za Rw.ct a.op.so.heap:Nat)) (by omega) (by simp only[Sl.ct]at hc;omega) (by simp only[Sl.sz,Opr.sz,So.sz,Jn.sz,Ag.sz,Ou.sz]at hg;omega),Z7b a.op.so.out (k+1+1+(Za Rw.ct a.op.so.inp:Nat)+1+(Za Rw.ct a.op.so.heap:Nat)+(Za Rw.ct a.op.so.dfd:Nat)) (by omega) (by simp only[Sl.ct]at hc;omega) (by simp only[Sl.sz,Opr.sz,So.sz,Jn.sz,Ag.sz,Ou.sz]at hg;omega),ZH6 a.op.so.runs (k+1+1+(Za Rw.ct a.op.so.inp:Nat)+1+(Za Rw.ct a.op.so.heap:Nat)+(Za Rw.ct a.op.so.dfd:Nat)+(Za Rw.ct a.op.so.out:Nat)) (by omega) (by simp only[Sl.ct]at hc;omega) (by simp only[Sl.sz,Opr.sz,So.sz,Jn.sz,Ag.sz,Ou.sz]at hg;omega),ZG7 a.op.jn.pend (k+1+1+(Za Rw.ct a.op.so.inp:Nat)+1+(Za Rw.ct a.op.so.heap:Nat)+(Za Rw.ct a.op.so.dfd:Nat)+(Za Rw.ct a.op.so.out:Nat)+(Za (Za Rw.ct) a.op.so.runs:Nat)+1+1+1+1) (by omega) (by simp only[Sl.ct]at hc;omega) (by simp only[Sl.sz,Opr.sz,So.sz,Jn.sz,Ag.sz,Ou.sz]at hg;omega),ZCq a.op.ag.pend (k+1+1+(Za Rw.ct a.op.so.inp:Nat)+1+(Za Rw.ct a.op.so.heap:Nat)+(Za Rw.ct a.op.so.dfd:Nat)+(Za Rw.ct a.op.so.out:Nat)+(Za (Za Rw.ct) a.op.so.runs:Nat)+1+1+1+1+(Za Tk.ct a.op.jn.pend:Nat)+1+1) (by omega) (by simp only[Sl.ct]at hc;omega) (by simp only[Sl.sz,Opr.sz,So.sz,Jn.sz,Ag.sz,Ou.sz]at hg;omega),Z7b a.out.rows (k+1+1+(Za Rw.ct a.op.so.inp:Nat)+1+(Za Rw.ct a.op.so.heap:Nat)+(Za Rw.ct a.op.so.dfd:Nat)+(Za Rw.ct a.op.so.out:Nat)+(Za (Za Rw.ct) a.op.so.runs:Nat)+1+1+1+1+(Za Tk.ct a.op.jn.pend:Nat)+1+1+(Za Gt.ct a.op.ag.pend:Nat)+1+1) (by omega) (by simp only[Sl.ct]at hc;omega) (by simp only[Sl.sz,Opr.sz,So.sz,Jn.sz,Ag.sz,Ou.sz]at hg;omega),ZI2 a.out.pairs (k+1+1+(Za Rw.ct a.op.so.inp:Nat)+1+(Za Rw.ct a.op.so.heap:Nat)+(Za Rw.ct a.op.so.dfd:Nat)+(Za Rw.ct a.op.so.out:Nat)+(Za (Za Rw.ct) a.op.so.runs:Nat)+1+1+1+1+(Za Tk.ct a.op.jn.pend:Nat)+1+1+(Za Gt.ct a.op.ag.pend:Nat)+1+1+(Za Rw.ct a.out.rows:Nat)) (by omega) (by simp only[Sl.ct]at hc;omega) (by simp only[Sl.sz,Opr.sz,So.sz,Jn.sz,Ag.sz,Ou.sz]at hg;omega),ZHR a.out.groups (k+1+1+(Za Rw.ct a.op.so.inp:Nat)+1+(Za Rw.ct a.op.so.heap:Nat)+(Za Rw.ct a.op.so.dfd:Nat)+(Za Rw.ct a.op.so.out:Nat)+(Za (Za Rw.ct) a.op.so.runs:Nat)+1+1+1+1+(Za Tk.ct a.op.jn.pend:Nat)+1+1+(Za Gt.ct a.op.ag.pend:Nat)+1+1+(Za Rw.ct a.out.rows:Nat)+(Za Pr.ct a.out.pairs:Nat)) (by omega) (by simp only[Sl.ct]at hc;omega) (by simp only[Sl.sz,Opr.sz,So.sz,Jn.sz,Ag.sz,Ou.sz]at hg;omega),Z5W (n:=k+1) (by simp only[Sl.ct]at hc;omega),Z5W (n:=k+1+1) (by simp only[Sl.ct]at hc;omega),Z5W (n:=k+1+1+(Za Rw.ct a.op.so.inp:Nat)+1) (by simp only[Sl.ct]at hc;omega),Z5W (n:=k+1+1+(Za Rw.ct a.op.so.inp:Nat)+1+(Za Rw.ct a.op.so.heap:Nat)+(Za Rw.ct a.op.so.dfd:Nat)+(Za Rw.ct a.op.so.out:Nat)+(Za (Za Rw.ct) a.op.so.runs:Nat)+1) (by simp only[Sl.ct]at hc;omega),Z5W (n:=k+1+1+(Za Rw.ct a.op.so.inp:Nat)+1+(Za Rw.ct a.op.so.heap:Nat)+(Za Rw.ct a.op.so.dfd:Nat)+(Za Rw.ct a.op.so.out:Nat)+(Za (Za Rw.ct) a.op.so.runs:Nat)+1+1) (by simp only[Sl.ct]at hc;omega),Z5W (n:=k+1+1+(Za Rw.ct a.op.so.inp:Nat)+1+(Za Rw.ct a.op.so.heap:Nat)+(Za Rw.ct a.op.so.dfd:Nat)+(Za Rw.ct a.op.so.out:Nat)+(Za (Za Rw.ct) a.op.so.runs:Nat)+1+1+1) (by simp only[Sl.ct]at hc;omega),Z5W (n:=k+1+1+(Za Rw.ct a.op.so.inp:Nat)+1+(Za Rw.ct a.op.so.heap:Nat)+(Za Rw.ct a.op.so.dfd:Nat)+(Za Rw.ct a.op.so.out:Nat)+(Za (Za Rw.ct) a.op.so.runs:Nat)+1+1+1+1) (by simp only[Sl.ct]at hc;omega),Z5W (n:=k+1+1+(Za Rw.ct a.op.so.inp:Nat)+1+(Za Rw.ct a.op.so.heap:Nat)+(Za Rw.ct a.op.so.dfd:Nat)+(Za Rw.ct a.op.so.out:Nat)+(Za (Za Rw.ct) a.op.so.runs:Nat)+1+1+1+1+(Za Tk.ct a.op.jn.pend:Nat)+1) (by simp only[Sl.ct]at hc;omega),Z5W (n:=k+1+1+(Za Rw.ct a.op.so.inp:Nat)+1+(Za Rw.ct a.op.so.heap:Nat)+(Za Rw.ct a.op.so.dfd:Nat)+(Za Rw.ct a.op.so.out:Nat)+(Za (Za Rw.ct) a.op.so.runs:Nat)+1+1+1+1+(Za Tk.ct a.op.jn.pend:Nat)+1+1) (by simp only[Sl.ct]at hc;omega),Z5W (n:=k+1+1+(Za Rw.ct a.op.so.inp:Nat)+1+(Za Rw.ct a.op.so.heap:Nat)+(Za Rw.ct a.op.so.dfd:Nat)+(Za Rw.ct a.op.so.out:Nat)+(Za (Za Rw.ct) a.op.so.runs:Nat)+1+1+1+1+(Za Tk.ct a.op.jn.pend:Nat)+1+1+(Za Gt.ct a.op.ag.pend:Nat)+1) (by simp only[Sl.ct]at hc;omega),Z5W (n:=k+1+1+(Za Rw.ct a.op.so.inp:Nat)+1+(Za Rw.ct a.op.so.heap:Nat)+(Za Rw.ct a.op.so.dfd:Nat)+(Za Rw.ct a.op.so.out:Nat)+(Za (Za Rw.ct) a.op.so.runs:Nat)+1+1+1+1+(Za Tk.ct a.op.jn.pend:Nat)+1+1+(Za Gt.ct a.op.ag.pend:Nat)+1+1) (by simp only[Sl.ct]at hc;omega),Z5W (n:=k+1+1+(Za Rw.ct a.op.so.inp:Nat)+1+(Za Rw.ct a.op.so.heap:Nat)+(Za Rw.ct a.op.so.dfd:Nat)+(Za Rw.ct a.op.so.out:Nat)+(Za (Za Rw.ct) a.op.so.runs:Nat)+1+1+1+1+(Za Tk.ct a.op.jn.pend:Nat)+1+1+(Za Gt.ct a.op.ag.pend:Nat)+1+1+(Za Rw.ct a.out.rows:Nat)+(Za Pr.ct a.out.pairs:Nat)+(Za Gr.ct a.out.groups:Nat)+1) (by simp only[Sl.ct]at hc;omega),setRange,List.set_cons_zero,List.set_cons_succ]) (fun p k=>by
  rw[ZAm,Z6I,cond_false]) l [] k h0 h1 (by exact h2) (by simp;omega)
 simpa using this
theorem ZI6 (l:List Sl) (k:Int) (h0:0≤k) (h1:k+Za Sl.ct l<4611686018427387904) (h2:szL Sl.sz l≤1152921504606846976):callI tE Z95 [.sl ((mkL Sl.mkm Sl.ct l k).map Sl.e),.int k]=some [.int (k+Za Sl.ct l)]:=by
 have hl:l.length≤1152921504606846976:=(Nat.le_trans (Z63 _ _) h2)
 rw[ZEZ]
 have:=Z8m (L:=Z8C) (e:=Sl.e) (f:=Sl.mkm) (c:=Sl.ct) (g:=Sl.sz) (fun p q a k h0 hc hg hlt=>by
  rw[show k+((Sl.ct a:Nat):Int)=k+1+1+(Za Rw.ct a.op.so.inp:Nat)+1+(Za Rw.ct a.op.so.heap:Nat)+(Za Rw.ct a.op.so.dfd:Nat)+(Za Rw.ct a.op.so.out:Nat)+(Za (Za Rw.ct) a.op.so.runs:Nat)+1+1+1+1+(Za Tk.ct a.op.jn.pend:Nat)+1+1+(Za Gt.ct a.op.ag.pend:Nat)+1+1+(Za Rw.ct a.out.rows:Nat)+(Za Pr.ct a.out.pairs:Nat)+(Za Gr.ct a.out.groups:Nat)+1 by simp only[Sl.ct];omega]
  rw[ZAn]
  simp only[Z6H,Z6C,Z6v,Z68,cond_true,cond_false,gA,Sl.e,Sl.mkm,Z9x a.op.so.inp (k+1+1) (by omega) (by simp only[Sl.ct]at hc;omega) (by simp only[Sl.sz,Opr.sz,So.sz,Jn.sz,Ag.sz,Ou.sz]at hg;omega),ltF (a:=k+1+1+(Za Rw.ct a.op.so.inp:Nat)) (b:=0) (by omega),Z9x a.op.so.heap (k+1+1+(Za Rw.ct a.op.so.inp:Nat)+1) (by omega) (by simp only[Sl.ct]at hc;omega) (by simp only[Sl.sz,Opr.sz,So.sz,Jn.sz,Ag.sz,Ou.sz]at hg;omega),ltF (a:=k+1+1+(Za Rw.ct a.op.so.inp:Nat)+1+(Za Rw.ct a.op.so.heap:Nat)) (b:=0) (by omega),Z9x a.op.so.dfd (k+1+1+(Za Rw.ct a.op.so.inp:Nat)+1+(Za Rw.ct a.op.so.heap:Nat)) (by omega) (by simp only[Sl.ct]at hc;omega) (by simp only[Sl.sz,Opr.sz,So.sz,Jn.sz,Ag.sz,Ou.sz]at hg;omega),ltF (a:=k+1+1+(Za Rw.ct a.op.so.inp:Nat)+1+(Za Rw.ct a.op.so.heap:Nat)+(Za Rw.ct a.op.so.dfd:Nat)) (b:=0) (by omega),Z9x a.op.so.out (k+1+1+(Za Rw.ct a.op.so.inp:Nat)+1+(Za Rw.ct a.op.so.heap:Nat)+(Za Rw.ct a.op.so.dfd:Nat)) (by omega) (by simp only[Sl.ct]at hc;omega) (by simp only[Sl.sz,Opr.sz,So.sz,Jn.sz,Ag.sz,Ou.sz]at hg;omega),ltF (a:=k+1+1+(Za Rw.ct a.op.so.inp:Nat)+1+(Za Rw.ct a.op.so.heap:Nat)+(Za Rw.ct a.op.so.dfd:Nat)+(Za Rw.ct a.op.so.out:Nat)) (b:=0) (by omega),ZIj a.op.so.runs (k+1+1+(Za Rw.ct a.op.so.inp:Nat)+1+(Za Rw.ct a.op.so.heap:Nat)+(Za Rw.ct a.op.so.dfd:Nat)+(Za Rw.ct a.op.so.out:Nat)) (by omega) (by simp only[Sl.ct]at hc;omega) (by simp only[Sl.sz,Opr.sz,So.sz,Jn.sz,Ag.sz,Ou.sz]at hg;omega),ltF (a:=k+1+1+(Za Rw.ct a.op.so.inp:Nat)+1+(Za Rw.ct a.op.so.heap:Nat)+(Za Rw.ct a.op.so.dfd:Nat)+(Za Rw.ct a.op.so.out:Nat)+(Za (Za Rw.ct) a.op.so.runs:Nat)) (b:=0) (by omega),ZI4 a.op.jn.pend (k+1+1+(Za Rw.ct a.op.so.inp:Nat)+1+(Za Rw.ct a.op.so.heap:Nat)+(Za Rw.ct a.op.so.dfd:Nat)+(Za Rw.ct a.op.so.out:Nat)+(Za (Za Rw.ct) a.op.so.runs:Nat)+1+1+1+1) (by omega) (by simp only[Sl.ct]at hc;omega) (by simp only[Sl.sz,Opr.sz,So.sz,Jn.sz,Ag.sz,Ou.sz]at hg;omega),ltF (a:=k+1+1+(Za Rw.ct a.op.so.inp:Nat)+1+(Za Rw.ct a.op.so.heap:Nat)+(Za Rw.ct a.op.so.dfd:Nat)+(Za Rw.ct a.op.so.out:Nat)+(Za (Za Rw.ct) a.op.so.runs:Nat)+1+1+1+1+(Za Tk.ct a.op.jn.pend:Nat)) (b:=0) (by omega),ZFT a.op.ag.pend (k+1+1+(Za Rw.ct a.op.so.inp:Nat)+1+(Za Rw.ct a.op.so.heap:Nat)+(Za Rw.ct a.op.so.dfd:Nat)+(Za Rw.ct a.op.so.out:Nat)+(Za (Za Rw.ct) a.op.so.runs:Nat)+1+1+1+1+(Za Tk.ct a.op.jn.pend:Nat)+1+1) (by omega) (by simp only[Sl.ct]at hc;omega) (by simp only[Sl.sz,Opr.sz,So.sz,Jn.sz,Ag.sz,Ou.sz]at hg;omega),ltF (a:=k+1+1+(Za Rw.ct a.op.so.inp:Nat)+1+(Za Rw.ct a.op.so.heap:Nat)+(Za Rw.ct a.op.so.dfd:Nat)+(Za Rw.ct a.op.so.out:Nat)+(Za (Za Rw.ct) a.op.so.runs:Nat)+1+1+1+1+(Za Tk.ct a.op.jn.pend:Nat)+1+1+(Za Gt.ct a.op.ag.pend:Nat)) (b:=0) (by omega),Z9x a.out.rows (k+1+1+(Za Rw.ct a.op.so.inp:Nat)+1+(Za Rw.ct a.op.so.heap:Nat)+(Za Rw.ct a.op.so.dfd:Nat)+(Za Rw.ct a.op.so.out:Nat)+(Za (Za Rw.ct) a.op.so.runs:Nat)+1+1+1+1+(Za Tk.ct a.op.jn.pend:Nat)+1+1+(Za Gt.ct a.op.ag.pend:Nat)+1+1) (by omega) (by simp only[Sl.ct]at hc;omega) (by simp only[Sl.sz,Opr.sz,So.sz,Jn.sz,Ag.sz,Ou.sz]at hg;omega),ltF (a:=k+1+1+(Za Rw.ct a.op.so.inp:Nat)+1+(Za Rw.ct a.op.so.heap:Nat)+(Za Rw.ct a.op.so.dfd:Nat)+(Za Rw.ct a.op.so.out:Nat)+(Za (Za Rw.ct) a.op.so.runs:Nat)+1+1+1+1+(Za Tk.ct a.op.jn.pend:Nat)+1+1+(Za Gt.ct a.op.ag.pend:Nat)+1+1+(Za Rw.ct a.out.rows:Nat)) (b:=0) (by omega),ZI3 a.out.pairs (k+1+1+(Za Rw.ct a.op.so.inp:Nat)+1+(Za Rw.ct a.op.so.heap:Nat)+(Za Rw.ct a.op.so.dfd:Nat)+(Za Rw.ct a.op.so.out:Nat)+(Za (Za Rw.ct) a.op.so.runs:Nat)+1+1+1+1+(Za Tk.ct a.op.jn.pend:Nat)+1+1+(Za Gt.ct a.op.ag.pend:Nat)+1+1+(Za Rw.ct a.out.rows:Nat)) (by omega) (by simp only[Sl.ct]at hc;omega) (by simp only[Sl.sz,Opr.sz,So.sz,Jn.sz,Ag.sz,Ou.sz]at hg;omega),ltF (a:=k+1+1+(Za Rw.ct a.op.so.inp:Nat)+1+(Za Rw.ct a.op.so.heap:Nat)+(Za Rw.ct a.op.so.dfd:Nat)+(Za Rw.ct a.op.so.out:Nat)+(Za (Za Rw.ct) a.op.so.runs:Nat)+1+1+1+1+(Za Tk.ct a.op.jn.pend:Nat)+1+1+(Za Gt.ct a.op.ag.pend:Nat)+1+1+(Za Rw.ct a.out.rows:Nat)+(Za Pr.ct a.out.pairs:Nat)) (b:=0) (by omega),ZHS a.out.groups (k+1+1+(Za Rw.ct a.op.so.inp:Nat)+1+(Za Rw.ct a.op.so.heap:Nat)+(Za Rw.ct a.op.so.dfd:Nat)+(Za Rw.ct a.op.so.out:Nat)+(Za (Za Rw.ct) a.op.so.runs:Nat)+1+1+1+1+(Za Tk.ct a.op.jn.pend:Nat)+1+1+(Za Gt.ct a.op.ag.pend:Nat)+1+1+(Za Rw.ct a.out.rows:Nat)+(Za Pr.ct a.out.pairs:Nat)) (by omega) (by simp only[Sl.ct]at hc;omega) (by simp only[Sl.sz,Opr.sz,So.sz,Jn.sz,Ag.sz,Ou.sz]at hg;omega),ltF (a:=k+1+1+(Za Rw.ct a.op.so.inp:Nat)+1+(Za Rw.ct a.op.so.heap:Nat)+(Za Rw.ct a.op.so.dfd:Nat)+(Za Rw.ct a.op.so.out:Nat)+(Za (Za Rw.ct) a.op.so.runs:Nat)+1+1+1+1+(Za Tk.ct a.op.jn.pend:Nat)+1+1+(Za Gt.ct a.op.ag.pend:Nat)+1+1+(Za Rw.ct a.out.rows:Nat)+(Za Pr.ct a.out.pairs:Nat)+(Za Gr.ct a.out.groups:Nat)) (b:=0) (by omega),Z5W (n:=k+1) (by simp only[Sl.ct]at hc;omega),Z5W (n:=k+1+1) (by simp only[Sl.ct]at hc;omega),Z5W (n:=k+1+1+(Za Rw.ct a.op.so.inp:Nat)+1) (by simp only[Sl.ct]at hc;omega),Z5W (n:=k+1+1+(Za Rw.ct a.op.so.inp:Nat)+1+(Za Rw.ct a.op.so.heap:Nat)+(Za Rw.ct a.op.so.dfd:Nat)+(Za Rw.ct a.op.so.out:Nat)+(Za (Za Rw.ct) a.op.so.runs:Nat)+1) (by simp only[Sl.ct]at hc;omega),Z5W (n:=k+1+1+(Za Rw.ct a.op.so.inp:Nat)+1+(Za Rw.ct a.op.so.heap:Nat)+(Za Rw.ct a.op.so.dfd:Nat)+(Za Rw.ct a.op.so.out:Nat)+(Za (Za Rw.ct) a.op.so.runs:Nat)+1+1) (by simp only[Sl.ct]at hc;omega),Z5W (n:=k+1+1+(Za Rw.ct a.op.so.inp:Nat)+1+(Za Rw.ct a.op.so.heap:Nat)+(Za Rw.ct a.op.so.dfd:Nat)+(Za Rw.ct a.op.so.out:Nat)+(Za (Za Rw.ct) a.op.so.runs:Nat)+1+1+1) (by simp only[Sl.ct]at hc;omega),Z5W (n:=k+1+1+(Za Rw.ct a.op.so.inp:Nat)+1+(Za Rw.ct a.op.so.heap:Nat)+(Za Rw.ct a.op.so.dfd:Nat)+(Za Rw.ct a.op.so.out:Nat)+(Za (Za Rw.ct) a.op.so.runs:Nat)+1+1+1+1) (by simp only[Sl.ct]at hc;omega),Z5W (n:=k+1+1+(Za Rw.ct a.op.so.inp:Nat)+1+(Za Rw.ct a.op.so.heap:Nat)+(Za Rw.ct a.op.so.dfd:Nat)+(Za Rw.ct a.op.so.out:Nat)+(Za (Za Rw.ct) a.op.so.runs:Nat)+1+1+1+1+(Za Tk.ct a.op.jn.pend:Nat)+1) (by simp only[Sl.ct]at hc;omega),Z5W (n:=k+1+1+(Za Rw.ct a.op.so.inp:Nat)+1+(Za Rw.ct a.op.so.heap:Nat)+(Za Rw.ct a.op.so.dfd:Nat)+(Za Rw.ct a.op.so.out:Nat)+(Za (Za Rw.ct) a.op.so.runs:Nat)+1+1+1+1+(Za Tk.ct a.op.jn.pend:Nat)+1+1) (by simp only[Sl.ct]at hc;omega),Z5W (n:=k+1+1+(Za Rw.ct a.op.so.inp:Nat)+1+(Za Rw.ct a.op.so.heap:Nat)+(Za Rw.ct a.op.so.dfd:Nat)+(Za Rw.ct a.op.so.out:Nat)+(Za (Za Rw.ct) a.op.so.runs:Nat)+1+1+1+1+(Za Tk.ct a.op.jn.pend:Nat)+1+1+(Za Gt.ct a.op.ag.pend:Nat)+1) (by simp only[Sl.ct]at hc;omega),Z5W (n:=k+1+1+(Za Rw.ct a.op.so.inp:Nat)+1+(Za Rw.ct a.op.so.heap:Nat)+(Za Rw.ct a.op.so.dfd:Nat)+(Za Rw.ct a.op.so.out:Nat)+(Za (Za Rw.ct) a.op.so.runs:Nat)+1+1+1+1+(Za Tk.ct a.op.jn.pend:Nat)+1+1+(Za Gt.ct a.op.ag.pend:Nat)+1+1) (by simp only[Sl.ct]at hc;omega),Z5W (n:=k+1+1+(Za Rw.ct a.op.so.inp:Nat)+1+(Za Rw.ct a.op.so.heap:Nat)+(Za Rw.ct a.op.so.dfd:Nat)+(Za Rw.ct a.op.so.out:Nat)+(Za (Za Rw.ct) a.op.so.runs:Nat)+1+1+1+1+(Za Tk.ct a.op.jn.pend:Nat)+1+1+(Za Gt.ct a.op.ag.pend:Nat)+1+1+(Za Rw.ct a.out.rows:Nat)+(Za Pr.ct a.out.pairs:Nat)+(Za Gr.ct a.out.groups:Nat)+1) (by simp only[Sl.ct]at hc;omega),Z6n,Z8k,Bool.not_true,ZDS h0]) (fun p k=>by
  rw[ZAn,Z6I,cond_false]) l [] k h0 h1 (by exact h2) (by simp;omega)
 simpa using this
theorem ZIy (x:Br) (h:x.sz≤1048576):callI tE ZBH [.int x.pool,.int x.next,.sl (x.act.map Cl.e),.sl (x.wait.map Cl.e)]=some [.int x.pool,.int x.next,.sl (x.act.map Cl.e),.sl (x.wait.map Cl.e)]:=by
 simp only[ZFJ,ZG8 x.act (by simp only[Br.sz]at h;omega),ZG8 x.wait (by simp only[Br.sz]at h;omega),gA]
theorem ZIz (x:Br) (n:Int) (h0:0≤n) (h1:n≤1048576) (h:x.bd):callI tE ZBA [.int x.pool,.int x.next,.sl (x.act.map Cl.e),.sl (x.wait.map Cl.e),.int n]=some [.int (szv n (x.sz))]:=by
 rw[ZFG]
 simp only[Br.sz]
 obtain⟨_,_,b2,b3⟩:=h
 rw[ZG9 x.act n (by omega) (by omega) b2]
 simp only[gA]
 refine Z7R (by omega) fun h0 g0=>?_
 rw[g0]
 rw[ZG9 x.wait (n-(x.act.length:Nat)) (by omega) (by omega) b3]
 simp only[gA]
 exact ZBU (by omega)
theorem ZJ0 (x y:Br) (h:x.sz≤1152921504606846976):callI tE ZBM [.int x.pool,.int x.next,.sl (x.act.map Cl.e),.sl (x.wait.map Cl.e),.int y.pool,.int y.next,.sl (y.act.map Cl.e),.sl (y.wait.map Cl.e)]=some [.bool (decide (x=y))]:=by
 have e:decide (x=y)=(decide (x.pool=y.pool)&&(decide (x.next=y.next)&&(decide (x.act=y.act)&&(decide (x.wait=y.wait))))):=by
  cases x;cases y
  simp only[Br.mk.injEq,Bool.decide_and]
 simp only[ZGA x.act y.act (by simp only[Br.sz]at h;omega),ZGA x.wait y.wait (by simp only[Br.sz]at h;omega),gA,eqI,eqBo,e,Z9N,Bool.and_true,ZFN]
theorem ZHU (x:Br) (k:Int) (h0:0≤k) (h1:k+(Za Cl.ct x.act:Nat)+(Za Cl.ct x.wait:Nat)<4611686018427387904) (h2:x.sz≤1152921504606846976):callI tE ZA4 [.int x.pool,.int x.next,.sl (x.act.map Cl.e),.sl (x.wait.map Cl.e),.int k]=some [.int (k+(Za Cl.ct x.act:Nat)+(Za Cl.ct x.wait:Nat)),.sl ((mkL Cl.mkm Cl.ct x.act k).map Cl.e),.sl ((mkL Cl.mkm Cl.ct x.wait (k+(Za Cl.ct x.act:Nat))).map Cl.e)]:=by
 simp only[ZE0,ZEF x.act k (by omega) (by omega) (by simp only[Br.sz]at h2;omega),ZEF x.wait (k+(Za Cl.ct x.act:Nat)) (by omega) (by omega) (by simp only[Br.sz]at h2;omega),gA]
theorem ZHV (x:Br) (k:Int) (h0:0≤k) (h1:k+(Za Cl.ct x.act:Nat)+(Za Cl.ct x.wait:Nat)<4611686018427387904) (h2:x.sz≤1152921504606846976):callI tE ZA7 [.int x.pool,.int x.next,.sl ((mkL Cl.mkm Cl.ct x.act k).map Cl.e),.sl ((mkL Cl.mkm Cl.ct x.wait (k+(Za Cl.ct x.act:Nat))).map Cl.e),.int k]=some [.int (k+(Za Cl.ct x.act:Nat)+(Za Cl.ct x.wait:Nat))]:=by
 simp only[ZE2,ZEG x.act k (by omega) (by omega) (by simp only[Br.sz]at h2;omega),ZEG x.wait (k+(Za Cl.ct x.act:Nat)) (by omega) (by omega) (by simp only[Br.sz]at h2;omega),gA,ltF (a:=k+(Za Cl.ct x.act:Nat)) (b:=0) (by omega),ltF (a:=k+(Za Cl.ct x.act:Nat)+(Za Cl.ct x.wait:Nat)) (b:=0) (by omega),cond_false]
theorem ZJ1 (x:Sy) (h:x.sz≤1048576):callI tE Z7V [.int x.br.pool,.int x.br.next,.sl (x.br.act.map Cl.e),.sl (x.br.wait.map Cl.e),.sl (x.slots.map Sl.e),.int x.round]=some [.int x.br.pool,.int x.br.next,.sl (x.br.act.map Cl.e),.sl (x.br.wait.map Cl.e),.sl (x.slots.map Sl.e),.int x.round]:=by
 simp only[ZFK,ZIy x.br (by simp only[Sy.sz]at h;omega),ZJl x.slots (by simp only[Sy.sz]at h;omega),gA]
theorem ZJ2 (x:Sy) (n:Int) (h0:0≤n) (h1:n≤1048576) (h:x.bd):callI tE ZBF [.int x.br.pool,.int x.br.next,.sl (x.br.act.map Cl.e),.sl (x.br.wait.map Cl.e),.sl (x.slots.map Sl.e),.int x.round,.int n]=some [.int (szv n (x.sz))]:=by
 rw[ZFH]
 simp only[Sy.sz]
 obtain⟨b0,b1,_⟩:=h
 rw[ZIz x.br n (by omega) (by omega) b0]
 simp only[gA]
 refine Z7R (by omega) fun h0 g0=>?_
 rw[g0]
 rw[ZJm x.slots (n-(x.br.sz:Nat)) (by omega) (by omega) b1]
 simp only[gA]
 exact ZBU (by omega)
theorem ZHA (x y:Sy) (h:x.sz≤1152921504606846976):callI tE Z7Y [.int x.br.pool,.int x.br.next,.sl (x.br.act.map Cl.e),.sl (x.br.wait.map Cl.e),.sl (x.slots.map Sl.e),.int x.round,.int y.br.pool,.int y.br.next,.sl (y.br.act.map Cl.e),.sl (y.br.wait.map Cl.e),.sl (y.slots.map Sl.e),.int y.round]=some [.bool (decide (x=y))]:=by
 have e:decide (x=y)=(decide (x.br=y.br)&&(decide (x.slots=y.slots)&&(decide (x.round=y.round)))):=by
  cases x;cases y
  simp only[Sy.mk.injEq,Bool.decide_and]
 simp only[ZJ0 x.br y.br (by simp only[Sy.sz]at h;omega),ZJn x.slots y.slots (by simp only[Sy.sz]at h;omega),gA,eqI,eqBo,e,Z9N,Bool.and_true,ZFO]
theorem ZHW (x:Sy) (k:Int) (h0:0≤k) (h1:k+(Za Cl.ct x.br.act:Nat)+(Za Cl.ct x.br.wait:Nat)+(Za Sl.ct x.slots:Nat)<4611686018427387904) (h2:x.sz≤1152921504606846976):callI tE Z7Z [.int x.br.pool,.int x.br.next,.sl (x.br.act.map Cl.e),.sl (x.br.wait.map Cl.e),.sl (x.slots.map Sl.e),.int x.round,.int k]=some [.int (k+(Za Cl.ct x.br.act:Nat)+(Za Cl.ct x.br.wait:Nat)+(Za Sl.ct x.slots:Nat)),.sl ((mkL Cl.mkm Cl.ct x.br.act k).map Cl.e),.sl ((mkL Cl.mkm Cl.ct x.br.wait (k+(Za Cl.ct x.br.act:Nat))).map Cl.e),.sl ((mkL Sl.mkm Sl.ct x.slots (k+(Za Cl.ct x.br.act:Nat)+(Za Cl.ct x.br.wait:Nat))).map Sl.e)]:=by
 simp only[ZE1,ZHU x.br k (by omega) (by omega) (by simp only[Sy.sz]at h2;omega),ZI5 x.slots (k+(Za Cl.ct x.br.act:Nat)+(Za Cl.ct x.br.wait:Nat)) (by omega) (by omega) (by simp only[Sy.sz]at h2;omega),gA]
theorem ZHX (x:Sy) (k:Int) (h0:0≤k) (h1:k+(Za Cl.ct x.br.act:Nat)+(Za Cl.ct x.br.wait:Nat)+(Za Sl.ct x.slots:Nat)<4611686018427387904) (h2:x.sz≤1152921504606846976):callI tE Z7a [.int x.br.pool,.int x.br.next,.sl ((mkL Cl.mkm Cl.ct x.br.act k).map Cl.e),.sl ((mkL Cl.mkm Cl.ct x.br.wait (k+(Za Cl.ct x.br.act:Nat))).map Cl.e),.sl ((mkL Sl.mkm Sl.ct x.slots (k+(Za Cl.ct x.br.act:Nat)+(Za Cl.ct x.br.wait:Nat))).map Sl.e),.int x.round,.int k]=some [.int (k+(Za Cl.ct x.br.act:Nat)+(Za Cl.ct x.br.wait:Nat)+(Za Sl.ct x.slots:Nat))]:=by
 simp only[ZE3,ZHV x.br k (by omega) (by omega) (by simp only[Sy.sz]at h2;omega),ZI6 x.slots (k+(Za Cl.ct x.br.act:Nat)+(Za Cl.ct x.br.wait:Nat)) (by omega) (by omega) (by simp only[Sy.sz]at h2;omega),gA,ltF (a:=k+(Za Cl.ct x.br.act:Nat)+(Za Cl.ct x.br.wait:Nat)) (b:=0) (by omega),ltF (a:=k+(Za Cl.ct x.br.act:Nat)+(Za Cl.ct x.br.wait:Nat)+(Za Sl.ct x.slots:Nat)) (b:=0) (by omega),cond_false]
theorem ZJx {n:Int} {s:Nat} (h:(s:Int)≤n):szv n s=n-s:=if_pos h
theorem ZJy {n:Int} {s:Nat} (h:¬(s:Int)≤n):szv n s= -1:=if_neg h
theorem ZFV:∀l:List Rw,Za Rw.ct l=3*l.length
 |[]=>rfl
 |a::l=>by simp only[Za,ZFV l,Rw.ct,List.length_cons];omega
theorem ZJz {α:Type}:∀l:List α,Za c1 l=l.length
 |[]=>rfl
 |a::l=>by simp only[Za,c1,ZJz l,List.length_cons];omega
theorem ZFW:∀l:List (List Rw),Za (Za Rw.ct) l≤3*szL List.length l
 |[]=>Nat.zero_le _
 |a::l=>by have:=ZFW l;simp only[Za,ZFV a,szL];omega
theorem ZK0:∀l:List Tk,Za Tk.ct l≤5*szL Tk.sz l
 |[]=>Nat.zero_le _
 |a::l=>by
  have:=ZK0 l
  have h1:=ZFV a.left
  have h2:=ZFV a.right
  have h3:=ZJz a.mat
  simp only[Za,szL,Tk.ct,Tk.sz,h1,h2,h3];omega
theorem ZK1:∀l:List Gt,Za Gt.ct l≤5*szL Gt.sz l
 |[]=>Nat.zero_le _
 |a::l=>by
  have:=ZK1 l
  have h1:=ZFV a.rows
  simp only[Za,szL,Gt.ct,Gt.sz,h1];omega
theorem So.cnt_le (y:So):Za Rw.ct y.inp+Za Rw.ct y.heap+Za Rw.ct y.dfd+Za Rw.ct y.out+Za (Za Rw.ct) y.runs≤5*y.sz:=by
 have:=ZFW y.runs
 simp only[ZFV,So.sz];omega
theorem Opr.cnt_le (y:Opr):Za Rw.ct y.so.inp+Za Rw.ct y.so.heap+Za Rw.ct y.so.dfd+Za Rw.ct y.so.out+Za (Za Rw.ct) y.so.runs+Za Tk.ct y.jn.pend+Za Gt.ct y.ag.pend≤5*y.sz:=by
 have h1:=y.so.cnt_le
 have h2:=ZK0 y.jn.pend
 have h3:=ZK1 y.ag.pend
 simp only[Opr.sz,Jn.sz,Ag.sz];omega
theorem Xc.cnt_le (x:Xc):Za (Za Rw.ct) x.pend+Za (Za Rw.ct) x.que+Za (Za Rw.ct) x.got≤3*x.sz:=by
 have h1:=ZFW x.pend
 have h2:=ZFW x.que
 have h3:=ZFW x.got
 simp only[Xc.sz];omega
theorem ZK2:∀l:List Pr,Za Pr.ct l=7*l.length
 |[]=>rfl
 |a::l=>by simp only[Za,ZK2 l,Pr.ct,List.length_cons];omega
theorem ZK3:∀l:List Gr,Za Gr.ct l=5*l.length
 |[]=>rfl
 |a::l=>by simp only[Za,ZK3 l,Gr.ct,List.length_cons];omega
theorem ZJ3:∀l:List Cl,Za Cl.ct l=3*l.length
 |[]=>rfl
 |a::l=>by simp only[Za,ZJ3 l,Cl.ct,List.length_cons];omega
theorem ZK4:∀l:List Sl,Za Sl.ct l≤20*szL Sl.sz l
 |[]=>Nat.zero_le _
 |a::l=>by
  have:=ZK4 l
  have h1:=a.op.cnt_le
  have h2:=ZFV a.out.rows
  have h3:=ZK2 a.out.pairs
  have h4:=ZK3 a.out.groups
  simp only[Za,szL,Sl.ct,Sl.sz,Ou.sz]
  omega
set_option maxRecDepth 100000
theorem ZDL (a0 a1:Int) (a2 a3 a4:Rows) (a5 a6:Int) (a7:Rows) (a8:Int) (a9 a10 a11 a12:Rows) (a13 a14 a15 a16:Int) (a17:Rows) (a18 a19:Int) (a20:Rows) (a21:Int) (a22:Bool) (a23 a24:Int):callI tE Z9M [.int a0,.int a1,.sl a2,.sl a3,.sl a4,.int a5,.int a6,.sl a7,.int a8,.sl a9,.sl a10,.sl a11,.sl a12,.int a13,.int a14,.int a15,.int a16,.sl a17,.int a18,.int a19,.sl a20,.int a21,.bool a22,.int a23,.int a24]=(((callI tE ZBF [(.int a0),(.int a1),(.sl a2),(.sl a3),(.sl a4),(.int a5),(.int 1048576)])).bind (fun r0=>(bif(ltI (gn r0) 0)then(some [(.bool Bool.true)])else(((callI tE ZCF [(.int a6),(.sl a7),(.int a8),(.sl a9),(.sl a10),(.sl a11),(.sl a12),(.int a13),(.int a14),(.int a15),(.int a16),(.sl a17),(.int a18),(.int a19),(.sl a20),(.int a21),(.bool a22),(.int (gn r0))])).bind (fun r1=>(bif(ltI (gn r1) 0)then(some [(.bool Bool.true)])else(((callI tE Z7V [(.int a0),(.int a1),(.sl a2),(.sl a3),(.sl a4),(.int a5)])).bind (fun r2=>(((callI tE Z9K [(.int a6),(.sl a7),(.int a8),(.sl a9),(.sl a10),(.sl a11),(.sl a12),(.int a13),(.int a14),(.int a15),(.int a16),(.sl a17),(.int a18),(.int a19),(.sl a20),(.int a21),(.bool a22)])).bind (fun r3=>(((callI tE ZCa [(.int (gn r2)),(.int (gn (tk 1 r2))),(.sl (gl (tk 2 r2))),(.sl (gl (tk 3 r2))),(.sl (gl (tk 4 r2))),(.int (gn (tk 5 r2))),(.int (gn r3)),(.sl (gl (tk 1 r3))),(.int (gn (tk 2 r3))),(.sl (gl (tk 3 r3))),(.sl (gl (tk 4 r3))),(.sl (gl (tk 5 r3))),(.sl (gl (tk 6 r3))),(.int (gn (tk 7 r3))),(.int (gn (tk 8 r3))),(.int (gn (tk 9 r3))),(.int (gn (tk 10 r3))),(.sl (gl (tk 11 r3))),(.int (gn (tk 12 r3))),(.int (gn (tk 13 r3))),(.sl (gl (tk 14 r3))),(.int (gn (tk 15 r3))),(.bool (gb (tk 16 r3))),(.int a23),(.int a24)])).bind (fun r4=>(((callI tE Z7V [(.int a0),(.int a1),(.sl a2),(.sl a3),(.sl a4),(.int a5)])).bind (fun r5=>(((callI tE Z9K [(.int a6),(.sl a7),(.int a8),(.sl a9),(.sl a10),(.sl a11),(.sl a12),(.int a13),(.int a14),(.int a15),(.int a16),(.sl a17),(.int a18),(.int a19),(.sl a20),(.int a21),(.bool a22)])).bind (fun r6=>(((callI tE ZBl [(.int (gn r5)),(.int (gn (tk 1 r5))),(.sl (gl (tk 2 r5))),(.sl (gl (tk 3 r5))),(.sl (gl (tk 4 r5))),(.int (gn (tk 5 r5))),(.int (gn r6)),(.sl (gl (tk 1 r6))),(.int (gn (tk 2 r6))),(.sl (gl (tk 3 r6))),(.sl (gl (tk 4 r6))),(.sl (gl (tk 5 r6))),(.sl (gl (tk 6 r6))),(.int (gn (tk 7 r6))),(.int (gn (tk 8 r6))),(.int (gn (tk 9 r6))),(.int (gn (tk 10 r6))),(.sl (gl (tk 11 r6))),(.int (gn (tk 12 r6))),(.int (gn (tk 13 r6))),(.sl (gl (tk 14 r6))),(.int (gn (tk 15 r6))),(.bool (gb (tk 16 r6))),(.int a23),(.int a24)])).bind (fun r7=>(((callI tE Z7Y [(.int (gn r7)),(.int (gn (tk 1 r7))),(.sl (gl (tk 2 r7))),(.sl (gl (tk 3 r7))),(.sl (gl (tk 4 r7))),(.int (gn (tk 5 r7))),(.int (gn r4)),(.int (gn (tk 1 r4))),(.sl (gl (tk 2 r4))),(.sl (gl (tk 3 r4))),(.sl (gl (tk 4 r4))),(.int (gn (tk 5 r4)))])).bind (fun r8=>(bif(!(gb r8))then(some [(.bool Bool.false)])else(bif(!(eqI (gn (tk 6 r7)) (gn (tk 6 r4))))then(some [(.bool Bool.false)])else(bif(!(eqBo (gb (tk 7 r7)) (gb (tk 7 r4))))then(some [(.bool Bool.false)])else(((callI tE Z7V [(.int a0),(.int a1),(.sl a2),(.sl a3),(.sl a4),(.int a5)])).bind (fun r9=>(((callI tE Z7Y [(.int (gn r5)),(.int (gn (tk 1 r5))),(.sl (gl (tk 2 r5))),(.sl (gl (tk 3 r5))),(.sl (gl (tk 4 r5))),(.int (gn (tk 5 r5))),(.int (gn r9)),(.int (gn (tk 1 r9))),(.sl (gl (tk 2 r9))),(.sl (gl (tk 3 r9))),(.sl (gl (tk 4 r9))),(.int (gn (tk 5 r9)))])).bind (fun r10=>(bif(!(gb r10))then(some [(.bool Bool.false)])else(((callI tE Z9K [(.int a6),(.sl a7),(.int a8),(.sl a9),(.sl a10),(.sl a11),(.sl a12),(.int a13),(.int a14),(.int a15),(.int a16),(.sl a17),(.int a18),(.int a19),(.sl a20),(.int a21),(.bool a22)])).bind (fun r11=>(((callI tE ZCM [(.int (gn r6)),(.sl (gl (tk 1 r6))),(.int (gn (tk 2 r6))),(.sl (gl (tk 3 r6))),(.sl (gl (tk 4 r6))),(.sl (gl (tk 5 r6))),(.sl (gl (tk 6 r6))),(.int (gn (tk 7 r6))),(.int (gn (tk 8 r6))),(.int (gn (tk 9 r6))),(.int (gn (tk 10 r6))),(.sl (gl (tk 11 r6))),(.int (gn (tk 12 r6))),(.int (gn (tk 13 r6))),(.sl (gl (tk 14 r6))),(.int (gn (tk 15 r6))),(.bool (gb (tk 16 r6))),(.int (gn r11)),(.sl (gl (tk 1 r11))),(.int (gn (tk 2 r11))),(.sl (gl (tk 3 r11))),(.sl (gl (tk 4 r11))),(.sl (gl (tk 5 r11))),(.sl (gl (tk 6 r11))),(.int (gn (tk 7 r11))),(.int (gn (tk 8 r11))),(.int (gn (tk 9 r11))),(.int (gn (tk 10 r11))),(.sl (gl (tk 11 r11))),(.int (gn (tk 12 r11))),(.int (gn (tk 13 r11))),(.sl (gl (tk 14 r11))),(.int (gn (tk 15 r11))),(.bool (gb (tk 16 r11)))])).bind (fun r12=>(bif(!(gb r12))then(some [(.bool Bool.false)])else(((callI tE Z7Z [(.int (gn r5)),(.int (gn (tk 1 r5))),(.sl (gl (tk 2 r5))),(.sl (gl (tk 3 r5))),(.sl (gl (tk 4 r5))),(.int (gn (tk 5 r5))),(.int 1)])).bind (fun r13=>(((callI tE ZB8 [(.int (gn r6)),(.sl (gl (tk 1 r6))),(.int (gn (tk 2 r6))),(.sl (gl (tk 3 r6))),(.sl (gl (tk 4 r6))),(.sl (gl (tk 5 r6))),(.sl (gl (tk 6 r6))),(.int (gn (tk 7 r6))),(.int (gn (tk 8 r6))),(.int (gn (tk 9 r6))),(.int (gn (tk 10 r6))),(.sl (gl (tk 11 r6))),(.int (gn (tk 12 r6))),(.int (gn (tk 13 r6))),(.sl (gl (tk 14 r6))),(.int (gn (tk 15 r6))),(.bool (gb (tk 16 r6))),(.int (gn r13))])).bind (fun r14=>(bif(ltI (gn r14) 0)then(some [(.bool Bool.false)])else(((callI tE Z7Y [(.int (gn r7)),(.int (gn (tk 1 r7))),(.sl (gl (tk 2 r7))),(.sl (gl (tk 3 r7))),(.sl (gl (tk 4 r7))),(.int (gn (tk 5 r7))),(.int (gn r4)),(.int (gn (tk 1 r4))),(.sl (gl (tk 2 r4))),(.sl (gl (tk 3 r4))),(.sl (gl (tk 4 r4))),(.int (gn (tk 5 r4)))])).bind (fun r15=>(bif(!(gb r15))then(some [(.bool Bool.false)])else(bif(!(eqI (gn (tk 6 r7)) (gn (tk 6 r4))))then(some [(.bool Bool.false)])else(bif(!(eqBo (gb (tk 7 r7)) (gb (tk 7 r4))))then(some [(.bool Bool.false)])else(((callI tE Z7Z [(.int (gn r7)),(.int (gn (tk 1 r7))),(.sl (gl (tk 2 r7))),(.sl (gl (tk 3 r7))),(.sl (gl (tk 4 r7))),(.int (gn (tk 5 r7))),(.int 1)])).bind (fun r16=>(((callI tE Z7a [(.int (gn r7)),(.int (gn (tk 1 r7))),(.sl (gl (List.drop 1 r16))),(.sl (gl (tk 1 (List.drop 1 r16)))),(.sl (gl (tk 2 (List.drop 1 r16)))),(.int (gn (tk 5 r7))),(.int 1)])).bind (fun r17=>(bif(ltI (gn r17) 0)then(some [(.bool Bool.false)])else(bif(!(eqI (gn r17) (gn r16)))then(some [(.bool Bool.false)])else(((callI tE Z7V [(.int a0),(.int a1),(.sl a2),(.sl a3),(.sl a4),(.int a5)])).bind (fun r18=>(((callI tE Z9K [(.int a6),(.sl a7),(.int a8),(.sl a9),(.sl a10),(.sl a11),(.sl a12),(.int a13),(.int a14),(.int a15),(.int a16),(.sl a17),(.int a18),(.int a19),(.sl a20),(.int a21),(.bool a22)])).bind (fun r19=>(((callI tE ZBl [(.int (gn r18)),(.int (gn (tk 1 r18))),(.sl (gl (tk 2 r18))),(.sl (gl (tk 3 r18))),(.sl (gl (tk 4 r18))),(.int (gn (tk 5 r18))),(.int (gn r19)),(.sl (gl (tk 1 r19))),(.int (gn (tk 2 r19))),(.sl (gl (tk 3 r19))),(.sl (gl (tk 4 r19))),(.sl (gl (tk 5 r19))),(.sl (gl (tk 6 r19))),(.int (gn (tk 7 r19))),(.int (gn (tk 8 r19))),(.int (gn (tk 9 r19))),(.int (gn (tk 10 r19))),(.sl (gl (tk 11 r19))),(.int (gn (tk 12 r19))),(.int (gn (tk 13 r19))),(.sl (gl (tk 14 r19))),(.int (gn (tk 15 r19))),(.bool (gb (tk 16 r19))),(.int a23),(.int a24)])).bind (fun r20=>(((callI tE Z7Y [(.int (gn r20)),(.int (gn (tk 1 r20))),(.sl (gl (tk 2 r20))),(.sl (gl (tk 3 r20))),(.sl (gl (tk 4 r20))),(.int (gn (tk 5 r20))),(.int (gn r4)),(.int (gn (tk 1 r4))),(.sl (gl (tk 2 r4))),(.sl (gl (tk 3 r4))),(.sl (gl (tk 4 r4))),(.int (gn (tk 5 r4)))])).bind (fun r21=>(bif(!(gb r21))then(some [(.bool Bool.false)])else(bif(!(eqI (gn (tk 6 r20)) (gn (tk 6 r4))))then(some [(.bool Bool.false)])else(bif(!(eqBo (gb (tk 7 r20)) (gb (tk 7 r4))))then(some [(.bool Bool.false)])else(((callI tE Z7a [(.int (gn r7)),(.int (gn (tk 1 r7))),(.sl (gl (List.drop 1 r16))),(.sl (gl (tk 1 (List.drop 1 r16)))),(.sl (gl (tk 2 (List.drop 1 r16)))),(.int (gn (tk 5 r7))),(.int 1)])).bind (fun r22=>(bif(ltI (gn r22) 0)then(some [(.bool Bool.false)])else(bif(!(eqI (gn r22) (gn r16)))then(some [(.bool Bool.false)])else(some [(.bool Bool.true)]))))))))))))))))))))))))))))))))))))))))))))))))))))))))))))))))):=(callI_run rfl (by kernel_rfl)).trans (by kernel_rfl)
set_option maxRecDepth 10000
theorem ZJ4 (y:Sy) (h:y.sz≤1073741824):∃(m:Int) (a b:List Cl) (c:List Sl),callI tE Z7Z [.int y.br.pool,.int y.br.next,.sl (y.br.act.map Cl.e),.sl (y.br.wait.map Cl.e),.sl (y.slots.map Sl.e),.int y.round,.int 1]=some [.int m,.sl (a.map Cl.e),.sl (b.map Cl.e),.sl (c.map Sl.e)]∧
  callI tE Z7a [.int y.br.pool,.int y.br.next,.sl (a.map Cl.e),.sl (b.map Cl.e),.sl (c.map Sl.e),.int y.round,.int 1]=some [.int m]∧0≤m∧m≤1152921504606846976:=by
 have h1:=ZJ3 y.br.act
 have h2:=ZJ3 y.br.wait
 have h3:=ZK4 y.slots
 have hh:=h
 simp only[Sy.sz,Br.sz]at hh
 exact⟨_,_,_,_,ZHW y 1 (by omega) (by omega) (by omega),ZHX y 1 (by omega) (by omega) (by omega),by omega,by omega⟩
theorem ZKX (o:Opr) (k:Int) (hk:0≤k) (hk2:k≤1152921504606846976) (h:o.sz≤1073741824):∃(m:Int) (t:List Dat),callI tE ZB8 [.int o.kind,.sl (o.so.inp.map Rw.e),.int o.so.pos,.sl (o.so.heap.map Rw.e),.sl (o.so.dfd.map Rw.e),.sl (o.so.out.map Rw.e),.sl (o.so.runs.map rsE),.int o.so.lp,.int o.so.rp,.int o.so.ph,.int o.so.wr,.sl (o.jn.pend.map Tk.e),.int o.jn.wr,.int o.jn.parts,.sl (o.ag.pend.map Gt.e),.int o.ag.wr,.bool o.ag.early,.int k]=some (.int m::t)∧0≤m:=by
 have h1:=o.cnt_le
 exact⟨_,_,ZKT o k hk (by omega) (by omega),by omega⟩
theorem pure_FnExactAddOp:∀ds,OkDs tE [.int .i64,.int .i64,.sl 355,.sl 355,.sl 253,.int .i64,.int .i64,.sl 242,.int .i64,.sl 242,.sl 242,.sl 242,.sl 345,.int .i64,.int .i64,.int .i64,.int .i64,.sl 348,.int .i64,.int .i64,.sl 351,.int .i64,.bool,.int .i64,.int .i64] ds→callI tE Z9M ds=some [.bool true]:=by
 intro ds h0
 obtain⟨_,_,rfl,i0,h1⟩:=OkDs.split (ls1:=[.int .i64,.int .i64,.sl 355,.sl 355,.sl 253,.int .i64]) (ls2:=[.int .i64,.sl 242,.int .i64,.sl 242,.sl 242,.sl 242,.sl 345,.int .i64,.int .i64,.int .i64,.int .i64,.sl 348,.int .i64,.int .i64,.sl 351,.int .i64,.bool,.int .i64,.int .i64]) h0
 obtain⟨x0,rfl,hx0⟩:=ZIg i0
 obtain⟨_,_,rfl,i1,h2⟩:=OkDs.split (ls1:=[.int .i64,.sl 242,.int .i64,.sl 242,.sl 242,.sl 242,.sl 345,.int .i64,.int .i64,.int .i64,.int .i64,.sl 348,.int .i64,.int .i64,.sl 351,.int .i64,.bool]) (ls2:=[.int .i64,.int .i64]) h1
 obtain⟨x1,rfl,hx1⟩:=ZLL i1
 obtain⟨_,_,rfl,i2,h3⟩:=h2.inv
 obtain⟨n2,rfl,j2⟩:=i2.i64
 obtain⟨_,_,rfl,i3,h4⟩:=h3.inv
 obtain⟨n3,rfl,j3⟩:=i3.i64
 obtain rfl:=h4.nil_inv
 show callI tE Z9M (x0.e++(x1.e++[.int n2,.int n3]))=_
 simp only[Sy.e,Opr.e,List.cons_append,List.nil_append]
 rw[ZDL,ZJ2 x0 1048576 (by omega) (by omega) hx0]
 simp only[gA]
 by_cases hs:(x0.sz:Int)≤1048576
 ·rw[ZJx hs,ltF (by omega),cond_false,ZL5 x1 (1048576-x0.sz) (by omega) (by omega) hx1]
  simp only[gA]
  by_cases ht:(x1.sz:Int)≤1048576-x0.sz
  ·have hb2:x0.B2:=by simp only[Sy.B2];omega
   have hb3:x1.B2:=by simp only[Opr.B2];omega
   rw[ZJx ht,ltF (by omega),cond_false,ZJ1 x0 (by omega),ZL4 x1 (by omega)]
   have e1:=ZL0 x0 x1 n2 n3 hb2 hb3
   have e2:=ZKz x0 x1 n2 n3 hb2 hb3
   have hz:=ZJY x0 x1 n2 n3
   simp only[Sy.e,Opr.e,List.cons_append,List.nil_append]at e1 e2
   generalize ZHP x0 x1 n2 n3=z at*
   obtain⟨y,id,ok⟩:=z
   simp only[syO]at hz e1 e2
   obtain⟨m,a1,a2,a3,k1,k2,k3,_⟩:=ZJ4 y (by omega)
   obtain⟨m',b1,b2,b3,g1,_,g3,g4⟩:=ZJ4 x0 (by omega)
   obtain⟨m'',t,g5,g6⟩:=ZKX x1 m' g3 g4 (by omega)
   have e3:=ZHA y y (by omega)
   simp only[gA,e1,e2,e3,g1,g5,k1,k2,ZHA x0 x0 (by omega),ZL6 x1 x1 (by omega),decide_true,Z8k,Z6n,Bool.not_true,cond_false,ltF k3,ltF g6]
  ·rw[ZJy ht];rfl
 ·rw[ZJy hs];rfl
end Go.Proofs.YtnihikajdbcoaaaGreat.Vai
