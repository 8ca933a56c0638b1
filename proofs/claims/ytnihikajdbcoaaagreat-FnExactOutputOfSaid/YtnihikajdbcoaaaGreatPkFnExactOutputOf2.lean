/- What the law of this claim leans on; no condition. -/
import Derived.Test.YtnihikajdbcoaaaGreatPkFnExactOutputOf1
namespace Go.Proofs.YtnihikajdbcoaaaGreat.Vai
open Go
set_option linter.unusedSimpArgs false
set_option linter.unusedVariables false
set_option linter.unnecessarySimpa false
set_option maxRecDepth 100000
theorem ZAZ (x0 x1:Rows) (x2:Int):Z8W x0 x1 x2=(bif(ltI x2 (lenI x0))then(bif(inR x2 (lenI x0))then(bif(inR x2 (lenI x1))then(((callI tE ZBC [(.int (gn (at' x0 (tn x2)))),(.int (gn (tk 1 (at' x0 (tn x2))))),(.sl (gl (tk 2 (at' x0 (tn x2))))),(.int (gn (tk 3 (at' x0 (tn x2))))),(.sl (gl (tk 4 (at' x0 (tn x2))))),(.sl (gl (tk 5 (at' x0 (tn x2))))),(.sl (gl (tk 6 (at' x0 (tn x2))))),(.sl (gl (tk 7 (at' x0 (tn x2))))),(.int (gn (tk 8 (at' x0 (tn x2))))),(.int (gn (tk 9 (at' x0 (tn x2))))),(.int (gn (tk 10 (at' x0 (tn x2))))),(.int (gn (tk 11 (at' x0 (tn x2))))),(.sl (gl (tk 12 (at' x0 (tn x2))))),(.int (gn (tk 13 (at' x0 (tn x2))))),(.int (gn (tk 14 (at' x0 (tn x2))))),(.sl (gl (tk 15 (at' x0 (tn x2))))),(.int (gn (tk 16 (at' x0 (tn x2))))),(.bool (gb (tk 17 (at' x0 (tn x2))))),(.sl (gl (tk 18 (at' x0 (tn x2))))),(.sl (gl (tk 19 (at' x0 (tn x2))))),(.sl (gl (tk 20 (at' x0 (tn x2))))),(.bool (gb (tk 21 (at' x0 (tn x2))))),(.int (gn (at' x1 (tn x2)))),(.int (gn (tk 1 (at' x1 (tn x2))))),(.sl (gl (tk 2 (at' x1 (tn x2))))),(.int (gn (tk 3 (at' x1 (tn x2))))),(.sl (gl (tk 4 (at' x1 (tn x2))))),(.sl (gl (tk 5 (at' x1 (tn x2))))),(.sl (gl (tk 6 (at' x1 (tn x2))))),(.sl (gl (tk 7 (at' x1 (tn x2))))),(.int (gn (tk 8 (at' x1 (tn x2))))),(.int (gn (tk 9 (at' x1 (tn x2))))),(.int (gn (tk 10 (at' x1 (tn x2))))),(.int (gn (tk 11 (at' x1 (tn x2))))),(.sl (gl (tk 12 (at' x1 (tn x2))))),(.int (gn (tk 13 (at' x1 (tn x2))))),(.int (gn (tk 14 (at' x1 (tn x2))))),(.sl (gl (tk 15 (at' x1 (tn x2))))),(.int (gn (tk 16 (at' x1 (tn x2))))),(.bool (gb (tk 17 (at' x1 (tn x2))))),(.sl (gl (tk 18 (at' x1 (tn x2))))),(.sl (gl (tk 19 (at' x1 (tn x2))))),(.sl (gl (tk 20 (at' x1 (tn x2))))),(.bool (gb (tk 21 (at' x1 (tn x2)))))])).bind (fun r0=>(bif(!(gb r0))then(some [(.bool Bool.false)])else(Z8W x0 x1 (w64 (x2+1))))))else none)else none)else(some [(.bool Bool.true)])):=(loopK_run (by kernel_rfl)).trans (by kernel_rfl)
theorem ZEI (a0 a1:Rows):callI tE Z9V [.sl a0,.sl a1]=(bif(!(eqI (lenI a0) (lenI a1)))then(some [(.bool Bool.false)])else(Z8W a0 a1 0)):=(callI_run rfl (by kernel_rfl)).trans (by kernel_rfl)
theorem ZDk (a0 a1:Int) (a2 a3 a4:Rows) (a5 a6 a7:Int) (a8 a9 a10:Rows) (a11:Int):callI tE ZAK [.int a0,.int a1,.sl a2,.sl a3,.sl a4,.int a5,.int a6,.int a7,.sl a8,.sl a9,.sl a10,.int a11]=(((callI tE ZAH [(.int a0),(.int a1),(.sl a2),(.sl a3),(.int a6),(.int a7),(.sl a8),(.sl a9)])).bind (fun r0=>(bif(!(gb r0))then(some [(.bool Bool.false)])else(((callI tE Z9V [(.sl a4),(.sl a10)])).bind (fun r1=>(bif(!(gb r1))then(some [(.bool Bool.false)])else(bif(!(eqI a5 a11))then(some [(.bool Bool.false)])else(some [(.bool Bool.true)])))))))):=(callI_run rfl (by kernel_rfl)).trans (by kernel_rfl)
noncomputable def Z76 (x0 x1:Int) (x2:Rows):Option (List Dat):=loopK tE Z6f 0 ⟨[(0,(.own (1000000,0))),(1,(.i .i64 x0)),(5,(.i .i64 x1))],[((1000000,0),(.row 177 x2 Bool.true 0 []))]⟩
theorem Z99 (x0 x1:Int) (x2:Rows):Z76 x0 x1 x2=(bif(ltI x1 (lenI x2))then(bif(inR x1 (lenI x2))then(bif(inR x1 (lenI (updR x2 (tn x1) 0 [(.int x0)])))then(bif(inR x1 (lenI (updR (updR x2 (tn x1) 0 [(.int x0)]) (tn x1) 1 [(.int (w64 (x0+1)))])))then(Z76 (w64 ((w64 ((w64 (x0+1))+1))+1)) (w64 (x1+1)) (updR (updR (updR x2 (tn x1) 0 [(.int x0)]) (tn x1) 1 [(.int (w64 (x0+1)))]) (tn x1) 2 [(.int (w64 ((w64 (x0+1))+1)))]))else none)else none)else none)else(some [(.int x0),(.sl x2)])):=(loopK_run (by kernel_rfl)).trans (by kernel_rfl)
theorem ZCP (a0:Rows) (a1:Int):callI tE Z6f [.sl a0,.int a1]=(Z76 a1 0 a0):=(callI_run rfl (by kernel_rfl)).trans (by kernel_rfl)
theorem ZCc (a0 a1:Int) (a2 a3:Rows) (a4:Int):callI tE Z9C [.int a0,.int a1,.sl a2,.sl a3,.int a4]=(((callI tE Z6f [(.sl a2),(.int a4)])).bind (fun r0=>(((callI tE Z6f [(.sl a3),(.int (gn r0))])).bind (fun r1=>(some [(.int (gn r1)),(.sl (gl (List.drop 1 r0))),(.sl (gl (List.drop 1 r1)))]))))):=(callI_run rfl (by kernel_rfl)).trans (by kernel_rfl)
noncomputable def Z7j (x0 x1:Int) (x2:Rows):Option (List Dat):=loopK tE Z8N 0 ⟨[(0,(.own (1000000,0))),(1,(.i .i64 x0)),(5,(.i .i64 x1))],[((1000000,0),(.row 91 x2 Bool.true 0 []))]⟩
theorem Z9n (x0 x1:Int) (x2:Rows):Z7j x0 x1 x2=(bif(ltI x1 (lenI x2))then(bif(inR x1 (lenI x2))then(bif(inR x1 (lenI (updR x2 (tn x1) 0 [(.int x0)])))then(bif(inR x1 (lenI (updR (updR x2 (tn x1) 0 [(.int x0)]) (tn x1) 1 [(.int (w64 (x0+1)))])))then(((callI tE Z5i [(List.getD (at' (updR (updR x2 (tn x1) 0 [(.int x0)]) (tn x1) 1 [(.int (w64 (x0+1)))]) (tn x1)) 2 (.int 0)),(.int (w64 ((w64 (x0+1))+1)))])).bind (fun r0=>(bif(inR x1 (lenI (updR (updR (updR x2 (tn x1) 0 [(.int x0)]) (tn x1) 1 [(.int (w64 (x0+1)))]) (tn x1) 2 [(List.headD (List.drop 1 r0) (.int 0))])))then(bif(inR x1 (lenI (updR (updR (updR (updR x2 (tn x1) 0 [(.int x0)]) (tn x1) 1 [(.int (w64 (x0+1)))]) (tn x1) 2 [(List.headD (List.drop 1 r0) (.int 0))]) (tn x1) 3 [(.int (gn r0))])))then(((callI tE Z5i [(List.getD (at' (updR (updR (updR (updR x2 (tn x1) 0 [(.int x0)]) (tn x1) 1 [(.int (w64 (x0+1)))]) (tn x1) 2 [(List.headD (List.drop 1 r0) (.int 0))]) (tn x1) 3 [(.int (gn r0))]) (tn x1)) 4 (.int 0)),(.int (w64 ((gn r0)+1)))])).bind (fun r1=>(bif(inR x1 (lenI (updR (updR (updR (updR (updR x2 (tn x1) 0 [(.int x0)]) (tn x1) 1 [(.int (w64 (x0+1)))]) (tn x1) 2 [(List.headD (List.drop 1 r0) (.int 0))]) (tn x1) 3 [(.int (gn r0))]) (tn x1) 4 [(List.headD (List.drop 1 r1) (.int 0))])))then(((callI tE Z5i [(List.getD (at' (updR (updR (updR (updR (updR x2 (tn x1) 0 [(.int x0)]) (tn x1) 1 [(.int (w64 (x0+1)))]) (tn x1) 2 [(List.headD (List.drop 1 r0) (.int 0))]) (tn x1) 3 [(.int (gn r0))]) (tn x1) 4 [(List.headD (List.drop 1 r1) (.int 0))]) (tn x1)) 5 (.int 0)),(.int (gn r1))])).bind (fun r2=>(bif(inR x1 (lenI (updR (updR (updR (updR (updR (updR x2 (tn x1) 0 [(.int x0)]) (tn x1) 1 [(.int (w64 (x0+1)))]) (tn x1) 2 [(List.headD (List.drop 1 r0) (.int 0))]) (tn x1) 3 [(.int (gn r0))]) (tn x1) 4 [(List.headD (List.drop 1 r1) (.int 0))]) (tn x1) 5 [(List.headD (List.drop 1 r2) (.int 0))])))then(((callI tE Z5i [(List.getD (at' (updR (updR (updR (updR (updR (updR x2 (tn x1) 0 [(.int x0)]) (tn x1) 1 [(.int (w64 (x0+1)))]) (tn x1) 2 [(List.headD (List.drop 1 r0) (.int 0))]) (tn x1) 3 [(.int (gn r0))]) (tn x1) 4 [(List.headD (List.drop 1 r1) (.int 0))]) (tn x1) 5 [(List.headD (List.drop 1 r2) (.int 0))]) (tn x1)) 6 (.int 0)),(.int (gn r2))])).bind (fun r3=>(bif(inR x1 (lenI (updR (updR (updR (updR (updR (updR (updR x2 (tn x1) 0 [(.int x0)]) (tn x1) 1 [(.int (w64 (x0+1)))]) (tn x1) 2 [(List.headD (List.drop 1 r0) (.int 0))]) (tn x1) 3 [(.int (gn r0))]) (tn x1) 4 [(List.headD (List.drop 1 r1) (.int 0))]) (tn x1) 5 [(List.headD (List.drop 1 r2) (.int 0))]) (tn x1) 6 [(List.headD (List.drop 1 r3) (.int 0))])))then(((callI tE Z8y [(List.getD (at' (updR (updR (updR (updR (updR (updR (updR x2 (tn x1) 0 [(.int x0)]) (tn x1) 1 [(.int (w64 (x0+1)))]) (tn x1) 2 [(List.headD (List.drop 1 r0) (.int 0))]) (tn x1) 3 [(.int (gn r0))]) (tn x1) 4 [(List.headD (List.drop 1 r1) (.int 0))]) (tn x1) 5 [(List.headD (List.drop 1 r2) (.int 0))]) (tn x1) 6 [(List.headD (List.drop 1 r3) (.int 0))]) (tn x1)) 7 (.int 0)),(.int (gn r3))])).bind (fun r4=>(bif(inR x1 (lenI (updR (updR (updR (updR (updR (updR (updR (updR x2 (tn x1) 0 [(.int x0)]) (tn x1) 1 [(.int (w64 (x0+1)))]) (tn x1) 2 [(List.headD (List.drop 1 r0) (.int 0))]) (tn x1) 3 [(.int (gn r0))]) (tn x1) 4 [(List.headD (List.drop 1 r1) (.int 0))]) (tn x1) 5 [(List.headD (List.drop 1 r2) (.int 0))]) (tn x1) 6 [(List.headD (List.drop 1 r3) (.int 0))]) (tn x1) 7 [(List.headD (List.drop 1 r4) (.int 0))])))then(bif(inR x1 (lenI (updR (updR (updR (updR (updR (updR (updR (updR (updR x2 (tn x1) 0 [(.int x0)]) (tn x1) 1 [(.int (w64 (x0+1)))]) (tn x1) 2 [(List.headD (List.drop 1 r0) (.int 0))]) (tn x1) 3 [(.int (gn r0))]) (tn x1) 4 [(List.headD (List.drop 1 r1) (.int 0))]) (tn x1) 5 [(List.headD (List.drop 1 r2) (.int 0))]) (tn x1) 6 [(List.headD (List.drop 1 r3) (.int 0))]) (tn x1) 7 [(List.headD (List.drop 1 r4) (.int 0))]) (tn x1) 8 [(.int (gn r4))])))then(bif(inR x1 (lenI (updR (updR (updR (updR (updR (updR (updR (updR (updR (updR x2 (tn x1) 0 [(.int x0)]) (tn x1) 1 [(.int (w64 (x0+1)))]) (tn x1) 2 [(List.headD (List.drop 1 r0) (.int 0))]) (tn x1) 3 [(.int (gn r0))]) (tn x1) 4 [(List.headD (List.drop 1 r1) (.int 0))]) (tn x1) 5 [(List.headD (List.drop 1 r2) (.int 0))]) (tn x1) 6 [(List.headD (List.drop 1 r3) (.int 0))]) (tn x1) 7 [(List.headD (List.drop 1 r4) (.int 0))]) (tn x1) 8 [(.int (gn r4))]) (tn x1) 9 [(.int (w64 ((gn r4)+1)))])))then(bif(inR x1 (lenI (updR (updR (updR (updR (updR (updR (updR (updR (updR (updR (updR x2 (tn x1) 0 [(.int x0)]) (tn x1) 1 [(.int (w64 (x0+1)))]) (tn x1) 2 [(List.headD (List.drop 1 r0) (.int 0))]) (tn x1) 3 [(.int (gn r0))]) (tn x1) 4 [(List.headD (List.drop 1 r1) (.int 0))]) (tn x1) 5 [(List.headD (List.drop 1 r2) (.int 0))]) (tn x1) 6 [(List.headD (List.drop 1 r3) (.int 0))]) (tn x1) 7 [(List.headD (List.drop 1 r4) (.int 0))]) (tn x1) 8 [(.int (gn r4))]) (tn x1) 9 [(.int (w64 ((gn r4)+1)))]) (tn x1) 10 [(.int (w64 ((w64 ((gn r4)+1))+1)))])))then(bif(inR x1 (lenI (updR (updR (updR (updR (updR (updR (updR (updR (updR (updR (updR (updR x2 (tn x1) 0 [(.int x0)]) (tn x1) 1 [(.int (w64 (x0+1)))]) (tn x1) 2 [(List.headD (List.drop 1 r0) (.int 0))]) (tn x1) 3 [(.int (gn r0))]) (tn x1) 4 [(List.headD (List.drop 1 r1) (.int 0))]) (tn x1) 5 [(List.headD (List.drop 1 r2) (.int 0))]) (tn x1) 6 [(List.headD (List.drop 1 r3) (.int 0))]) (tn x1) 7 [(List.headD (List.drop 1 r4) (.int 0))]) (tn x1) 8 [(.int (gn r4))]) (tn x1) 9 [(.int (w64 ((gn r4)+1)))]) (tn x1) 10 [(.int (w64 ((w64 ((gn r4)+1))+1)))]) (tn x1) 11 [(.int (w64 ((w64 ((w64 ((gn r4)+1))+1))+1)))])))then(((callI tE Z8M [(List.getD (at' (updR (updR (updR (updR (updR (updR (updR (updR (updR (updR (updR (updR x2 (tn x1) 0 [(.int x0)]) (tn x1) 1 [(.int (w64 (x0+1)))]) (tn x1) 2 [(List.headD (List.drop 1 r0) (.int 0))]) (tn x1) 3 [(.int (gn r0))]) (tn x1) 4 [(List.headD (List.drop 1 r1) (.int 0))]) (tn x1) 5 [(List.headD (List.drop 1 r2) (.int 0))]) (tn x1) 6 [(List.headD (List.drop 1 r3) (.int 0))]) (tn x1) 7 [(List.headD (List.drop 1 r4) (.int 0))]) (tn x1) 8 [(.int (gn r4))]) (tn x1) 9 [(.int (w64 ((gn r4)+1)))]) (tn x1) 10 [(.int (w64 ((w64 ((gn r4)+1))+1)))]) (tn x1) 11 [(.int (w64 ((w64 ((w64 ((gn r4)+1))+1))+1)))]) (tn x1)) 12 (.int 0)),(.int (w64 ((w64 ((w64 ((w64 ((gn r4)+1))+1))+1))+1)))])).bind (fun r5=>(bif(inR x1 (lenI (updR (updR (updR (updR (updR (updR (updR (updR (updR (updR (updR (updR (updR x2 (tn x1) 0 [(.int x0)]) (tn x1) 1 [(.int (w64 (x0+1)))]) (tn x1) 2 [(List.headD (List.drop 1 r0) (.int 0))]) (tn x1) 3 [(.int (gn r0))]) (tn x1) 4 [(List.headD (List.drop 1 r1) (.int 0))]) (tn x1) 5 [(List.headD (List.drop 1 r2) (.int 0))]) (tn x1) 6 [(List.headD (List.drop 1 r3) (.int 0))]) (tn x1) 7 [(List.headD (List.drop 1 r4) (.int 0))]) (tn x1) 8 [(.int (gn r4))]) (tn x1) 9 [(.int (w64 ((gn r4)+1)))]) (tn x1) 10 [(.int (w64 ((w64 ((gn r4)+1))+1)))]) (tn x1) 11 [(.int (w64 ((w64 ((w64 ((gn r4)+1))+1))+1)))]) (tn x1) 12 [(List.headD (List.drop 1 r5) (.int 0))])))then(bif(inR x1 (lenI (updR (updR (updR (updR (updR (updR (updR (updR (updR (updR (updR (updR (updR (updR x2 (tn x1) 0 [(.int x0)]) (tn x1) 1 [(.int (w64 (x0+1)))]) (tn x1) 2 [(List.headD (List.drop 1 r0) (.int 0))]) (tn x1) 3 [(.int (gn r0))]) (tn x1) 4 [(List.headD (List.drop 1 r1) (.int 0))]) (tn x1) 5 [(List.headD (List.drop 1 r2) (.int 0))]) (tn x1) 6 [(List.headD (List.drop 1 r3) (.int 0))]) (tn x1) 7 [(List.headD (List.drop 1 r4) (.int 0))]) (tn x1) 8 [(.int (gn r4))]) (tn x1) 9 [(.int (w64 ((gn r4)+1)))]) (tn x1) 10 [(.int (w64 ((w64 ((gn r4)+1))+1)))]) (tn x1) 11 [(.int (w64 ((w64 ((w64 ((gn r4)+1))+1))+1)))]) (tn x1) 12 [(List.headD (List.drop 1 r5) (.int 0))]) (tn x1) 13 [(.int (gn r5))])))then(bif(inR x1 (lenI (updR (updR (updR (updR (updR (updR (updR (updR (updR (updR (updR (updR (updR (updR (updR x2 (tn x1) 0 [(.int x0)]) (tn x1) 1 [(.int (w64 (x0+1)))]) (tn x1) 2 [(List.headD (List.drop 1 r0) (.int 0))]) (tn x1) 3 [(.int (gn r0))]) (tn x1) 4 [(List.headD (List.drop 1 r1) (.int 0))]) (tn x1) 5 [(List.headD (List.drop 1 r2) (.int 0))]) (tn x1) 6 [(List.headD (List.drop 1 r3) (.int 0))]) (tn x1) 7 [(List.headD (List.drop 1 r4) (.int 0))]) (tn x1) 8 [(.int (gn r4))]) (tn x1) 9 [(.int (w64 ((gn r4)+1)))]) (tn x1) 10 [(.int (w64 ((w64 ((gn r4)+1))+1)))]) (tn x1) 11 [(.int (w64 ((w64 ((w64 ((gn r4)+1))+1))+1)))]) (tn x1) 12 [(List.headD (List.drop 1 r5) (.int 0))]) (tn x1) 13 [(.int (gn r5))]) (tn x1) 14 [(.int (w64 ((gn r5)+1)))])))then(((callI tE Z6g [(List.getD (at' (updR (updR (updR (updR (updR (updR (updR (updR (updR (updR (updR (updR (updR (updR (updR x2 (tn x1) 0 [(.int x0)]) (tn x1) 1 [(.int (w64 (x0+1)))]) (tn x1) 2 [(List.headD (List.drop 1 r0) (.int 0))]) (tn x1) 3 [(.int (gn r0))]) (tn x1) 4 [(List.headD (List.drop 1 r1) (.int 0))]) (tn x1) 5 [(List.headD (List.drop 1 r2) (.int 0))]) (tn x1) 6 [(List.headD (List.drop 1 r3) (.int 0))]) (tn x1) 7 [(List.headD (List.drop 1 r4) (.int 0))]) (tn x1) 8 [(.int (gn r4))]) (tn x1) 9 [(.int (w64 ((gn r4)+1)))]) (tn x1) 10 [(.int (w64 ((w64 ((gn r4)+1))+1)))]) (tn x1) 11 [(.int (w64 ((w64 ((w64 ((gn r4)+1))+1))+1)))]) (tn x1) 12 [(List.headD (List.drop 1 r5) (.int 0))]) (tn x1) 13 [(.int (gn r5))]) (tn x1) 14 [(.int (w64 ((gn r5)+1)))]) (tn x1)) 15 (.int 0)),(.int (w64 ((w64 ((gn r5)+1))+1)))])).bind (fun r6=>(bif(inR x1 (lenI (updR (updR (updR (updR (updR (updR (updR (updR (updR (updR (updR (updR (updR (updR (updR (updR x2 (tn x1) 0 [(.int x0)]) (tn x1) 1 [(.int (w64 (x0+1)))]) (tn x1) 2 [(List.headD (List.drop 1 r0) (.int 0))]) (tn x1) 3 [(.int (gn r0))]) (tn x1) 4 [(List.headD (List.drop 1 r1) (.int 0))]) (tn x1) 5 [(List.headD (List.drop 1 r2) (.int 0))]) (tn x1) 6 [(List.headD (List.drop 1 r3) (.int 0))]) (tn x1) 7 [(List.headD (List.drop 1 r4) (.int 0))]) (tn x1) 8 [(.int (gn r4))]) (tn x1) 9 [(.int (w64 ((gn r4)+1)))]) (tn x1) 10 [(.int (w64 ((w64 ((gn r4)+1))+1)))]) (tn x1) 11 [(.int (w64 ((w64 ((w64 ((gn r4)+1))+1))+1)))]) (tn x1) 12 [(List.headD (List.drop 1 r5) (.int 0))]) (tn x1) 13 [(.int (gn r5))]) (tn x1) 14 [(.int (w64 ((gn r5)+1)))]) (tn x1) 15 [(List.headD (List.drop 1 r6) (.int 0))])))then(bif(inR x1 (lenI (updR (updR (updR (updR (updR (updR (updR (updR (updR (updR (updR (updR (updR (updR (updR (updR (updR x2 (tn x1) 0 [(.int x0)]) (tn x1) 1 [(.int (w64 (x0+1)))]) (tn x1) 2 [(List.headD (List.drop 1 r0) (.int 0))]) (tn x1) 3 [(.int (gn r0))]) (tn x1) 4 [(List.headD (List.drop 1 r1) (.int 0))]) (tn x1) 5 [(List.headD (List.drop 1 r2) (.int 0))]) (tn x1) 6 [(List.headD (List.drop 1 r3) (.int 0))]) (tn x1) 7 [(List.headD (List.drop 1 r4) (.int 0))]) (tn x1) 8 [(.int (gn r4))]) (tn x1) 9 [(.int (w64 ((gn r4)+1)))]) (tn x1) 10 [(.int (w64 ((w64 ((gn r4)+1))+1)))]) (tn x1) 11 [(.int (w64 ((w64 ((w64 ((gn r4)+1))+1))+1)))]) (tn x1) 12 [(List.headD (List.drop 1 r5) (.int 0))]) (tn x1) 13 [(.int (gn r5))]) (tn x1) 14 [(.int (w64 ((gn r5)+1)))]) (tn x1) 15 [(List.headD (List.drop 1 r6) (.int 0))]) (tn x1) 16 [(.int (gn r6))])))then(bif(inR x1 (lenI (updR (updR (updR (updR (updR (updR (updR (updR (updR (updR (updR (updR (updR (updR (updR (updR (updR (updR x2 (tn x1) 0 [(.int x0)]) (tn x1) 1 [(.int (w64 (x0+1)))]) (tn x1) 2 [(List.headD (List.drop 1 r0) (.int 0))]) (tn x1) 3 [(.int (gn r0))]) (tn x1) 4 [(List.headD (List.drop 1 r1) (.int 0))]) (tn x1) 5 [(List.headD (List.drop 1 r2) (.int 0))]) (tn x1) 6 [(List.headD (List.drop 1 r3) (.int 0))]) (tn x1) 7 [(List.headD (List.drop 1 r4) (.int 0))]) (tn x1) 8 [(.int (gn r4))]) (tn x1) 9 [(.int (w64 ((gn r4)+1)))]) (tn x1) 10 [(.int (w64 ((w64 ((gn r4)+1))+1)))]) (tn x1) 11 [(.int (w64 ((w64 ((w64 ((gn r4)+1))+1))+1)))]) (tn x1) 12 [(List.headD (List.drop 1 r5) (.int 0))]) (tn x1) 13 [(.int (gn r5))]) (tn x1) 14 [(.int (w64 ((gn r5)+1)))]) (tn x1) 15 [(List.headD (List.drop 1 r6) (.int 0))]) (tn x1) 16 [(.int (gn r6))]) (tn x1) 17 [(.bool (eqI (Int.tmod (w64 ((gn r6)+1)) 3) 0))])))then(((callI tE Z5i [(List.getD (at' (updR (updR (updR (updR (updR (updR (updR (updR (updR (updR (updR (updR (updR (updR (updR (updR (updR (updR x2 (tn x1) 0 [(.int x0)]) (tn x1) 1 [(.int (w64 (x0+1)))]) (tn x1) 2 [(List.headD (List.drop 1 r0) (.int 0))]) (tn x1) 3 [(.int (gn r0))]) (tn x1) 4 [(List.headD (List.drop 1 r1) (.int 0))]) (tn x1) 5 [(List.headD (List.drop 1 r2) (.int 0))]) (tn x1) 6 [(List.headD (List.drop 1 r3) (.int 0))]) (tn x1) 7 [(List.headD (List.drop 1 r4) (.int 0))]) (tn x1) 8 [(.int (gn r4))]) (tn x1) 9 [(.int (w64 ((gn r4)+1)))]) (tn x1) 10 [(.int (w64 ((w64 ((gn r4)+1))+1)))]) (tn x1) 11 [(.int (w64 ((w64 ((w64 ((gn r4)+1))+1))+1)))]) (tn x1) 12 [(List.headD (List.drop 1 r5) (.int 0))]) (tn x1) 13 [(.int (gn r5))]) (tn x1) 14 [(.int (w64 ((gn r5)+1)))]) (tn x1) 15 [(List.headD (List.drop 1 r6) (.int 0))]) (tn x1) 16 [(.int (gn r6))]) (tn x1) 17 [(.bool (eqI (Int.tmod (w64 ((gn r6)+1)) 3) 0))]) (tn x1)) 18 (.int 0)),(.int (w64 ((w64 ((gn r6)+1))+1)))])).bind (fun r7=>(bif(inR x1 (lenI (updR (updR (updR (updR (updR (updR (updR (updR (updR (updR (updR (updR (updR (updR (updR (updR (updR (updR (updR x2 (tn x1) 0 [(.int x0)]) (tn x1) 1 [(.int (w64 (x0+1)))]) (tn x1) 2 [(List.headD (List.drop 1 r0) (.int 0))]) (tn x1) 3 [(.int (gn r0))]) (tn x1) 4 [(List.headD (List.drop 1 r1) (.int 0))]) (tn x1) 5 [(List.headD (List.drop 1 r2) (.int 0))]) (tn x1) 6 [(List.headD (List.drop 1 r3) (.int 0))]) (tn x1) 7 [(List.headD (List.drop 1 r4) (.int 0))]) (tn x1) 8 [(.int (gn r4))]) (tn x1) 9 [(.int (w64 ((gn r4)+1)))]) (tn x1) 10 [(.int (w64 ((w64 ((gn r4)+1))+1)))]) (tn x1) 11 [(.int (w64 ((w64 ((w64 ((gn r4)+1))+1))+1)))]) (tn x1) 12 [(List.headD (List.drop 1 r5) (.int 0))]) (tn x1) 13 [(.int (gn r5))]) (tn x1) 14 [(.int (w64 ((gn r5)+1)))]) (tn x1) 15 [(List.headD (List.drop 1 r6) (.int 0))]) (tn x1) 16 [(.int (gn r6))]) (tn x1) 17 [(.bool (eqI (Int.tmod (w64 ((gn r6)+1)) 3) 0))]) (tn x1) 18 [(List.headD (List.drop 1 r7) (.int 0))])))then(((callI tE Z7S [(List.getD (at' (updR (updR (updR (updR (updR (updR (updR (updR (updR (updR (updR (updR (updR (updR (updR (updR (updR (updR (updR x2 (tn x1) 0 [(.int x0)]) (tn x1) 1 [(.int (w64 (x0+1)))]) (tn x1) 2 [(List.headD (List.drop 1 r0) (.int 0))]) (tn x1) 3 [(.int (gn r0))]) (tn x1) 4 [(List.headD (List.drop 1 r1) (.int 0))]) (tn x1) 5 [(List.headD (List.drop 1 r2) (.int 0))]) (tn x1) 6 [(List.headD (List.drop 1 r3) (.int 0))]) (tn x1) 7 [(List.headD (List.drop 1 r4) (.int 0))]) (tn x1) 8 [(.int (gn r4))]) (tn x1) 9 [(.int (w64 ((gn r4)+1)))]) (tn x1) 10 [(.int (w64 ((w64 ((gn r4)+1))+1)))]) (tn x1) 11 [(.int (w64 ((w64 ((w64 ((gn r4)+1))+1))+1)))]) (tn x1) 12 [(List.headD (List.drop 1 r5) (.int 0))]) (tn x1) 13 [(.int (gn r5))]) (tn x1) 14 [(.int (w64 ((gn r5)+1)))]) (tn x1) 15 [(List.headD (List.drop 1 r6) (.int 0))]) (tn x1) 16 [(.int (gn r6))]) (tn x1) 17 [(.bool (eqI (Int.tmod (w64 ((gn r6)+1)) 3) 0))]) (tn x1) 18 [(List.headD (List.drop 1 r7) (.int 0))]) (tn x1)) 19 (.int 0)),(.int (gn r7))])).bind (fun r8=>(bif(inR x1 (lenI (updR (updR (updR (updR (updR (updR (updR (updR (updR (updR (updR (updR (updR (updR (updR (updR (updR (updR (updR (updR x2 (tn x1) 0 [(.int x0)]) (tn x1) 1 [(.int (w64 (x0+1)))]) (tn x1) 2 [(List.headD (List.drop 1 r0) (.int 0))]) (tn x1) 3 [(.int (gn r0))]) (tn x1) 4 [(List.headD (List.drop 1 r1) (.int 0))]) (tn x1) 5 [(List.headD (List.drop 1 r2) (.int 0))]) (tn x1) 6 [(List.headD (List.drop 1 r3) (.int 0))]) (tn x1) 7 [(List.headD (List.drop 1 r4) (.int 0))]) (tn x1) 8 [(.int (gn r4))]) (tn x1) 9 [(.int (w64 ((gn r4)+1)))]) (tn x1) 10 [(.int (w64 ((w64 ((gn r4)+1))+1)))]) (tn x1) 11 [(.int (w64 ((w64 ((w64 ((gn r4)+1))+1))+1)))]) (tn x1) 12 [(List.headD (List.drop 1 r5) (.int 0))]) (tn x1) 13 [(.int (gn r5))]) (tn x1) 14 [(.int (w64 ((gn r5)+1)))]) (tn x1) 15 [(List.headD (List.drop 1 r6) (.int 0))]) (tn x1) 16 [(.int (gn r6))]) (tn x1) 17 [(.bool (eqI (Int.tmod (w64 ((gn r6)+1)) 3) 0))]) (tn x1) 18 [(List.headD (List.drop 1 r7) (.int 0))]) (tn x1) 19 [(List.headD (List.drop 1 r8) (.int 0))])))then(((callI tE Z7B [(List.getD (at' (updR (updR (updR (updR (updR (updR (updR (updR (updR (updR (updR (updR (updR (updR (updR (updR (updR (updR (updR (updR x2 (tn x1) 0 [(.int x0)]) (tn x1) 1 [(.int (w64 (x0+1)))]) (tn x1) 2 [(List.headD (List.drop 1 r0) (.int 0))]) (tn x1) 3 [(.int (gn r0))]) (tn x1) 4 [(List.headD (List.drop 1 r1) (.int 0))]) (tn x1) 5 [(List.headD (List.drop 1 r2) (.int 0))]) (tn x1) 6 [(List.headD (List.drop 1 r3) (.int 0))]) (tn x1) 7 [(List.headD (List.drop 1 r4) (.int 0))]) (tn x1) 8 [(.int (gn r4))]) (tn x1) 9 [(.int (w64 ((gn r4)+1)))]) (tn x1) 10 [(.int (w64 ((w64 ((gn r4)+1))+1)))]) (tn x1) 11 [(.int (w64 ((w64 ((w64 ((gn r4)+1))+1))+1)))]) (tn x1) 12 [(List.headD (List.drop 1 r5) (.int 0))]) (tn x1) 13 [(.int (gn r5))]) (tn x1) 14 [(.int (w64 ((gn r5)+1)))]) (tn x1) 15 [(List.headD (List.drop 1 r6) (.int 0))]) (tn x1) 16 [(.int (gn r6))]) (tn x1) 17 [(.bool (eqI (Int.tmod (w64 ((gn r6)+1)) 3) 0))]) (tn x1) 18 [(List.headD (List.drop 1 r7) (.int 0))]) (tn x1) 19 [(List.headD (List.drop 1 r8) (.int 0))]) (tn x1)) 20 (.int 0)),(.int (gn r8))])).bind (fun r9=>(bif(inR x1 (lenI (updR (updR (updR (updR (updR (updR (updR (updR (updR (updR (updR (updR (updR (updR (updR (updR (updR (updR (updR (updR (updR x2 (tn x1) 0 [(.int x0)]) (tn x1) 1 [(.int (w64 (x0+1)))]) (tn x1) 2 [(List.headD (List.drop 1 r0) (.int 0))]) (tn x1) 3 [(.int (gn r0))]) (tn x1) 4 [(List.headD (List.drop 1 r1) (.int 0))]) (tn x1) 5 [(List.headD (List.drop 1 r2) (.int 0))]) (tn x1) 6 [(List.headD (List.drop 1 r3) (.int 0))]) (tn x1) 7 [(List.headD (List.drop 1 r4) (.int 0))]) (tn x1) 8 [(.int (gn r4))]) (tn x1) 9 [(.int (w64 ((gn r4)+1)))]) (tn x1) 10 [(.int (w64 ((w64 ((gn r4)+1))+1)))]) (tn x1) 11 [(.int (w64 ((w64 ((w64 ((gn r4)+1))+1))+1)))]) (tn x1) 12 [(List.headD (List.drop 1 r5) (.int 0))]) (tn x1) 13 [(.int (gn r5))]) (tn x1) 14 [(.int (w64 ((gn r5)+1)))]) (tn x1) 15 [(List.headD (List.drop 1 r6) (.int 0))]) (tn x1) 16 [(.int (gn r6))]) (tn x1) 17 [(.bool (eqI (Int.tmod (w64 ((gn r6)+1)) 3) 0))]) (tn x1) 18 [(List.headD (List.drop 1 r7) (.int 0))]) (tn x1) 19 [(List.headD (List.drop 1 r8) (.int 0))]) (tn x1) 20 [(List.headD (List.drop 1 r9) (.int 0))])))then(Z7j (w64 ((gn r9)+1)) (w64 (x1+1)) (updR (updR (updR (updR (updR (updR (updR (updR (updR (updR (updR (updR (updR (updR (updR (updR (updR (updR (updR (updR (updR (updR x2 (tn x1) 0 [(.int x0)]) (tn x1) 1 [(.int (w64 (x0+1)))]) (tn x1) 2 [(List.headD (List.drop 1 r0) (.int 0))]) (tn x1) 3 [(.int (gn r0))]) (tn x1) 4 [(List.headD (List.drop 1 r1) (.int 0))]) (tn x1) 5 [(List.headD (List.drop 1 r2) (.int 0))]) (tn x1) 6 [(List.headD (List.drop 1 r3) (.int 0))]) (tn x1) 7 [(List.headD (List.drop 1 r4) (.int 0))]) (tn x1) 8 [(.int (gn r4))]) (tn x1) 9 [(.int (w64 ((gn r4)+1)))]) (tn x1) 10 [(.int (w64 ((w64 ((gn r4)+1))+1)))]) (tn x1) 11 [(.int (w64 ((w64 ((w64 ((gn r4)+1))+1))+1)))]) (tn x1) 12 [(List.headD (List.drop 1 r5) (.int 0))]) (tn x1) 13 [(.int (gn r5))]) (tn x1) 14 [(.int (w64 ((gn r5)+1)))]) (tn x1) 15 [(List.headD (List.drop 1 r6) (.int 0))]) (tn x1) 16 [(.int (gn r6))]) (tn x1) 17 [(.bool (eqI (Int.tmod (w64 ((gn r6)+1)) 3) 0))]) (tn x1) 18 [(List.headD (List.drop 1 r7) (.int 0))]) (tn x1) 19 [(List.headD (List.drop 1 r8) (.int 0))]) (tn x1) 20 [(List.headD (List.drop 1 r9) (.int 0))]) (tn x1) 21 [(.bool (eqI (Int.tmod (gn r9) 3) 0))]))else none)))else none)))else none)))else none)else none)else none)))else none)else none)else none)))else none)else none)else none)else none)else none)))else none)))else none)))else none)))else none)else none)))else none)else none)else none)else(some [(.int x0),(.sl x2)])):=(loopK_run (by kernel_rfl)).trans (by kernel_rfl)
theorem ZCv (a0:Rows) (a1:Int):callI tE Z8N [.sl a0,.int a1]=(Z7j a1 0 a0):=(callI_run rfl (by kernel_rfl)).trans (by kernel_rfl)
theorem ZCd (a0 a1:Int) (a2 a3 a4:Rows) (a5 a6:Int):callI tE Z7r [.int a0,.int a1,.sl a2,.sl a3,.sl a4,.int a5,.int a6]=(((callI tE Z9C [(.int a0),(.int a1),(.sl a2),(.sl a3),(.int a6)])).bind (fun r0=>(((callI tE Z8N [(.sl a4),(.int (gn r0))])).bind (fun r1=>(some [(.int (gn r1)),(.sl (gl (List.drop 1 r0))),(.sl (gl (tk 1 (List.drop 1 r0)))),(.sl (gl (List.drop 1 r1)))]))))):=(callI_run rfl (by kernel_rfl)).trans (by kernel_rfl)
theorem ZDl (a0 a1:Int) (a2 a3 a4:Rows) (a5 a6:Int):callI tE Z90 [.int a0,.int a1,.sl a2,.sl a3,.sl a4,.int a5,.int a6]=(((callI tE Z74 [(.int a0),(.int a1),(.sl a2),(.sl a3),(.sl a4),(.int a5)])).bind (fun r0=>(bif(!(gb r0))then(some [(.sl []),(.sl []),(.sl []),(.bool Bool.false)])else(((callI tE Z5W [(.int a6),(.int 0),(.int (w64 ((lenI a4)-1)))])).bind (fun r1=>(bif(!(gb r1))then(some [(.sl []),(.sl []),(.sl []),(.bool Bool.false)])else(bif(inR a6 (lenI a4))then(((callI tE Z8v [(.sl (gl (List.drop 18 (at' a4 (tn a6))))),(.sl (gl (tk 1 (List.drop 18 (at' a4 (tn a6)))))),(.sl (gl (tk 2 (List.drop 18 (at' a4 (tn a6))))))])).bind (fun r2=>(some [(.sl (gl r2)),(.sl (gl (tk 1 r2))),(.sl (gl (tk 2 r2))),(.bool Bool.true)])))else none))))))):=(callI_run rfl (by kernel_rfl)).trans (by kernel_rfl)
theorem ZDm (a0 a1:Int) (a2 a3 a4:Rows) (a5 a6:Int):callI tE ZAL [.int a0,.int a1,.sl a2,.sl a3,.sl a4,.int a5,.int a6]=(((callI tE Z70 [(.int a0),(.int a1),(.sl a2),(.sl a3),(.sl a4),(.int a5)])).bind (fun r0=>(bif(!(gb r0))then(some [(.sl []),(.sl []),(.sl []),(.bool Bool.false)])else(((callI tE Z5e [(.int a6),(.int 0),(.int (w64 ((lenI a4)-1)))])).bind (fun r1=>(bif(!(gb r1))then(some [(.sl []),(.sl []),(.sl []),(.bool Bool.false)])else(bif(inR a6 (lenI a4))then(((callI tE ZB5 [(.sl (gl (List.drop 18 (at' a4 (tn a6))))),(.sl (gl (tk 1 (List.drop 18 (at' a4 (tn a6)))))),(.sl (gl (tk 2 (List.drop 18 (at' a4 (tn a6))))))])).bind (fun r2=>(some [(.sl (gl r2)),(.sl (gl (tk 1 r2))),(.sl (gl (tk 2 r2))),(.bool Bool.true)])))else none))))))):=(callI_run rfl (by kernel_rfl)).trans (by kernel_rfl)
theorem ZCe (a0 a1 a2 a3:Int):callI tE ZAu [.int a0,.int a1,.int a2,.int a3]=(some [(.bool (eqI a0 a3)),(.int a3)]):=(callI_run rfl (by kernel_rfl)).trans (by kernel_rfl)
set_option maxRecDepth 10000
def So.zero:So:=⟨[],0,[],[],[],[],0,0,0,0⟩
def Jn.zero:Jn:=⟨[],0,0⟩
def Ag.zero:Ag:=⟨[],0,false⟩
def Tk.zero:Tk:=⟨0,[],[],[],0⟩
def Opr.zero:Opr:=⟨0,So.zero,Jn.zero,Ag.zero⟩
theorem ZJ0 (k:Int):callI tE Z7Y [.int k]=some [.bool (win k 1 4)]:=by
 simp only[ZBL,Z6q,gA]
theorem ZJ1 (k:Int):callI tE Z7X [.int k]=some [.bool (win k 1 4)]:=by
 simp only[ZBK,Z9G,gA]
def ZCh (x:Opr):Bool:=bif eqI x.kind 1 then eqI x.so.ph 4 else bif eqI x.kind 2 then eqI x.jn.pend.length 0 else bif eqI x.kind 3 then eqI x.ag.pend.length 0 else true
theorem ZGY (x:Opr):callI tE Z8s x.e=some [.bool (ZCh x)]:=by
 simp only[Opr.e]
 rw[ZDY,Z5M,Z5M]
 unfold ZCh
 cases eqI x.kind 1<;>cases eqI x.kind 2<;>cases eqI x.kind 3<;>rfl
theorem ZGZ (x:Opr):callI tE Z8m x.e=some [.bool (ZCh x)]:=by
 simp only[Opr.e]
 rw[ZDU,Z5M,Z5M]
 unfold ZCh
 cases eqI x.kind 1<;>cases eqI x.kind 2<;>cases eqI x.kind 3<;>rfl
theorem ZHI (t:Tk):callI tE Z8u [.int t.kind,.sl (t.left.map Rw.e),.sl (t.right.map Rw.e),.sl (t.mat.map boE),.int t.level]=some [.bool (ZHr t)]:=by
 rw[ZCM]
 simp only[ZJ0,ZCC,Z6q,Z5M,gA]
 unfold ZHr
 cases win t.kind 1 4
 ·rfl
 ·cases aok t.left
  ·rfl
  ·cases aok t.right
   ·rfl
   ·cases eqI (t.mat.length:Nat) (t.left.length:Nat)<;>rfl
theorem ZHJ (t:Tk) (h:t.sz≤1073741824):callI tE Z8p [.int t.kind,.sl (t.left.map Rw.e),.sl (t.right.map Rw.e),.sl (t.mat.map boE),.int t.level]=some [.bool (ZHr t)]:=by
 unfold Tk.sz at h
 rw[ZCK]
 simp only[ZJ1,ZBS t.left (by omega),ZBS t.right (by omega),Z9G,Z5M,gA]
 unfold ZHr
 cases win t.kind 1 4
 ·rfl
 ·cases aok t.left
  ·rfl
  ·cases aok t.right
   ·rfl
   ·cases eqI (t.mat.length:Nat) (t.left.length:Nat)<;>rfl
theorem ZBG (u v:List Tk):Z66 (u++v)=Z66 u+Z66 v:=by simp[Z66]
theorem ZAl (u v:List Tk):Z5k (u++v)=Z5k u+Z5k v:=by simp[Z5k]
theorem ZCf:∀l:List Tk,Z66 l≤szL Tk.sz l
 |[]=>Nat.le_refl _
 |a::l=>by
  have:=ZCf l
  simp only[Z66,List.map_cons,List.sum_cons,szL,Tk.sz]at*
  omega
theorem ZC5:∀l:List Tk,Z5k l≤szL Tk.sz l
 |[]=>Nat.le_refl _
 |a::l=>by
  have:=ZC5 l
  simp only[Z5k,List.map_cons,List.sum_cons,szL,Tk.sz]at*
  omega
def Jn.B2 (j:Jn):Prop:=j.sz≤1073741800
def ZBl (l:List Tk) (t:Tk):Bool:=ZHr t&&decide (t.kind=(l.headD tkZ).kind)
def ZGa (l:List Tk):Bool:=l.all (ZBl l)
theorem ZGb (j:Jn):ZIr j=(decide (j.pend.length≤40)&&(win j.wr 0 100000&&(win j.parts 0 1000&&(ZGa j.pend&&(decide (Z66 j.pend≤24)&&decide (Z5k j.pend≤24)))))):=rfl
theorem ZG4 (n:Nat):leI (n:Int) 24=decide (n≤24):=by unfold leI;congr 1;apply propext;omega
theorem ZI5 (n:Nat):leI (n:Int) 40=decide (n≤40):=by unfold leI;congr 1;apply propext;omega
theorem ZHs {l:List Tk} (h:0<l.length):at' (l.map Tk.e) (tn 0)=(l.headD tkZ).e:=by
 cases l with
 |nil=>simp at h
 |cons a l=>rfl
theorem ZHK (j:Jn) (h:j.B2):callI tE Z72 [.sl (j.pend.map Tk.e),.int j.wr,.int j.parts]=some [.bool (ZIr j)]:=by
 have hl:=Z6U Tk.sz j.pend
 have hL:=ZCf j.pend
 have hR:=ZC5 j.pend
 have hsz:szL Tk.sz j.pend≤1073741800:=h
 rw[ZBg,ZGb]
 simp only[Z6q,Z5M,gA]
 by_cases h40:j.pend.length≤40
 ·rw[ltF (by omega),cond_false,decide_eq_true h40]
  cases win j.wr 0 100000
  ·rfl
  ·cases win j.parts 0 1000
   ·rfl
   ·simp only[Bool.not_true,cond_false,Bool.true_and]
    refine(Z9X (l:=j.pend) (L:=fun(s:Nat×Nat) i=>Z5b 0 (s.1:Nat) (s.2:Nat) (j.pend.map Tk.e) (j.pend.length:Nat) i (j.pend.map Tk.e) j.wr j.parts) (F:=fun s v=>some [.bool (v.all (ZBl j.pend)&&(decide (s.1+Z66 v≤24)&&decide (s.2+Z5k v≤24)))]) (I:=fun s u _=>s=(Z66 u,Z5k u)) (by omega) (fun u a v s e hI=>?_) (fun s hs=>?_) (0,0) rfl).trans ?_
    ·have hul:u.length<j.pend.length:=by rw[e];simp
     have hat:at' (j.pend.map Tk.e) u.length=a.e:=ZCU e rfl
     have h1:Z66 u+a.left.length≤1073741800:=by
      rw[e,ZBG]at hL;simp only[Z66,List.map_cons,List.sum_cons]at hL⊢;rw[e]at hsz;omega
     have h2:Z5k u+a.right.length≤1073741800:=by
      rw[e,ZAl]at hR;simp only[Z5k,List.map_cons,List.sum_cons]at hR⊢;rw[e]at hsz;omega
     subst hI
     have step:Z5b 0 (Z66 u:Nat) (Z5k u:Nat) (j.pend.map Tk.e) (j.pend.length:Nat) (u.length:Nat) (j.pend.map Tk.e) j.wr j.parts=bif ZBl j.pend a then Z5b 0 ((Z66 u+a.left.length:Nat):Int) ((Z5k u+a.right.length:Nat):Int) (j.pend.map Tk.e) (j.pend.length:Nat) (w64 (u.length+1)) (j.pend.map Tk.e) j.wr j.parts else some [.bool false]:=by
      rw[Z8C,ltT (by omega),cond_true,Z5M,ZDz (by omega) (by omega),cond_true,ZDz (by omega) (by omega),cond_true,ZHs (by omega)]
      simp only[Z7D,hat,Tk.e,gA,ZHI,Z5M]
      unfold ZBl
      rw[Z5O ⟨by omega,by omega⟩,Z5O ⟨by omega,by omega⟩]
      cases ZHr a
      ·rfl
      ·simp only[Bool.not_true,cond_false,Bool.true_and,ZF2]
       rfl
     cases hp:ZBl j.pend a with
     |true=>
      refine .inl ⟨(Z66 u+a.left.length,Z5k u+a.right.length),?_,?_,?_⟩
      ·show Z5b _ _ _ _ _ _ _ _ _=Z5b _ _ _ _ _ _ _ _ _
       rw[step,hp];rfl
      ·rw[ZBG,ZAl];simp[Z66,Z5k]
      ·simp only[List.all_cons,hp,Bool.true_and,Z66,Z5k,List.map_cons,List.sum_cons,Nat.add_assoc]
     |false=>
      refine .inr ?_
      show Z5b _ _ _ _ _ _ _ _ _=_
      rw[step,hp]
      simp[hp]
    ·show Z5b _ _ _ _ _ _ _ _ _=_
     subst hs
     rw[Z8C,ltF (Int.le_refl _),cond_false,ZG4,ZG4]
     simp only[List.all_nil,Bool.true_and,show Z66 []=0 from rfl,show Z5k []=0 from rfl,Nat.add_zero]
     cases decide (Z66 j.pend≤24)<;>rfl
    ·simp only[Nat.zero_add];rfl
 ·rw[ltT (by omega),cond_true,decide_eq_false h40];rfl
theorem ZHL (j:Jn) (h:j.B2):callI tE Z6z [.sl (j.pend.map Tk.e),.int j.wr,.int j.parts]=some [.bool (ZIr j)]:=by
 have hl:=Z6U Tk.sz j.pend
 have hL:=ZCf j.pend
 have hR:=ZC5 j.pend
 have hsz:szL Tk.sz j.pend≤1073741800:=h
 rw[ZBf,ZGb]
 refine(Z9X (l:=j.pend) (L:=fun(s:Nat×Nat) i=>Z5a 0 (s.1:Nat) (s.2:Nat) i (j.pend.map Tk.e) j.wr j.parts) (F:=fun s v=>some [.bool (v.all (ZBl j.pend)&&(decide (s.1+Z66 v≤24)&&(decide (s.2+Z5k v≤24)&&(decide (j.pend.length≤40)&&(win j.wr 0 100000&&win j.parts 0 1000)))))]) (I:=fun s u _=>s=(Z66 u,Z5k u)) (by omega) (fun u a v s e hI=>?_) (fun s hs=>?_) (0,0) rfl).trans ?_
 ·have hul:u.length<j.pend.length:=by rw[e];simp
  have hat:at' (j.pend.map Tk.e) u.length=a.e:=ZCU e rfl
  have hasz:a.sz≤1073741824:=Nat.le_trans (Z9E (f:=Tk.sz) (show a∈j.pend by rw[e];simp)) (by omega)
  have h1:Z66 u+a.left.length≤1073741800:=by
   rw[e,ZBG]at hL;simp only[Z66,List.map_cons,List.sum_cons]at hL⊢;rw[e]at hsz;omega
  have h2:Z5k u+a.right.length≤1073741800:=by
   rw[e,ZAl]at hR;simp only[Z5k,List.map_cons,List.sum_cons]at hR⊢;rw[e]at hsz;omega
  subst hI
  have step:Z5a 0 (Z66 u:Nat) (Z5k u:Nat) (u.length:Nat) (j.pend.map Tk.e) j.wr j.parts=bif ZBl j.pend a then Z5a 0 ((Z66 u+a.left.length:Nat):Int) ((Z5k u+a.right.length:Nat):Int) (w64 (u.length+1)) (j.pend.map Tk.e) j.wr j.parts else some [.bool false]:=by
   rw[Z8B,Z5M,ltT (by omega),cond_true,ZDz (by omega) (by omega),cond_true,ZDz (by omega) (by omega),ZHs (by omega)]
   simp only[Z7D,hat,Tk.e,gA,ZHJ a hasz,Z5M,cond_true]
   unfold ZBl
   rw[Z5O ⟨by omega,by omega⟩,Z5O ⟨by omega,by omega⟩]
   cases ZHr a
   ·rfl
   ·simp only[Bool.not_true,cond_false,Bool.true_and,ZF2]
    rfl
  cases hp:ZBl j.pend a with
  |true=>
   refine .inl ⟨(Z66 u+a.left.length,Z5k u+a.right.length),?_,?_,?_⟩
   ·show Z5a _ _ _ _ _ _ _=Z5a _ _ _ _ _ _ _
    rw[step,hp];rfl
   ·rw[ZBG,ZAl];simp[Z66,Z5k]
   ·simp only[List.all_cons,hp,Bool.true_and,Z66,Z5k,List.map_cons,List.sum_cons,Nat.add_assoc]
  |false=>
   refine .inr ?_
   show Z5a _ _ _ _ _ _ _=_
   rw[step,hp]
   simp[hp]
 ·show Z5a _ _ _ _ _ _ _=_
  subst hs
  rw[Z8B,Z5M,ltF (Int.le_refl _),cond_false,ZG4,ZG4,ZI5]
  simp only[Z9G,gA,List.all_nil,Bool.true_and,show Z66 []=0 from rfl,show Z5k []=0 from rfl,Nat.add_zero]
  cases decide (Z66 j.pend≤24)
  ·rfl
  ·cases decide (Z5k j.pend≤24)
   ·rfl
   ·cases decide (j.pend.length≤40)
    ·rfl
    ·cases win j.wr 0 100000<;>rfl
 ·simp only[Nat.zero_add,ZGa]
  cases j.pend.all (ZBl j.pend)<;>cases decide (Z66 j.pend≤24)<;>cases decide (Z5k j.pend≤24)<;>cases decide (j.pend.length≤40)<;>cases win j.wr 0 100000<;>cases win j.parts 0 1000<;>rfl
theorem ZBc (u v:List Gt):Z6V (u++v)=Z6V u+Z6V v:=by simp[Z6V]
theorem ZDn:∀l:List Gt,Z6V l≤szL Gt.sz l
 |[]=>Nat.le_refl _
 |a::l=>by
  have:=ZDn l
  simp only[Z6V,List.map_cons,List.sum_cons,szL,Gt.sz]at*
  omega
def Ag.B2 (j:Ag):Prop:=j.sz≤1073741800
def ZH7 (t:Gt):Bool:=aok t.rows&&win t.level 0 4
theorem ZGc (a:Ag):ZIs a=(a.pend.all ZH7&&(decide (a.pend.length≤40)&&(decide (Z6V a.pend≤24)&&win a.wr 0 100000))):=rfl
theorem ZHM (j:Ag) (h:j.B2):callI tE Z6S [.sl (j.pend.map Gt.e),.int j.wr,.bool j.early]=some [.bool (ZIs j)]:=by
 have hl:=Z6U Gt.sz j.pend
 have hL:=ZDn j.pend
 have hsz:szL Gt.sz j.pend≤1073741800:=h
 rw[ZB1,ZGc,Z5M]
 refine(Z9X (l:=j.pend) (L:=fun(s:Nat) i=>Z5R 0 (s:Nat) (j.pend.map Gt.e) (j.pend.length:Nat) i (j.pend.map Gt.e) j.wr j.early) (F:=fun s v=>some [.bool (v.all ZH7&&(decide (j.pend.length≤40)&&(decide (s+Z6V v≤24)&&win j.wr 0 100000)))]) (I:=fun s u _=>s=Z6V u) (by omega) (fun u a v s e hI=>?_) (fun s hs=>?_) 0 rfl).trans ?_
 ·have hul:u.length<j.pend.length:=by rw[e];simp
  have hat:at' (j.pend.map Gt.e) u.length=a.e:=ZCU e rfl
  have h1:Z6V u+a.rows.length≤1073741800:=by
   rw[e,ZBc]at hL;simp only[Z6V,List.map_cons,List.sum_cons]at hL⊢;rw[e]at hsz;omega
  subst hI
  have step:Z5R 0 (Z6V u:Nat) (j.pend.map Gt.e) (j.pend.length:Nat) (u.length:Nat) (j.pend.map Gt.e) j.wr j.early=bif ZH7 a then Z5R 0 ((Z6V u+a.rows.length:Nat):Int) (j.pend.map Gt.e) (j.pend.length:Nat) (w64 (u.length+1)) (j.pend.map Gt.e) j.wr j.early else some [.bool false]:=by
   rw[Z7V,ltT (by omega),cond_true,Z5M,ZDz (by omega) (by omega),cond_true]
   simp only[Z7D,hat,Gt.e,gA,ZCC,Z6q,Z5M]
   unfold ZH7
   rw[Z5O (n:=(Z6V u:Int)+(a.rows.length:Int)) ⟨by omega,by omega⟩]
   cases aok a.rows
   ·rfl
   ·cases win a.level 0 4<;>rfl
  cases hp:ZH7 a with
  |true=>
   refine .inl ⟨Z6V u+a.rows.length,?_,?_,?_⟩
   ·show Z5R _ _ _ _ _ _ _ _=Z5R _ _ _ _ _ _ _ _
    rw[step,hp];rfl
   ·rw[ZBc];simp[Z6V]
   ·simp only[List.all_cons,hp,Bool.true_and,Z6V,List.map_cons,List.sum_cons,Nat.add_assoc]
  |false=>
   refine .inr ?_
   show Z5R _ _ _ _ _ _ _ _=_
   rw[step,hp]
   simp[hp]
 ·show Z5R _ _ _ _ _ _ _ _=_
  subst hs
  rw[Z7V,ltF (Int.le_refl _),cond_false,Z5M,ZG4,ZI5]
  simp only[Z6q,gA,List.all_nil,Bool.true_and,show Z6V []=0 from rfl,Nat.add_zero]
  cases decide (j.pend.length≤40)
  ·rfl
  ·cases decide (Z6V j.pend≤24)<;>rfl
 ·simp only[Nat.zero_add]
theorem ZHN (j:Ag) (h:j.B2):callI tE Z6R [.sl (j.pend.map Gt.e),.int j.wr,.bool j.early]=some [.bool (ZIs j)]:=by
 have hl:=Z6U Gt.sz j.pend
 have hL:=ZDn j.pend
 have hsz:szL Gt.sz j.pend≤1073741800:=h
 rw[ZB0,ZGc]
 refine(Z9X (l:=j.pend) (L:=fun(s:Nat) i=>Z5Q 0 (s:Nat) i (j.pend.map Gt.e) j.wr j.early) (F:=fun s v=>some [.bool (v.all ZH7&&(decide (s+Z6V v≤24)&&(decide (j.pend.length≤40)&&win j.wr 0 100000)))]) (I:=fun s u _=>s=Z6V u) (by omega) (fun u a v s e hI=>?_) (fun s hs=>?_) 0 rfl).trans ?_
 ·have hul:u.length<j.pend.length:=by rw[e];simp
  have hat:at' (j.pend.map Gt.e) u.length=a.e:=ZCU e rfl
  have hasz:a.rows.length≤1073741824:=Nat.le_trans (Z9E (f:=Gt.sz) (show a∈j.pend by rw[e];simp)) (by omega)
  have h1:Z6V u+a.rows.length≤1073741800:=by
   rw[e,ZBc]at hL;simp only[Z6V,List.map_cons,List.sum_cons]at hL⊢;rw[e]at hsz;omega
  subst hI
  have step:Z5Q 0 (Z6V u:Nat) (u.length:Nat) (j.pend.map Gt.e) j.wr j.early=bif ZH7 a then Z5Q 0 ((Z6V u+a.rows.length:Nat):Int) (w64 (u.length+1)) (j.pend.map Gt.e) j.wr j.early else some [.bool false]:=by
   rw[Z7U,Z5M,ltT (by omega),cond_true,ZDz (by omega) (by omega),cond_true]
   simp only[Z7D,hat,Gt.e,gA,ZBS a.rows (show a.rows.length<4611686018427387904 by omega),Z9G,Z5M,cond_true]
   unfold ZH7
   rw[Z5O (n:=(Z6V u:Int)+(a.rows.length:Int)) ⟨by omega,by omega⟩]
   cases aok a.rows
   ·rfl
   ·cases win a.level 0 4<;>rfl
  cases hp:ZH7 a with
  |true=>
   refine .inl ⟨Z6V u+a.rows.length,?_,?_,?_⟩
   ·show Z5Q _ _ _ _ _ _=Z5Q _ _ _ _ _ _
    rw[step,hp];rfl
   ·rw[ZBc];simp[Z6V]
   ·simp only[List.all_cons,hp,Bool.true_and,Z6V,List.map_cons,List.sum_cons,Nat.add_assoc]
  |false=>
   refine .inr ?_
   show Z5Q _ _ _ _ _ _=_
   rw[step,hp]
   simp[hp]
 ·show Z5Q _ _ _ _ _ _=_
  subst hs
  rw[Z7U,Z5M,ltF (Int.le_refl _),cond_false,ZG4,ZI5]
  simp only[Z9G,gA,List.all_nil,Bool.true_and,show Z6V []=0 from rfl,Nat.add_zero]
  cases decide (Z6V j.pend≤24)
  ·rfl
  ·cases decide (j.pend.length≤40)<;>rfl
 ·simp only[Nat.zero_add]
  cases j.pend.all ZH7<;>cases decide (Z6V j.pend≤24)<;>cases decide (j.pend.length≤40)<;>rfl
def Opr.B2 (o:Opr):Prop:=o.sz≤1073741800
theorem Opr.B2.p {o:Opr} (h:o.B2):o.so.B2∧o.jn.B2∧o.ag.B2:=by
 simp only[Opr.B2,Opr.sz,So.B2,Jn.B2,Ag.B2]at*
 omega
def ZI6 (nx:Int) (c:Cl):Bool:=win c.id 0 (w64 (nx-1))&&(win c.req 8 60&&win c.prio 0 9)
def ZFO (nx:Int):Option Int→List Cl→Bool
 |_,[]=>true
 |p,c::l=>(ZI6 nx c&& !(match p with|some q=>leI c.id q|none=>false))&&ZFO nx (some c.id) l
theorem ZGd (n:Int):callI tE Z9R [.int n]=some [.bool (win n 8 60)]:=by
 simp only[ZEH,Z6q,gA]
theorem ZFr {α:Type} (l:List α):l=[]∨∃u x,l=u++[x]:=by
 rcases List.eq_nil_or_concat l with h|⟨u,x,h⟩
 ·exact .inl h
 ·exact .inr ⟨u,x,by simpa using h⟩
theorem ZEo (nx:Int) (c:Cl) (b:Bool) (X:Option (List Dat)):
  (bif !(win c.id 0 (w64 (nx-1)))then some [Dat.bool false]else bif b then some [.bool false]else bif !(win c.req 8 60)then some [.bool false]else bif !(win c.prio 0 9)then some [.bool false]else X)=bif(ZI6 nx c&& !b)then X else some [.bool false]:=by
 unfold ZI6
 cases win c.id 0 (w64 (nx-1))<;>cases b<;>cases win c.req 8 60<;>cases win c.prio 0 9<;>rfl
theorem ZDo (l:List Cl) (nx:Int) (hl:l.length≤4611686018427387904):∀(v u:List Cl),l=u++v→Z6P (l.map Cl.e) nx (l.map Cl.e) (lenI (l.map Cl.e)) (u.length:Int)=some [.bool (ZFO nx (u.getLast?.map (·.id)) v)]
 |[],u,e=>by
  rw[List.append_nil]at e
  subst e
  rw[Z8k,ZEw,cond_false];rfl
 |c::v,u,e=>by
  have hul:u.length<l.length:=by rw[e];simp
  have ih:=ZDo l nx hl v (u++[c]) (by rw[e];simp)
  rw[List.length_append]at ih
  simp only[List.getLast?_append,List.getLast?_singleton,Option.some_or,Option.map_some]at ih
  have h1:ltI (u.length:Int) (lenI (l.map Cl.e))=true:=by rw[e];exact ZEv u v c
  have h2:at' (l.map Cl.e) u.length=c.e:=by rw[e];exact ZE0 u v c
  have h3:inR (u.length:Int) (lenI (l.map Cl.e))=true:=by rw[e];exact ZEW u v c
  rw[Z8k,h1,h3,Z7D,h2,Z8a (by omega)]
  simp only[cond_true,Cl.e,Z6q,ZGd,gA]
  simp only[List.length_cons,List.length_nil]at ih
  rw[ih]
  rcases ZFr u with rfl|⟨u',p,rfl⟩
  ·rw[show ltI 0 ((([]:List Cl).length:Nat):Int)=false from rfl]
   simp only[cond_false]
   have:=ZEo nx c false (some [.bool (ZFO nx (some c.id) v)])
   simp only[cond_false]at this
   rw[this]
   simp only[ZFO,List.getLast?_nil,Option.map_none]
   cases ZI6 nx c<;>rfl
  ·have e1:w64 ((((u'++[p]).length:Nat):Int)-1)=(u'.length:Int):=by rw[Z5O ⟨by simp only[List.length_append,List.length_singleton];omega,by omega⟩];simp
   have h4:at' (l.map Cl.e) u'.length=p.e:=by rw[e,List.append_assoc];exact ZE0 u' _ p
   have h5:inR (u'.length:Int) (lenI (l.map Cl.e))=true:=by rw[e,List.append_assoc];exact ZEW u' _ p
   rw[show ltI 0 (((u'++[p]).length:Nat):Int)=true from ltT (by simp only[List.length_append,List.length_singleton];omega),e1,h5,Z7D,h4]
   simp only[cond_true,Cl.e,gA]
   rw[ZEo nx c (leI c.id p.id)]
   simp only[ZFO,List.getLast?_append,List.getLast?_singleton,Option.some_or,Option.map_some]
   cases ZI6 nx c&& !leI c.id p.id<;>rfl
theorem ZHt (l:List Cl) (nx:Int) (hl:l.length≤4611686018427387904):callI tE Z6b [.sl (l.map Cl.e),.int nx]=some [.bool (ZFO nx none l)]:=by
 rw[ZC4];exact ZDo l nx hl l [] rfl
def ZHO (id:Int):Nat→List Cl→Int
 |_,[]=> -1
 |i,c::l=>if c.id=id then i else ZHO id (i+1) l
def ZCw (l:List Cl) (id:Int):Bool:=l.any fun c=>decide (c.id=id)
theorem ZD2 (id:Int):∀(l:List Cl) (i:Nat),leI 0 (ZHO id i l)=ZCw l id
 |[],i=>rfl
 |c::l,i=>by
  simp only[ZHO,ZCw,List.any_cons]
  by_cases h:c.id=id
  ·rw[if_pos h,decide_eq_true h,leT (by omega)];rfl
  ·rw[if_neg h,decide_eq_false h,ZD2 id l (i+1)];rfl
theorem ZFs (l:List Cl) (id:Int) (hl:l.length≤4611686018427387904):∀(v u:List Cl),l=u++v→Z5q (l.map Cl.e) 0 (lenI (l.map Cl.e)) (u.length:Int) id=some [.int (ZHO id u.length v),.int id]
 |[],u,e=>by
  rw[List.append_nil]at e
  subst e
  rw[Z7E,ZEw,cond_false];rfl
 |c::v,u,e=>by
  have hul:u.length<l.length:=by rw[e];simp
  have ih:=ZFs l id hl v (u++[c]) (by rw[e];simp)
  rw[List.length_append]at ih
  have h1:ltI (u.length:Int) (lenI (l.map Cl.e))=true:=by rw[e];exact ZEv u v c
  have h2:at' (l.map Cl.e) u.length=c.e:=by rw[e];exact ZE0 u v c
  have h3:inR (u.length:Int) (lenI (l.map Cl.e))=true:=by rw[e];exact ZEW u v c
  rw[Z7E,h1,h3,Z7D,h2,Z8a (by omega)]
  simp only[cond_true,Cl.e,ZCe,gA]
  simp only[List.length_cons,List.length_nil]at ih
  rw[ih]
  simp only[ZHO]
  by_cases h:c.id=id
  ·rw[eqT h,if_pos h];rfl
  ·rw[eqF h,if_neg h];rfl
theorem ZDp (l:List Cl) (id:Int) (hl:l.length≤4611686018427387904):callI tE Z7m [.sl (l.map Cl.e),.int id]=some [.int (ZHO id 0 l)]:=by
 rw[ZDh,ZAr,show Z5q (l.map Cl.e) 0 (lenI (l.map Cl.e)) 0 id=_ from ZFs l id hl l [] rfl];rfl
theorem ZFt (l:List Cl) (id:Int) (hl:l.length≤4611686018427387904):∀(v u:List Cl),l=u++v→Z9Y (l.map Cl.e) id (u.length:Int)=some [.int (ZHO id u.length v)]
 |[],u,e=>by
  rw[List.append_nil]at e
  subst e
  rw[ZB2,ZEw,cond_false];rfl
 |c::v,u,e=>by
  have hul:u.length<l.length:=by rw[e];simp
  have ih:=ZFt l id hl v (u++[c]) (by rw[e];simp)
  rw[List.length_append]at ih
  have h1:ltI (u.length:Int) (lenI (l.map Cl.e))=true:=by rw[e];exact ZEv u v c
  have h2:at' (l.map Cl.e) u.length=c.e:=by rw[e];exact ZE0 u v c
  have h3:inR (u.length:Int) (lenI (l.map Cl.e))=true:=by rw[e];exact ZEW u v c
  rw[ZB2,h1,h3,Z7D,h2,Z8a (by omega)]
  simp only[cond_true,Cl.e,gA]
  simp only[List.length_cons,List.length_nil]at ih
  rw[ih]
  simp only[ZHO]
  by_cases h:c.id=id
  ·rw[eqT h,if_pos h];rfl
  ·rw[eqF h,if_neg h];rfl
theorem sAt (l:List Cl) (id:Int) (hl:l.length≤4611686018427387904):callI tE Z9Z [.sl (l.map Cl.e),.int id]=some [.int (ZHO id 0 l)]:=by
 rw[ZFG];exact ZFt l id hl l [] rfl
def ZFH (p:Int):Int:=bif ltI (w64 (Int.tdiv p 8)) 5 then w64 (Int.tdiv p 8)else 5
def ZEM (a w:List Cl):Bool:=w.all fun c=> !ZCw a c.id
def ZIh (b:Br):Bool:=leI b.act.length (ZFH b.pool)&&((eqI b.wait.length 0||eqI b.act.length (ZFH b.pool))&&leI b.wait.length 5)
def ZI7 (b:Br):Bool:=win b.pool 8 120&&(win b.next 0 1000&&(ZFO b.next none b.act&&(ZFO b.next none b.wait&&(ZEM b.act b.wait&&ZIh b))))
theorem ZJ2 (b:Br):callI tE ZB9 [.int b.pool,.int b.next,.sl (b.act.map Cl.e),.sl (b.wait.map Cl.e)]=some [.int (ZFH b.pool)]:=by rw[ZFb];rfl
theorem ZJ3 (p:Int):callI tE Z9K [.int p]=some [.int (ZFH p)]:=by rw[ZEE];rfl
def Br.B (b:Br):Prop:=b.sz≤1073741824
theorem ZGe (b:Br):(bif leI (lenI (b.act.map Cl.e)) (ZFH b.pool)then(bif eqI (lenI (b.wait.map Cl.e)) 0 then some [Dat.bool (leI (lenI (b.wait.map Cl.e)) 5)]else bif eqI (lenI (b.act.map Cl.e)) (ZFH b.pool)then some [Dat.bool (leI (lenI (b.wait.map Cl.e)) 5)]else some [.bool false])else some [.bool false])=some [.bool (ZIh b)]:=by
 unfold ZIh
 rw[Z5M,Z5M]
 cases leI (b.act.length:Int) (ZFH b.pool)<;>cases eqI (b.wait.length:Int) 0<;>cases eqI (b.act.length:Int) (ZFH b.pool)<;>rfl
theorem ZFu (b:Br) (h:b.B):∀(v u:List Cl),b.wait=u++v→Z6K 0 (b.wait.map Cl.e) (lenI (b.wait.map Cl.e)) (u.length:Int) b.pool b.next (b.act.map Cl.e) (b.wait.map Cl.e)=some [.bool (ZEM b.act v&&ZIh b)]
 |[],u,e=>by
  rw[List.append_nil]at e
  rw[Z8H,show ltI (u.length:Int) (lenI (b.wait.map Cl.e))=false by rw[e];exact ZEw u]
  simp only[cond_false,ZJ2,gA]
  exact ZGe b
 |c::v,u,e=>by
  have hB:b.act.length+b.wait.length≤1073741824:=h
  have hul:u.length<b.wait.length:=by rw[e];simp
  have ih:=ZFu b h v (u++[c]) (by rw[e];simp)
  rw[List.length_append]at ih
  have h1:ltI (u.length:Int) (lenI (b.wait.map Cl.e))=true:=by rw[e];exact ZEv u v c
  have h2:at' (b.wait.map Cl.e) u.length=c.e:=by rw[e];exact ZE0 u v c
  have h3:inR (u.length:Int) (lenI (b.wait.map Cl.e))=true:=by rw[e];exact ZEW u v c
  rw[Z8H,h1,h3,Z7D,h2,Z8a (by omega)]
  simp only[List.length_cons,List.length_nil]at ih
  simp only[cond_true,Cl.e,gA,ZDp b.act c.id (by omega),ZD2,ih]
  simp only[ZEM,List.all_cons]
  cases ZCw b.act c.id<;>rfl
theorem ZHP (b:Br) (h:b.B):callI tE Z73 [.int b.pool,.int b.next,.sl (b.act.map Cl.e),.sl (b.wait.map Cl.e)]=some [.bool (ZI7 b)]:=by
 have hB:b.act.length+b.wait.length≤1073741824:=h
 have:=ZFu b h b.wait [] rfl
 rw[ZBj]
 simp only[Z6q,ZHt b.act b.next (by omega),ZHt b.wait b.next (by omega),gA]
 rw[show Z6K 0 (b.wait.map Cl.e) (lenI (b.wait.map Cl.e)) 0 b.pool b.next (b.act.map Cl.e) (b.wait.map Cl.e)=_ from this]
 unfold ZI7
 cases win b.pool 8 120<;>cases win b.next 0 1000<;>cases ZFO b.next none b.act<;>cases ZFO b.next none b.wait<;>rfl
theorem ZGf {x0 pool next:Int} {A W LL:Rows} {l:List Cl} {i:Nat} (hl:l.length≤1073741824) (hi:at' LL i=[.sl (l.map Cl.e)]) (hin:inR (i:Int) (lenI LL)=true):∀(v u:List Cl),l=u++v→
  Z5l x0 (i:Int) (u.length:Int) pool next A W LL=bif ZFO next (u.getLast?.map (·.id)) v then Z6I x0 (w64 ((i:Int)+1)) pool next A W LL else some [.bool false]
 |[],u,e=>by
  rw[List.append_nil]at e
  subst e
  rw[Z8D,hin,Z7D,hi]
  simp only[cond_true,gA]
  rw[ZEw];rfl
 |c::v,u,e=>by
  have hul:u.length<l.length:=by rw[e];simp
  have ih:=ZGf (x0:=x0) (pool:=pool) (next:=next) (A:=A) (W:=W) hl hi hin v (u++[c]) (by rw[e];simp)
  rw[List.length_append]at ih
  simp only[List.getLast?_append,List.getLast?_singleton,Option.some_or,Option.map_some,List.length_cons,List.length_nil]at ih
  have h1:ltI (u.length:Int) (lenI (l.map Cl.e))=true:=by rw[e];exact ZEv u v c
  have h2:at' (l.map Cl.e) u.length=c.e:=by rw[e];exact ZE0 u v c
  have h3:inR (u.length:Int) (lenI (l.map Cl.e))=true:=by rw[e];exact ZEW u v c
  rw[Z8D,hin,Z7D,hi]
  simp only[cond_true,gA]
  rw[h1,h3,Z7D,h2,Z8a (by omega)]
  simp only[cond_true,Cl.e,Z9G,gA]
  rw[ih]
  rcases ZFr u with rfl|⟨u',p,rfl⟩
  ·rw[show ltI 0 ((([]:List Cl).length:Nat):Int)=false from rfl]
   simp only[cond_false]
   have:=ZEo next c false (bif ZFO next (some c.id) v then Z6I x0 (w64 ((i:Int)+1)) pool next A W LL else some [.bool false])
   simp only[cond_false]at this
   rw[this]
   simp only[ZFO,List.getLast?_nil,Option.map_none]
   cases ZI6 next c<;>rfl
  ·have e1:w64 ((((u'++[p]).length:Nat):Int)-1)=(u'.length:Int):=by rw[Z5O ⟨by simp only[List.length_append,List.length_singleton];omega,by omega⟩];simp
   have h4:at' (l.map Cl.e) u'.length=p.e:=by rw[e,List.append_assoc];exact ZE0 u' _ p
   have h5:inR (u'.length:Int) (lenI (l.map Cl.e))=true:=by rw[e,List.append_assoc];exact ZEW u' _ p
   rw[show ltI 0 (((u'++[p]).length:Nat):Int)=true from ltT (by simp only[List.length_append,List.length_singleton];omega),e1,h5,Z7D,h4]
   simp only[cond_true,Cl.e,gA]
   rw[ZEo next c (leI c.id p.id)]
   simp only[ZFO,List.getLast?_append,List.getLast?_singleton,Option.some_or,Option.map_some]
   cases ZI6 next c&& !leI c.id p.id<;>rfl
theorem ZIi (b:Br) (h:b.B) {x0:Int} {i:Nat} {a:Cl} (ha:b.act[i]?=some a):∀(v u:List Cl),b.wait=u++v→
  Z6J x0 (i:Int) (u.length:Int) b.pool b.next (b.act.map Cl.e) (b.wait.map Cl.e)=bif v.all (fun c=> !decide (a.id=c.id))then Z60 x0 ((i+1:Nat):Int) b.pool b.next (b.act.map Cl.e) (b.wait.map Cl.e)else some [.bool false]
 |[],u,e=>by
  rw[List.append_nil]at e
  have hB:b.act.length+b.wait.length≤1073741824:=h
  have:=(List.getElem?_eq_some_iff.mp ha).1
  rw[Z8F,show ltI (u.length:Int) (lenI (b.wait.map Cl.e))=false by rw[e];exact ZEw u,Z8a (i:=i) (by omega)];rfl
 |c::v,u,e=>by
  have hB:b.act.length+b.wait.length≤1073741824:=h
  have hul:u.length<b.wait.length:=by rw[e];simp
  have ih:=ZIi b h (x0:=x0) ha v (u++[c]) (by rw[e];simp)
  rw[List.length_append]at ih
  simp only[List.length_cons,List.length_nil]at ih
  have h1:ltI (u.length:Int) (lenI (b.wait.map Cl.e))=true:=by rw[e];exact ZEv u v c
  have h2:at' (b.wait.map Cl.e) u.length=c.e:=by rw[e];exact ZE0 u v c
  have h3:inR (u.length:Int) (lenI (b.wait.map Cl.e))=true:=by rw[e];exact ZEW u v c
  have h4:at' (b.act.map Cl.e) i=a.e:=by simp[List.getD_eq_getElem?_getD,ha]
  have h5:inR (i:Int) (lenI (b.act.map Cl.e))=true:=ZBr (List.getElem?_eq_some_iff.mp ha).1
  rw[Z8F,h1,h3,h5,Z7D,Z7D,h2,h4,Z8a (i:=u.length) (by omega),ih]
  simp only[cond_true,Cl.e,gA,List.all_cons]
  by_cases hq:a.id=c.id
  ·rw[eqT hq,decide_eq_true hq];rfl
  ·rw[eqF hq,decide_eq_false hq];rfl
theorem ZIj (b:Br) (h:b.B) {x0:Int}:∀(v u:List Cl),b.act=u++v→
  Z60 x0 (u.length:Int) b.pool b.next (b.act.map Cl.e) (b.wait.map Cl.e)=some [.bool (v.all (fun a=>b.wait.all fun c=> !decide (a.id=c.id))&&(win b.pool 8 120&&(win b.next 0 1000&&ZIh b)))]
 |[],u,e=>by
  rw[List.append_nil]at e
  rw[Z8E,show ltI (u.length:Int) (lenI (b.act.map Cl.e))=false by rw[e];exact ZEw u]
  simp only[cond_false,Z9G,ZJ3,gA]
  rw[ZGe b]
  cases win b.pool 8 120<;>cases win b.next 0 1000<;>rfl
 |a::v,u,e=>by
  have ih:=ZIj b h (x0:=x0) v (u++[a]) (by rw[e];simp)
  rw[List.length_append]at ih
  simp only[List.length_cons,List.length_nil,Nat.zero_add]at ih
  have h1:ltI (u.length:Int) (lenI (b.act.map Cl.e))=true:=by rw[e];exact ZEv u v a
  have h3:=ZIi b h (x0:=x0) (i:=u.length) (a:=a) (by rw[e];simp) b.wait [] rfl
  rw[Z8E,h1,cond_true,show Z6J x0 (u.length:Int) 0 b.pool b.next (b.act.map Cl.e) (b.wait.map Cl.e)=_ from h3,ih,List.all_cons]
  cases b.wait.all fun c=> !decide (a.id=c.id)<;>rfl
theorem ZHQ (a w:List Cl):(a.all fun x=>w.all fun c=> !decide (x.id=c.id))=ZEM a w:=by
 rw[Bool.eq_iff_iff]
 simp only[ZEM,ZCw,List.all_eq_true,Bool.not_eq_true',decide_eq_false_iff_not,List.any_eq_false,decide_eq_true_eq]
 exact⟨fun h c hc x hx=>h x hx c hc,fun h x hx c hc=>h c hc x hx⟩
theorem ZHR (b:Br) (h:b.B):callI tE Z5v [.int b.pool,.int b.next,.sl (b.act.map Cl.e),.sl (b.wait.map Cl.e)]=some [.bool (ZI7 b)]:=by
 have hB:b.act.length+b.wait.length≤1073741824:=h
 have k0:=ZGf (x0:=0) (pool:=b.pool) (next:=b.next) (A:=b.act.map Cl.e) (W:=b.wait.map Cl.e) (LL:=[[.sl (b.act.map Cl.e)],[.sl (b.wait.map Cl.e)]]) (l:=b.act) (i:=0) (by omega) rfl rfl b.act [] rfl
 have k1:=ZGf (x0:=0) (pool:=b.pool) (next:=b.next) (A:=b.act.map Cl.e) (W:=b.wait.map Cl.e) (LL:=[[.sl (b.act.map Cl.e)],[.sl (b.wait.map Cl.e)]]) (l:=b.wait) (i:=1) (by omega) rfl rfl b.wait [] rfl
 have k2:=ZIj b h (x0:=0) b.act [] rfl
 rw[ZBh,Z6x,show ltI 0 2=true from rfl,cond_true,show Z5l 0 0 0 b.pool b.next (b.act.map Cl.e) (b.wait.map Cl.e) [[.sl (b.act.map Cl.e)],[.sl (b.wait.map Cl.e)]]=_ from k0]
 rw[show w64 (((0:Nat):Int)+1)=1 from by decide,Z6x,show ltI 1 2=true from rfl,cond_true,show Z5l 0 1 0 b.pool b.next (b.act.map Cl.e) (b.wait.map Cl.e) [[.sl (b.act.map Cl.e)],[.sl (b.wait.map Cl.e)]]=_ from k1]
 rw[show w64 (((1:Nat):Int)+1)=2 from by decide,Z6x,show ltI 2 2=false from rfl,cond_false,show Z60 0 0 b.pool b.next (b.act.map Cl.e) (b.wait.map Cl.e)=_ from k2,ZHQ]
 simp only[List.getLast?_nil,Option.map_none]
 unfold ZI7
 cases win b.pool 8 120<;>cases win b.next 0 1000<;>cases ZFO b.next none b.act<;>cases ZFO b.next none b.wait<;>cases ZEM b.act b.wait<;>rfl
def ZHu (o:Opr):Bool:=bif eqI o.kind 1 then ZIg o.so else bif eqI o.kind 2 then ZIr o.jn else bif eqI o.kind 3 then ZIs o.ag else false
theorem ZHS (o:Opr) (h:o.B2):callI tE Z9Q o.e=some [.bool (ZHu o)]:=by
 obtain⟨h1,h2,h3⟩:=h.p
 unfold Opr.e ZHu
 rw[ZEG]
 simp only[ZHG o.so h1,ZHK o.jn h2,ZHM o.ag h3,gA]
 cases eqI o.kind 1<;>cases eqI o.kind 2<;>cases eqI o.kind 3<;>rfl
theorem ZJ4 (o:Opr) (h:o.B2):callI tE Z9J o.e=some [.bool (ZHu o)]:=by
 obtain⟨h1,h2,h3⟩:=h.p
 unfold Opr.e ZHu
 rw[ZED]
 simp only[ZHH o.so h1,ZHL o.jn h2,ZHN o.ag h3,gA]
 cases eqI o.kind 1<;>cases eqI o.kind 2<;>cases eqI o.kind 3<;>rfl
def ZDq (b:Br) (i:Nat) (x:Sl):Bool:=eqI x.id i&&(ZHu x.op&&(eqBo x.done (ZCh x.op)&& !eqBo (ZCw b.act x.id||ZCw b.wait x.id) x.done))
def ZBa (b:Br):Nat→List Sl→Bool
 |_,[]=>true
 |i,x::l=>ZDq b i x&&ZBa b (i+1) l
def ZI8 (y:Sy):Bool:=ZI7 y.br&&(eqI y.slots.length y.br.next&&(leI y.slots.length 8&&(win y.round 0 1000&&ZBa y.br 0 y.slots)))
def Sy.B2 (y:Sy):Prop:=y.sz≤1073741800
theorem Sy.B2.p {y:Sy} (h:y.B2):y.br.B∧y.slots.length≤1073741824∧∀x∈y.slots,x.op.B2∧x.out.sz≤1073741824:=by
 have h:y.br.sz+szL Sl.sz y.slots≤1073741800:=h
 have hl:=Z6U Sl.sz y.slots
 refine⟨by show y.br.sz≤_;omega,by omega,fun x hx=>?_⟩
 have:=Z9E (f:=Sl.sz) hx
 have e:Sl.sz x=x.op.sz+x.out.sz:=rfl
 exact⟨by show x.op.sz≤_;omega,by omega⟩
theorem ZFv (b:Br) (i:Nat) (x:Sl) (X:Option (List Dat)):(bif ZCw b.act x.id then(bif !(eqI x.id i)then some [Dat.bool false]else bif !(ZHu x.op)then some [.bool false]else bif !(eqBo x.done (ZCh x.op))then some [.bool false]else bif eqBo true x.done then some [.bool false]else X)
  else(bif !(eqI x.id i)then some [Dat.bool false]else bif !(ZHu x.op)then some [.bool false]else bif !(eqBo x.done (ZCh x.op))then some [.bool false]else bif eqBo (ZCw b.wait x.id) x.done then some [.bool false]else X))=bif ZDq b i x then X else some [.bool false]:=by
 unfold ZDq
 cases ZCw b.act x.id<;>cases eqI x.id i<;>cases ZHu x.op<;>cases eqBo x.done (ZCh x.op)<;>cases ZCw b.wait x.id<;>cases x.done<;>rfl
theorem ZFw (y:Sy) (h:y.B2):∀(v u:List Sl),y.slots=u++v→Z62 0 (y.slots.map Sl.e) (lenI (y.slots.map Sl.e)) (u.length:Int) y.br.pool y.br.next (y.br.act.map Cl.e) (y.br.wait.map Cl.e)=some [.bool (ZBa y.br u.length v)]
 |[],u,e=>by
  rw[List.append_nil]at e
  rw[Z8I,show ltI (u.length:Int) (lenI (y.slots.map Sl.e))=false by rw[e];exact ZEw u];rfl
 |x::v,u,e=>by
  obtain⟨p1,p2,p3⟩:=h.p
  have hB:y.br.act.length+y.br.wait.length≤1073741824:=p1
  have hul:u.length<y.slots.length:=by rw[e];simp
  have ih:=ZFw y h v (u++[x]) (by rw[e];simp)
  rw[List.length_append]at ih
  simp only[List.length_cons,List.length_nil,Nat.zero_add]at ih
  have h1:ltI (u.length:Int) (lenI (y.slots.map Sl.e))=true:=by rw[e];exact ZEv u v x
  have h2:at' (y.slots.map Sl.e) u.length=x.e:=by rw[e];exact ZE0 u v x
  have h3:inR (u.length:Int) (lenI (y.slots.map Sl.e))=true:=by rw[e];exact ZEW u v x
  have ho:=(p3 x (by rw[e];simp)).1
  have q1:=ZHS x.op ho
  have q2:=ZGY x.op
  unfold Opr.e at q1 q2
  rw[Z8I,h1,h3,Z7D,h2,Z8a (by omega),ih]
  simp only[cond_true,Sl.e,gA,ZDp y.br.act x.id (by omega),ZDp y.br.wait x.id (by omega),ZD2,q1,q2]
  rw[ZFv]
  simp only[ZBa]
  cases ZDq y.br u.length x<;>rfl
theorem ZHT (y:Sy) (h:y.B2):callI tE Z74 [.int y.br.pool,.int y.br.next,.sl (y.br.act.map Cl.e),.sl (y.br.wait.map Cl.e),.sl (y.slots.map Sl.e),.int y.round]=some [.bool (ZI8 y)]:=by
 obtain⟨p1,p2,p3⟩:=h.p
 have:=ZFw y h y.slots [] rfl
 rw[ZBk]
 simp only[ZHP y.br p1,Z6q,gA]
 rw[show Z62 0 (y.slots.map Sl.e) (lenI (y.slots.map Sl.e)) 0 y.br.pool y.br.next (y.br.act.map Cl.e) (y.br.wait.map Cl.e)=_ from this,Z5M]
 unfold ZI8
 rw[show ltI 8 (y.slots.length:Int)= !leI (y.slots.length:Int) 8 by unfold ltI leI;rw[←decide_not];congr 1;apply propext;omega]
 cases ZI7 y.br<;>cases eqI (y.slots.length:Int) y.br.next<;>cases leI (y.slots.length:Int) 8<;>cases win y.round 0 1000<;>rfl
theorem ZFx (y:Sy) (h:y.B2):∀(v u:List Sl),y.slots=u++v→Z61 0 (u.length:Int) y.br.pool y.br.next (y.br.act.map Cl.e) (y.br.wait.map Cl.e) (y.slots.map Sl.e) y.round=some [.bool (ZBa y.br u.length v)]
 |[],u,e=>by
  rw[List.append_nil]at e
  rw[Z8G,show ltI (u.length:Int) (lenI (y.slots.map Sl.e))=false by rw[e];exact ZEw u];rfl
 |x::v,u,e=>by
  obtain⟨p1,p2,p3⟩:=h.p
  have hB:y.br.act.length+y.br.wait.length≤1073741824:=p1
  have hul:u.length<y.slots.length:=by rw[e];simp
  have ih:=ZFx y h v (u++[x]) (by rw[e];simp)
  rw[List.length_append]at ih
  simp only[List.length_cons,List.length_nil,Nat.zero_add]at ih
  have h1:ltI (u.length:Int) (lenI (y.slots.map Sl.e))=true:=by rw[e];exact ZEv u v x
  have h2:at' (y.slots.map Sl.e) u.length=x.e:=by rw[e];exact ZE0 u v x
  have h3:inR (u.length:Int) (lenI (y.slots.map Sl.e))=true:=by rw[e];exact ZEW u v x
  have ho:=(p3 x (by rw[e];simp)).1
  have q1:=ZJ4 x.op ho
  have q2:=ZGZ x.op
  unfold Opr.e at q1 q2
  rw[Z8G,h1,h3,Z7D,h2,Z8a (by omega),ih]
  simp only[cond_true,Sl.e,gA,sAt y.br.act _ (show y.br.act.length≤4611686018427387904 by omega),sAt y.br.wait _ (show y.br.wait.length≤4611686018427387904 by omega),ZD2,q1,q2]
  by_cases hid:x.id=(u.length:Int)
  ·rw[←hid]
   have:=ZFv y.br u.length x (some [.bool (ZBa y.br (u.length+1) v)])
   rw[←hid]at this
   rw[this]
   simp only[ZBa]
   cases ZDq y.br u.length x<;>rfl
  ·have hs:ZDq y.br u.length x=false:=by unfold ZDq;rw[eqF hid];rfl
   simp only[ZBa,hs,eqF hid,Bool.not_false,cond_true,Bool.false_and]
   cases ZCw y.br.act (u.length:Int)<;>rfl
theorem ZHU (y:Sy) (h:y.B2):callI tE Z70 [.int y.br.pool,.int y.br.next,.sl (y.br.act.map Cl.e),.sl (y.br.wait.map Cl.e),.sl (y.slots.map Sl.e),.int y.round]=some [.bool (ZI8 y)]:=by
 obtain⟨p1,p2,p3⟩:=h.p
 have:=ZFx y h y.slots [] rfl
 rw[ZBi]
 simp only[ZHR y.br p1,Z9G,gA]
 rw[show Z61 0 0 y.br.pool y.br.next (y.br.act.map Cl.e) (y.br.wait.map Cl.e) (y.slots.map Sl.e) y.round=_ from this,Z5M]
 unfold ZI8
 rw[show ltI 8 (y.slots.length:Int)= !leI (y.slots.length:Int) 8 by unfold ltI leI;rw[←decide_not];congr 1;apply propext;omega]
 cases ZI7 y.br<;>cases eqI (y.slots.length:Int) y.br.next<;>cases leI (y.slots.length:Int) 8<;>cases win y.round 0 1000<;>rfl
theorem ZJF {α:Type} {e:α→List Dat} {l:List α} {k:Nat} {a:α} (h:l[k]?=some a):at' (l.map e) k=e a:=by
 simp[List.getD_eq_getElem?_getD,h]
theorem ZJG {α:Type} {e:α→List Dat} {l:List α} {k:Nat} {a:α} (h:l[k]?=some a):inR (k:Int) (lenI (l.map e))=true:=ZBr (List.getElem?_eq_some_iff.mp h).1
theorem ZJ5 (o:Ou) (h:o.sz≤1073741824):callI tE Z8v [.sl (o.rows.map Rw.e),.sl (o.pairs.map Pr.e),.sl (o.groups.map Gr.e)]=some o.e:=by
 simp only[Ou.sz]at h
 simp only[ZCN,ZHm o.rows (by omega),gA,Z7n]
 rw[ZC6 (by omega),ZC6 (by omega)];rfl
theorem ZJ6 (o:Ou) (h:o.sz≤1073741824):callI tE ZB5 [.sl (o.rows.map Rw.e),.sl (o.pairs.map Pr.e),.sl (o.groups.map Gr.e)]=some o.e:=by
 simp only[Ou.sz]at h
 rw[ZEl,Z7n,Z7n,Z7n,ZC6 (by omega),ZC6 (by omega),ZC6 (by omega)];rfl
def Ou.zero:Ou:=⟨[],[],[]⟩
def OuB (x:Ou×Bool):List Dat:=[.sl (x.1.rows.map Rw.e),.sl (x.1.pairs.map Pr.e),.sl (x.1.groups.map Gr.e),.bool x.2]
def ZFc (y:Sy) (i:Int):Ou×Bool:=if ZI8 y=true∧0≤i then match y.slots[i.toNat]? with
 |some x=>(x.out,true)
 |none=>(Ou.zero,false)else(Ou.zero,false)
theorem ZFy {α:Type} (l:List α) (e:α→List Dat) (i:Int) (hl:l.length≤1073741824):win i 0 (w64 (lenI (l.map e)-1))=(decide (0≤i)&&decide (i<l.length)):=by
 rw[Z5M,Z5O ⟨by omega,by omega⟩,Bool.eq_iff_iff]
 simp only[ZBE,Bool.and_eq_true,decide_eq_true_eq]
 omega
theorem ZJ7 (y:Sy) (i:Int) (h:y.B2):callI tE Z90 [.int y.br.pool,.int y.br.next,.sl (y.br.act.map Cl.e),.sl (y.br.wait.map Cl.e),.sl (y.slots.map Sl.e),.int y.round,.int i]=some (OuB (ZFc y i)):=by
 obtain⟨p1,p2,p3⟩:=h.p
 rw[ZDl,ZHT y h]
 simp only[gA,Z6q]
 rw[ZFy _ _ _ p2]
 unfold ZFc
 cases hv:ZI8 y with
 |false=>rw[if_neg (by simp)];rfl
 |true=>
  by_cases h0:0≤i
  ·rw[decide_eq_true h0,if_pos (by simp[h0])]
   obtain⟨k,rfl⟩:∃k:Nat,i=k:=⟨i.toNat,by omega⟩
   rw[Int.toNat_natCast]
   cases hx:y.slots[k]? with
   |none=>
    have:=List.getElem?_eq_none_iff.mp hx
    rw[decide_eq_false (by omega)];rfl
   |some x=>
    have:=(List.getElem?_eq_some_iff.mp hx).1
    rw[decide_eq_true (by omega),ZJG hx,Z7D,ZJF hx]
    simp only[Bool.and_self,Bool.not_true,cond_false,cond_true,Sl.e,gA,ZJ5 x.out (p3 x (List.mem_of_getElem? hx)).2,Ou.e]
    rfl
  ·rw[decide_eq_false h0,if_neg (by simp[h0])];rfl
theorem ZJ8 (y:Sy) (i:Int) (h:y.B2):callI tE ZAL [.int y.br.pool,.int y.br.next,.sl (y.br.act.map Cl.e),.sl (y.br.wait.map Cl.e),.sl (y.slots.map Sl.e),.int y.round,.int i]=some (OuB (ZFc y i)):=by
 obtain⟨p1,p2,p3⟩:=h.p
 rw[ZDm,ZHU y h]
 simp only[gA,Z9G]
 rw[ZFy _ _ _ p2]
 unfold ZFc
 cases hv:ZI8 y with
 |false=>rw[if_neg (by simp)];rfl
 |true=>
  by_cases h0:0≤i
  ·rw[decide_eq_true h0,if_pos (by simp[h0])]
   obtain⟨k,rfl⟩:∃k:Nat,i=k:=⟨i.toNat,by omega⟩
   rw[Int.toNat_natCast]
   cases hx:y.slots[k]? with
   |none=>
    have:=List.getElem?_eq_none_iff.mp hx
    rw[decide_eq_false (by omega)];rfl
   |some x=>
    have:=(List.getElem?_eq_some_iff.mp hx).1
    rw[decide_eq_true (by omega),ZJG hx,Z7D,ZJF hx]
    simp only[Bool.and_self,Bool.not_true,cond_false,cond_true,Sl.e,gA,ZJ6 x.out (p3 x (List.mem_of_getElem? hx)).2,Ou.e]
    rfl
  ·rw[decide_eq_false h0,if_neg (by simp[h0])];rfl
theorem ZBM {α:Type} {e:α→List Dat} {p:α→Prop} {t:TypeId} {te:TI} (ht:tE.T t=some te) (hp:0<te.by_) (hE:∀{ds:List Dat},OkDs tE te.ls ds→∃x,ds=e x∧p x) {d:Dat} (h:OkD tE (.sl t) d):∃l:List α,d=.sl (l.map e)∧BdL p l:=by
 obtain⟨rows,rfl,hn,hr⟩:=h.sl' ht
 have key:∀rows:Rows,(∀r∈rows,OkDs tE te.ls r)→∃l:List α,rows=l.map e∧∀a∈l,p a:=by
  intro rows
  induction rows with
  |nil=>intro _;exact⟨[],rfl,fun a ha=>by cases ha⟩
  |cons r rows ih=>
   intro hr
   obtain⟨l,h1,h2⟩:=ih (fun q hq=>hr q (List.mem_cons_of_mem _ hq))
   obtain⟨x,h3,h4⟩:=hE (hr r (by simp))
   exact⟨x::l,by rw[h1,h3];rfl,fun a ha=>(List.mem_cons.mp ha).elim (fun e=>e▸h4) (h2 a)⟩
 obtain⟨l,h1,h2⟩:=key rows hr
 refine⟨l,by rw[h1],?_,h2⟩
 have:rows.length=l.length:=by rw[h1];simp
 have h3:rows.length≤reachBytes:=Nat.le_trans (Nat.le_mul_of_pos_right _ hp) hn
 have h4:reachBytes≤1152921504606846976:=by decide
 omega
theorem OkDs.split {ls1 ls2:List Leaf} {ds:List Dat} (h:OkDs tE (ls1++ls2) ds):∃d1 d2,ds=d1++d2∧OkDs tE ls1 d1∧OkDs tE ls2 d2:=by
 induction ls1 generalizing ds with
 |nil=>exact⟨[],ds,rfl,.nil,h⟩
 |cons l ls ih=>
  obtain⟨d,r,rfl,h1,h2⟩:=h.inv
  obtain⟨d1,d2,rfl,h3,h4⟩:=ih h2
  exact⟨d::d1,d2,rfl,.cons _ _ _ _ h1 h3,h4⟩
theorem ZI9 {ds:List Dat} (h:OkDs tE [.bool] ds):∃n,ds=boE n∧BdT n:=by
 obtain⟨_,_,rfl,i,h⟩:=h.inv
 obtain rfl:=h.nil_inv
 obtain⟨n,rfl⟩:=i.bool'
 exact⟨n,rfl,trivial⟩
theorem ZCQ {ds:List Dat} (h:OkDs tE [.int .i64,.int .i64,.int .i64] ds):∃x:Rw,ds=Rw.e x∧Rw.bd x:=by
 obtain⟨_,_,rfl,i0,h⟩:=h.inv
 obtain⟨_,_,rfl,i1,h⟩:=h.inv
 obtain⟨_,_,rfl,i2,h⟩:=h.inv
 obtain rfl:=h.nil_inv
 obtain⟨n0,rfl,j0⟩:=i0.i64
 obtain⟨n1,rfl,j1⟩:=i1.i64
 obtain⟨n2,rfl,j2⟩:=i2.i64
 exact⟨⟨n0,n1,n2⟩,rfl,⟨j0,j1,j2⟩⟩
theorem ZIA {ds:List Dat} (h:OkDs tE [.int .i64,.int .i64,.int .i64,.int .i64,.int .i64,.int .i64,.bool] ds):∃x:Pr,ds=Pr.e x∧Pr.bd x:=by
 obtain⟨_,_,rfl,i0,h⟩:=h.inv
 obtain⟨_,_,rfl,i1,h⟩:=h.inv
 obtain⟨_,_,rfl,i2,h⟩:=h.inv
 obtain⟨_,_,rfl,i3,h⟩:=h.inv
 obtain⟨_,_,rfl,i4,h⟩:=h.inv
 obtain⟨_,_,rfl,i5,h⟩:=h.inv
 obtain⟨_,_,rfl,i6,h⟩:=h.inv
 obtain rfl:=h.nil_inv
 obtain⟨n0,rfl,j0⟩:=i0.i64
 obtain⟨n1,rfl,j1⟩:=i1.i64
 obtain⟨n2,rfl,j2⟩:=i2.i64
 obtain⟨n3,rfl,j3⟩:=i3.i64
 obtain⟨n4,rfl,j4⟩:=i4.i64
 obtain⟨n5,rfl,j5⟩:=i5.i64
 obtain⟨n6,rfl⟩:=i6.bool'
 exact⟨⟨⟨n0,n1,n2⟩,⟨n3,n4,n5⟩,n6⟩,rfl,⟨⟨j0,j1,j2⟩,⟨j3,j4,j5⟩,trivial⟩⟩
theorem ZHV {ds:List Dat} (h:OkDs tE [.int .i64,.int .i64,.int .i64,.int .i64,.int .i64] ds):∃x:Gr,ds=Gr.e x∧Gr.bd x:=by
 obtain⟨_,_,rfl,i0,h⟩:=h.inv
 obtain⟨_,_,rfl,i1,h⟩:=h.inv
 obtain⟨_,_,rfl,i2,h⟩:=h.inv
 obtain⟨_,_,rfl,i3,h⟩:=h.inv
 obtain⟨_,_,rfl,i4,h⟩:=h.inv
 obtain rfl:=h.nil_inv
 obtain⟨n0,rfl,j0⟩:=i0.i64
 obtain⟨n1,rfl,j1⟩:=i1.i64
 obtain⟨n2,rfl,j2⟩:=i2.i64
 obtain⟨n3,rfl,j3⟩:=i3.i64
 obtain⟨n4,rfl,j4⟩:=i4.i64
 exact⟨⟨n0,n1,n2,n3,n4⟩,rfl,⟨j0,j1,j2,j3,j4⟩⟩
theorem ZFI {ds:List Dat} (h:OkDs tE [.int .i64,.int .i64,.int .i64] ds):∃x:Cl,ds=Cl.e x∧Cl.bd x:=by
 obtain⟨_,_,rfl,i0,h⟩:=h.inv
 obtain⟨_,_,rfl,i1,h⟩:=h.inv
 obtain⟨_,_,rfl,i2,h⟩:=h.inv
 obtain rfl:=h.nil_inv
 obtain⟨n0,rfl,j0⟩:=i0.i64
 obtain⟨n1,rfl,j1⟩:=i1.i64
 obtain⟨n2,rfl,j2⟩:=i2.i64
 exact⟨⟨n0,n1,n2⟩,rfl,⟨j0,j1,j2⟩⟩
theorem ZIB {ds:List Dat} (h:OkDs tE [.int .i64,.sl 242,.sl 242,.sl 4,.int .i64] ds):∃x:Tk,ds=Tk.e x∧Tk.bd x:=by
 obtain⟨_,_,rfl,i0,h⟩:=h.inv
 obtain⟨_,_,rfl,i1,h⟩:=h.inv
 obtain⟨_,_,rfl,i2,h⟩:=h.inv
 obtain⟨_,_,rfl,i3,h⟩:=h.inv
 obtain⟨_,_,rfl,i4,h⟩:=h.inv
 obtain rfl:=h.nil_inv
 obtain⟨n0,rfl,j0⟩:=i0.i64
 obtain⟨n1,rfl,j1⟩:=ZBM (te:=⟨[.int .i64,.int .i64,.int .i64],24,true,[(0,3),(1,3),(2,3)]⟩) rfl (by decide) ZCQ i1
 obtain⟨n2,rfl,j2⟩:=ZBM (te:=⟨[.int .i64,.int .i64,.int .i64],24,true,[(0,3),(1,3),(2,3)]⟩) rfl (by decide) ZCQ i2
 obtain⟨n3,rfl,j3⟩:=ZBM (te:=⟨[.bool],1,false,[]⟩) rfl (by decide) ZI9 i3
 obtain⟨n4,rfl,j4⟩:=i4.i64
 exact⟨⟨n0,n1,n2,n3,n4⟩,rfl,⟨j0,j1,j2,j3,j4⟩⟩
theorem ZFJ {ds:List Dat} (h:OkDs tE [.sl 242,.int .i64] ds):∃x:Gt,ds=Gt.e x∧Gt.bd x:=by
 obtain⟨_,_,rfl,i0,h⟩:=h.inv
 obtain⟨_,_,rfl,i1,h⟩:=h.inv
 obtain rfl:=h.nil_inv
 obtain⟨n0,rfl,j0⟩:=ZBM (te:=⟨[.int .i64,.int .i64,.int .i64],24,true,[(0,3),(1,3),(2,3)]⟩) rfl (by decide) ZCQ i0
 obtain⟨n1,rfl,j1⟩:=i1.i64
 exact⟨⟨n0,n1⟩,rfl,⟨j0,j1⟩⟩
theorem ZIk {ds:List Dat} (h:OkDs tE [.sl 242] ds):∃x:List Rw,ds=rsE x∧rsB x:=by
 obtain⟨_,_,rfl,i0,h⟩:=h.inv
 obtain rfl:=h.nil_inv
 obtain⟨n0,rfl,j0⟩:=ZBM (te:=⟨[.int .i64,.int .i64,.int .i64],24,true,[(0,3),(1,3),(2,3)]⟩) rfl (by decide) ZCQ i0
 exact⟨n0,rfl,j0⟩
theorem ZIC {ds:List Dat} (h:OkDs tE [.int .i64,.int .i64,.sl 242,.int .i64,.sl 242,.sl 242,.sl 242,.sl 345,.int .i64,.int .i64,.int .i64,.int .i64,.sl 348,.int .i64,.int .i64,.sl 351,.int .i64,.bool,.sl 242,.sl 396,.sl 398,.bool] ds):∃x:Sl,ds=Sl.e x∧Sl.bd x:=by
 obtain⟨_,_,rfl,i0,h⟩:=h.inv
 obtain⟨_,_,rfl,i1,h⟩:=h.inv
 obtain⟨_,_,rfl,i2,h⟩:=h.inv
 obtain⟨_,_,rfl,i3,h⟩:=h.inv
 obtain⟨_,_,rfl,i4,h⟩:=h.inv
 obtain⟨_,_,rfl,i5,h⟩:=h.inv
 obtain⟨_,_,rfl,i6,h⟩:=h.inv
 obtain⟨_,_,rfl,i7,h⟩:=h.inv
 obtain⟨_,_,rfl,i8,h⟩:=h.inv
 obtain⟨_,_,rfl,i9,h⟩:=h.inv
 obtain⟨_,_,rfl,i10,h⟩:=h.inv
 obtain⟨_,_,rfl,i11,h⟩:=h.inv
 obtain⟨_,_,rfl,i12,h⟩:=h.inv
 obtain⟨_,_,rfl,i13,h⟩:=h.inv
 obtain⟨_,_,rfl,i14,h⟩:=h.inv
 obtain⟨_,_,rfl,i15,h⟩:=h.inv
 obtain⟨_,_,rfl,i16,h⟩:=h.inv
 obtain⟨_,_,rfl,i17,h⟩:=h.inv
 obtain⟨_,_,rfl,i18,h⟩:=h.inv
 obtain⟨_,_,rfl,i19,h⟩:=h.inv
 obtain⟨_,_,rfl,i20,h⟩:=h.inv
 obtain⟨_,_,rfl,i21,h⟩:=h.inv
 obtain rfl:=h.nil_inv
 obtain⟨n0,rfl,j0⟩:=i0.i64
 obtain⟨n1,rfl,j1⟩:=i1.i64
 obtain⟨n2,rfl,j2⟩:=ZBM (te:=⟨[.int .i64,.int .i64,.int .i64],24,true,[(0,3),(1,3),(2,3)]⟩) rfl (by decide) ZCQ i2
 obtain⟨n3,rfl,j3⟩:=i3.i64
 obtain⟨n4,rfl,j4⟩:=ZBM (te:=⟨[.int .i64,.int .i64,.int .i64],24,true,[(0,3),(1,3),(2,3)]⟩) rfl (by decide) ZCQ i4
 obtain⟨n5,rfl,j5⟩:=ZBM (te:=⟨[.int .i64,.int .i64,.int .i64],24,true,[(0,3),(1,3),(2,3)]⟩) rfl (by decide) ZCQ i5
 obtain⟨n6,rfl,j6⟩:=ZBM (te:=⟨[.int .i64,.int .i64,.int .i64],24,true,[(0,3),(1,3),(2,3)]⟩) rfl (by decide) ZCQ i6
 obtain⟨n7,rfl,j7⟩:=ZBM (te:=⟨[.sl 242],24,true,[(0,28)]⟩) rfl (by decide) ZIk i7
 obtain⟨n8,rfl,j8⟩:=i8.i64
 obtain⟨n9,rfl,j9⟩:=i9.i64
 obtain⟨n10,rfl,j10⟩:=i10.i64
 obtain⟨n11,rfl,j11⟩:=i11.i64
 obtain⟨n12,rfl,j12⟩:=ZBM (te:=⟨[.int .i64,.sl 242,.sl 242,.sl 4,.int .i64],88,true,[(0,3),(1,28),(2,28),(3,200),(4,3)]⟩) rfl (by decide) ZIB i12
 obtain⟨n13,rfl,j13⟩:=i13.i64
 obtain⟨n14,rfl,j14⟩:=i14.i64
 obtain⟨n15,rfl,j15⟩:=ZBM (te:=⟨[.sl 242,.int .i64],32,true,[(0,28),(1,3)]⟩) rfl (by decide) ZFJ i15
 obtain⟨n16,rfl,j16⟩:=i16.i64
 obtain⟨n17,rfl⟩:=i17.bool'
 obtain⟨n18,rfl,j18⟩:=ZBM (te:=⟨[.int .i64,.int .i64,.int .i64],24,true,[(0,3),(1,3),(2,3)]⟩) rfl (by decide) ZCQ i18
 obtain⟨n19,rfl,j19⟩:=ZBM (te:=⟨[.int .i64,.int .i64,.int .i64,.int .i64,.int .i64,.int .i64,.bool],56,true,[(0,242),(3,242),(6,4)]⟩) rfl (by decide) ZIA i19
 obtain⟨n20,rfl,j20⟩:=ZBM (te:=⟨[.int .i64,.int .i64,.int .i64,.int .i64,.int .i64],40,true,[(0,3),(1,3),(2,3),(3,3),(4,3)]⟩) rfl (by decide) ZHV i20
 obtain⟨n21,rfl⟩:=i21.bool'
 exact⟨⟨n0,⟨n1,⟨n2,n3,n4,n5,n6,n7,n8,n9,n10,n11⟩,⟨n12,n13,n14⟩,⟨n15,n16,n17⟩⟩,⟨n18,n19,n20⟩,n21⟩,rfl,⟨j0,⟨j1,⟨j2,j3,j4,j5,j6,j7,j8,j9,j10,j11⟩,⟨j12,j13,j14⟩,⟨j15,j16,trivial⟩⟩,⟨j18,j19,j20⟩,trivial⟩⟩
theorem ZGg {ds:List Dat} (h:OkDs tE [.int .i64,.int .i64,.sl 355,.sl 355,.sl 253,.int .i64] ds):∃x:Sy,ds=Sy.e x∧Sy.bd x:=by
 obtain⟨_,_,rfl,i0,h⟩:=h.inv
 obtain⟨_,_,rfl,i1,h⟩:=h.inv
 obtain⟨_,_,rfl,i2,h⟩:=h.inv
 obtain⟨_,_,rfl,i3,h⟩:=h.inv
 obtain⟨_,_,rfl,i4,h⟩:=h.inv
 obtain⟨_,_,rfl,i5,h⟩:=h.inv
 obtain rfl:=h.nil_inv
 obtain⟨n0,rfl,j0⟩:=i0.i64
 obtain⟨n1,rfl,j1⟩:=i1.i64
 obtain⟨n2,rfl,j2⟩:=ZBM (te:=⟨[.int .i64,.int .i64,.int .i64],24,true,[(0,3),(1,3),(2,3)]⟩) rfl (by decide) ZFI i2
 obtain⟨n3,rfl,j3⟩:=ZBM (te:=⟨[.int .i64,.int .i64,.int .i64],24,true,[(0,3),(1,3),(2,3)]⟩) rfl (by decide) ZFI i3
 obtain⟨n4,rfl,j4⟩:=ZBM (te:=⟨[.int .i64,.int .i64,.sl 242,.int .i64,.sl 242,.sl 242,.sl 242,.sl 345,.int .i64,.int .i64,.int .i64,.int .i64,.sl 348,.int .i64,.int .i64,.sl 351,.int .i64,.bool,.sl 242,.sl 396,.sl 398,.bool],336,true,[(0,3),(1,39),(18,251),(21,4)]⟩) rfl (by decide) ZIC i4
 obtain⟨n5,rfl,j5⟩:=i5.i64
 exact⟨⟨⟨n0,n1,n2,n3⟩,n4,n5⟩,rfl,⟨⟨j0,j1,j2,j3⟩,j4,j5⟩⟩
theorem ZGh (x:Rw):callI tE Z9a [.int x.k,.int x.v,.int x.w]=some [.int x.k,.int x.v,.int x.w]:=by
 simp only[ZEx,gA]
theorem ZBH (l:List Rw) (h:l.length≤1048576):callI tE Z63 [.sl (l.map Rw.e)]=some [.sl (l.map Rw.e)]:=by
 have hl:l.length≤1048576:=h
 rw[ZET]
 have:=ZAs (L:=Z93) (e:=Rw.e) (z:=[.int 0,.int 0,.int 0]) (P:=fun a=>(fun _=>0) a≤1048576) (fun p q p' q' a _ hpl hlt=>by
  rw[ZAe]
  simp only[Z6F,Z6D,Z7D,Z6A,cond_true,cond_false,gA,Z6w hpl,ZA4 hpl,Rw.e,ZGh a,setRange,List.set_cons_zero,List.set_cons_succ]) (fun p p' hpl=>by
  rw[ZAe,Z6G,cond_false]) l [] [] rfl (fun a ha=>Nat.zero_le _) (by simp;omega)
 simp only[List.nil_append,List.length_nil,Int.ofNat_zero,Int.natCast_zero]at this
 rw[ZBD,Z80,ZC6 (by show(l.map Rw.e).length*_≤_;rw[List.length_map];omega)]
 simp only[Bool.and_self,cond_true]
 rw[show tn (lenI (l.map Rw.e))=l.length by show(l.map Rw.e).length=_;simp]
 exact this
theorem ZBI (l:List Rw) (n:Int) (h0:0≤n) (h1:n≤1048576) (h:BdL Rw.bd l):callI tE Z69 [.sl (l.map Rw.e),.int n]=some [.int (szv n l.length)]:=by
 rw[ZER]
 exact ZDE h0 h1 (by simp) h.1
theorem ZGi (x y:Rw):callI tE Z9c [.int x.k,.int x.v,.int x.w,.int y.k,.int y.v,.int y.w]=some [.bool (decide (x=y))]:=by
 have e:decide (x=y)=(decide (x.k=y.k)&&(decide (x.v=y.v)&&(decide (x.w=y.w)))):=by
  cases x;cases y
  simp only[Rw.mk.injEq,Bool.decide_and]
 simp only[gA,eqI,eqBo,e,Z8b,Bool.and_true,ZF1]
theorem ZBJ (l l':List Rw) (h:l.length≤1152921504606846976):callI tE Z64 [.sl (l.map Rw.e),.sl (l'.map Rw.e)]=some [.bool (decide (l=l'))]:=by
 have hl:l.length≤1152921504606846976:=h
 rw[ZEV]
 by_cases hll:l.length=l'.length
 ·rw[ZAw hll,Bool.not_true,cond_false]
  have:=Z9F (L:=Z94) (e:=Rw.e) (P:=fun a=>(fun _=>0) a≤1152921504606846976) (fun p q p' q' a b _ hpl hlt=>by
   rw[ZAf]
   simp only[Z6F,Z6D,Z7D,Z6A,cond_true,cond_false,gA,Z6w hpl,Z9p hpl,Rw.e,ZGi a b,ZF2]) (fun p p' hpl=>by
   rw[ZAf,Z6G,cond_false]) l l' [] [] rfl hll (fun a ha=>Nat.zero_le _) (by simp;omega)
  simpa using this
 ·rw[ZAx hll,Bool.not_false,cond_true,decide_eq_false (fun e=>hll (by rw[e]))]
theorem Z8J (l:List Rw) (k:Int) (h0:0≤k) (h1:k+Z5L Rw.ct l<4611686018427387904) (h2:l.length≤1152921504606846976):callI tE Z5i [.sl (l.map Rw.e),.int k]=some [.int (k+Z5L Rw.ct l),.sl ((mkL Rw.mkm Rw.ct l k).map Rw.e)]:=by
 have hl:l.length≤1152921504606846976:=h2
 rw[ZD8]
 have:=Z88 (L:=Z7y) (e:=Rw.e) (f:=Rw.mkm) (c:=Rw.ct) (g:=(fun _=>0)) (fun p q a k h0 hc hg hlt=>by
  rw[show k+((Rw.ct a:Nat):Int)=k+1+1+1 by simp only[Rw.ct];omega]
  rw[Z9u]
  simp only[Z6F,Z6D,Z7D,Z6A,cond_true,cond_false,gA,ZAP,Rw.e,Rw.mkm,Z5O (n:=k+1) (by simp only[Rw.ct]at hc;omega),Z5O (n:=k+1+1) (by simp only[Rw.ct]at hc;omega),Z5O (n:=k+1+1+1) (by simp only[Rw.ct]at hc;omega),setRange,List.set_cons_zero,List.set_cons_succ]) (fun p k=>by
  rw[Z9u,Z6G,cond_false]) l [] k h0 h1 (by rw[ZA3];exact h2) (by simp;omega)
 simpa using this
theorem ZGj (l:List Rw) (k:Int) (h0:0≤k) (h1:k+Z5L Rw.ct l<4611686018427387904) (h2:l.length≤1152921504606846976):callI tE Z8z [.sl ((mkL Rw.mkm Rw.ct l k).map Rw.e),.int k]=some [.int (k+Z5L Rw.ct l)]:=by
 have hl:l.length≤1152921504606846976:=h2
 rw[ZD9]
 have:=ZCB (L:=Z7z) (e:=Rw.e) (f:=Rw.mkm) (c:=Rw.ct) (g:=(fun _=>0)) (fun p q a k h0 hc hg hlt=>by
  rw[show k+((Rw.ct a:Nat):Int)=k+1+1+1 by simp only[Rw.ct];omega]
  rw[Z9v]
  simp only[Z6F,Z6D,Z7D,Z6A,cond_true,cond_false,gA,Rw.e,Rw.mkm,Z5O (n:=k+1) (by simp only[Rw.ct]at hc;omega),Z5O (n:=k+1+1) (by simp only[Rw.ct]at hc;omega),Z5O (n:=k+1+1+1) (by simp only[Rw.ct]at hc;omega),Z80,ZC9,Bool.not_true,ZGA h0]) (fun p k=>by
  rw[Z9v,Z6G,cond_false]) l [] k h0 h1 (by rw[ZA3];exact h2) (by simp;omega)
 simpa using this
theorem ZHW (l:List Bool) (h:l.length≤1048576):callI tE Z9L [.sl (l.map boE)]=some [.sl (l.map boE)]:=by
 have hl:l.length≤1048576:=h
 rw[ZDw]
 have:=ZAs (L:=Z8P) (e:=boE) (z:=[.bool false]) (P:=fun a=>(fun _=>0) a≤1048576) (fun p q p' q' a _ hpl hlt=>by
  rw[ZAN]
  simp only[Z6F,Z6D,Z7D,Z6A,cond_true,cond_false,gA,Z6w hpl,ZA4 hpl,boE,setRange,List.set_cons_zero,List.set_cons_succ]) (fun p p' hpl=>by
  rw[ZAN,Z6G,cond_false]) l [] [] rfl (fun a ha=>Nat.zero_le _) (by simp;omega)
 simp only[List.nil_append,List.length_nil,Int.ofNat_zero,Int.natCast_zero]at this
 rw[ZBD,Z80,ZC6 (by show(l.map boE).length*_≤_;rw[List.length_map];omega)]
 simp only[Bool.and_self,cond_true]
 rw[show tn (lenI (l.map boE))=l.length by show(l.map boE).length=_;simp]
 exact this
theorem ZHX (l:List Bool) (n:Int) (h0:0≤n) (h1:n≤1048576) (h:BdL BdT l):callI tE ZAm [.sl (l.map boE),.int n]=some [.int (szv n l.length)]:=by
 rw[ZDu]
 exact ZDE h0 h1 (by simp) h.1
theorem ZHY (l l':List Bool) (h:l.length≤1152921504606846976):callI tE Z9S [.sl (l.map boE),.sl (l'.map boE)]=some [.bool (decide (l=l'))]:=by
 have hl:l.length≤1152921504606846976:=h
 rw[ZDy]
 by_cases hll:l.length=l'.length
 ·rw[ZAw hll,Bool.not_true,cond_false]
  have:=Z9F (L:=Z8Q) (e:=boE) (P:=fun a=>(fun _=>0) a≤1152921504606846976) (fun p q p' q' a b _ hpl hlt=>by
   rw[ZAO]
   simp only[Z6F,Z6D,Z7D,Z6A,cond_true,cond_false,gA,Z6w hpl,Z9p hpl,boE,eqBo,ZF2]) (fun p p' hpl=>by
   rw[ZAO,Z6G,cond_false]) l l' [] [] rfl hll (fun a ha=>Nat.zero_le _) (by simp;omega)
  simpa using this
 ·rw[ZAx hll,Bool.not_false,cond_true,decide_eq_false (fun e=>hll (by rw[e]))]
theorem ZG5 (l:List Bool) (k:Int) (h0:0≤k) (h1:k+Z5L c1 l<4611686018427387904) (h2:l.length≤1152921504606846976):callI tE Z8L [.sl (l.map boE),.int k]=some [.int (k+Z5L c1 l),.sl ((mkL mkB c1 l k).map boE)]:=by
 have hl:l.length≤1152921504606846976:=h2
 rw[ZCo]
 have:=Z88 (L:=Z7c) (e:=boE) (f:=mkB) (c:=c1) (g:=(fun _=>0)) (fun p q a k h0 hc hg hlt=>by
  rw[show k+((c1 a:Nat):Int)=k+1 by simp only[c1];omega]
  rw[Z9g]
  simp only[Z6F,Z6D,Z7D,Z6A,cond_true,cond_false,gA,ZAP,boE,mkB,Z5O (n:=k+1) (by simp only[c1]at hc;omega),setRange,List.set_cons_zero,List.set_cons_succ]) (fun p k=>by
  rw[Z9g,Z6G,cond_false]) l [] k h0 h1 (by rw[ZA3];exact h2) (by simp;omega)
 simpa using this
theorem ZIl (x:List Rw) (h:x.length≤1048576):callI tE ZBP [.sl (x.map Rw.e)]=some [.sl (x.map Rw.e)]:=by
 simp only[ZF8,ZBH x (by exact h),gA]
theorem ZID (l:List (List Rw)) (h:szL List.length l≤1048576):callI tE ZA1 [.sl (l.map rsE)]=some [.sl (l.map rsE)]:=by
 have hl:l.length≤1048576:=(Nat.le_trans (Z6U _ _) h)
 rw[ZEZ]
 have:=ZAs (L:=Z96) (e:=rsE) (z:=[.sl []]) (P:=fun a=>List.length a≤1048576) (fun p q p' q' a hP hpl hlt=>by
  rw[ZAi]
  simp only[Z6F,Z6D,Z7D,Z6A,cond_true,cond_false,gA,Z6w hpl,ZA4 hpl,rsE,ZIl a hP,setRange,List.set_cons_zero,List.set_cons_succ]) (fun p p' hpl=>by
  rw[ZAi,Z6G,cond_false]) l [] [] rfl (fun a ha=>Nat.le_trans (Z9E ha) h) (by simp;omega)
 simp only[List.nil_append,List.length_nil,Int.ofNat_zero,Int.natCast_zero]at this
 rw[ZBD,Z80,ZC6 (by show(l.map rsE).length*_≤_;rw[List.length_map];omega)]
 simp only[Bool.and_self,cond_true]
 rw[show tn (lenI (l.map rsE))=l.length by show(l.map rsE).length=_;simp]
 exact this
theorem ZIm (x:List Rw) (n:Int) (h0:0≤n) (h1:n≤1048576) (h:rsB x):callI tE ZBO [.sl (x.map Rw.e),.int n]=some [.int (szv n (x.length))]:=by
 rw[ZF7]
 have b0:BdL Rw.bd x:=h
 rw[ZBI x n (by omega) (by omega) b0]
 simp only[gA]
 exact ZAQ (by omega)
theorem ZIE (l:List (List Rw)) (n:Int) (h0:0≤n) (h1:n≤1048576) (h:BdL rsB l):callI tE ZA0 [.sl (l.map rsE),.int n]=some [.int (szv n (szL List.length l))]:=by
 have hl:l.length≤1152921504606846976:=h.1
 rw[ZEX,ZDD]
 refine ZFi (X:=fun m=>Z7o (l.map rsE) m 0) h0 h1 (List.length_map _) hl fun h2=>?_
 have:=ZDC (L:=Z7o) (e:=rsE) (g:=List.length) (P:=rsB) (fun p q a n hP h0 h1 hlt=>by
  rw[ZAh]
  simp only[Z6F,Z6D,Z7D,Z6A,cond_true,cond_false,gA,rsE,ZIm a n h0 h1 hP]) (fun p n=>by
  rw[ZAh,Z6G,cond_false]) l [] (n-l.length) (fun a ha=>h.2 a ha) (by omega) (by omega) (by simp;omega)
 simpa using this
theorem ZIn (x y:List Rw) (h:x.length≤1152921504606846976):callI tE ZBR [.sl (x.map Rw.e),.sl (y.map Rw.e)]=some [.bool (decide (x=y))]:=by
 simp only[ZFA,ZBJ x y h,gA,Z8b,Bool.and_true]
theorem ZIF (l l':List (List Rw)) (h:szL List.length l≤1152921504606846976):callI tE ZA2 [.sl (l.map rsE),.sl (l'.map rsE)]=some [.bool (decide (l=l'))]:=by
 have hl:l.length≤1152921504606846976:=(Nat.le_trans (Z6U _ _) h)
 rw[ZEa]
 by_cases hll:l.length=l'.length
 ·rw[ZAw hll,Bool.not_true,cond_false]
  have:=Z9F (L:=Z98) (e:=rsE) (P:=fun a=>List.length a≤1152921504606846976) (fun p q p' q' a b hP hpl hlt=>by
   rw[ZAj]
   simp only[Z6F,Z6D,Z7D,Z6A,cond_true,cond_false,gA,Z6w hpl,Z9p hpl,rsE,ZIn a b hP,ZF2]) (fun p p' hpl=>by
   rw[ZAj,Z6G,cond_false]) l l' [] [] rfl hll (fun a ha=>Nat.le_trans (Z9E ha) h) (by simp;omega)
  simpa using this
 ·rw[ZAx hll,Bool.not_false,cond_true,decide_eq_false (fun e=>hll (by rw[e]))]
theorem ZGk (l:List (List Rw)) (k:Int) (h0:0≤k) (h1:k+Z5L (Z5L Rw.ct) l<4611686018427387904) (h2:szL List.length l≤1152921504606846976):callI tE Z8y [.sl (l.map rsE),.int k]=some [.int (k+Z5L (Z5L Rw.ct) l),.sl ((mkL (mkL Rw.mkm Rw.ct) (Z5L Rw.ct) l k).map rsE)]:=by
 have hl:l.length≤1152921504606846976:=(Nat.le_trans (Z6U _ _) h2)
 rw[ZDO]
 have:=Z88 (L:=Z81) (e:=rsE) (f:=(mkL Rw.mkm Rw.ct)) (c:=(Z5L Rw.ct)) (g:=List.length) (fun p q a k h0 hc hg hlt=>by
  rw[Z9x]
  simp only[Z6F,Z6D,Z7D,Z6A,cond_true,cond_false,gA,ZAP,rsE,Z8J a k h0 hc hg,setRange,List.set_cons_zero,List.set_cons_succ]) (fun p k=>by
  rw[Z9x,Z6G,cond_false]) l [] k h0 h1 (by exact h2) (by simp;omega)
 simpa using this
theorem ZGl (x:So) (h:x.sz≤1048576):callI tE ZAD [.sl (x.inp.map Rw.e),.int x.pos,.sl (x.heap.map Rw.e),.sl (x.dfd.map Rw.e),.sl (x.out.map Rw.e),.sl (x.runs.map rsE),.int x.lp,.int x.rp,.int x.ph,.int x.wr]=some [.sl (x.inp.map Rw.e),.int x.pos,.sl (x.heap.map Rw.e),.sl (x.dfd.map Rw.e),.sl (x.out.map Rw.e),.sl (x.runs.map rsE),.int x.lp,.int x.rp,.int x.ph,.int x.wr]:=by
 simp only[ZDL,ZBH x.inp (by simp only[So.sz]at h;omega),ZBH x.heap (by simp only[So.sz]at h;omega),ZBH x.dfd (by simp only[So.sz]at h;omega),ZBH x.out (by simp only[So.sz]at h;omega),ZID x.runs (by simp only[So.sz]at h;omega),gA]
theorem ZGm (x:So) (n:Int) (h0:0≤n) (h1:n≤1048576) (h:x.bd):callI tE ZA6 [.sl (x.inp.map Rw.e),.int x.pos,.sl (x.heap.map Rw.e),.sl (x.dfd.map Rw.e),.sl (x.out.map Rw.e),.sl (x.runs.map rsE),.int x.lp,.int x.rp,.int x.ph,.int x.wr,.int n]=some [.int (szv n (x.sz))]:=by
 rw[ZDK]
 simp only[So.sz]
 obtain⟨b0,_,b2,b3,b4,b5,_,_,_,_⟩:=h
 rw[ZBI x.inp n (by omega) (by omega) b0]
 simp only[gA]
 refine Z75 (by omega) fun h0 g0=>?_
 rw[g0]
 rw[ZBI x.heap (n-(x.inp.length:Nat)) (by omega) (by omega) b2]
 simp only[gA]
 refine Z75 (by omega) fun h1 g1=>?_
 rw[g1]
 rw[ZBI x.dfd (n-(x.inp.length:Nat)-(x.heap.length:Nat)) (by omega) (by omega) b3]
 simp only[gA]
 refine Z75 (by omega) fun h2 g2=>?_
 rw[g2]
 rw[ZBI x.out (n-(x.inp.length:Nat)-(x.heap.length:Nat)-(x.dfd.length:Nat)) (by omega) (by omega) b4]
 simp only[gA]
 refine Z75 (by omega) fun h3 g3=>?_
 rw[g3]
 rw[ZIE x.runs (n-(x.inp.length:Nat)-(x.heap.length:Nat)-(x.dfd.length:Nat)-(x.out.length:Nat)) (by omega) (by omega) b5]
 simp only[gA]
 exact ZAQ (by omega)
theorem ZGn (x y:So) (h:x.sz≤1152921504606846976):callI tE ZAI [.sl (x.inp.map Rw.e),.int x.pos,.sl (x.heap.map Rw.e),.sl (x.dfd.map Rw.e),.sl (x.out.map Rw.e),.sl (x.runs.map rsE),.int x.lp,.int x.rp,.int x.ph,.int x.wr,.sl (y.inp.map Rw.e),.int y.pos,.sl (y.heap.map Rw.e),.sl (y.dfd.map Rw.e),.sl (y.out.map Rw.e),.sl (y.runs.map rsE),.int y.lp,.int y.rp,.int y.ph,.int y.wr]=some [.bool (decide (x=y))]:=by
 have e:decide (x=y)=(decide (x.inp=y.inp)&&(decide (x.pos=y.pos)&&(decide (x.heap=y.heap)&&(decide (x.dfd=y.dfd)&&(decide (x.out=y.out)&&(decide (x.runs=y.runs)&&(decide (x.lp=y.lp)&&(decide (x.rp=y.rp)&&(decide (x.ph=y.ph)&&(decide (x.wr=y.wr))))))))))):=by
  cases x;cases y
  simp only[So.mk.injEq,Bool.decide_and]
 simp only[ZBJ x.inp y.inp (by simp only[So.sz]at h;omega),ZBJ x.heap y.heap (by simp only[So.sz]at h;omega),ZBJ x.dfd y.dfd (by simp only[So.sz]at h;omega),ZBJ x.out y.out (by simp only[So.sz]at h;omega),ZIF x.runs y.runs (by simp only[So.sz]at h;omega),gA,eqI,eqBo,e,Z8b,Bool.and_true,ZDN]
theorem ZIG (x:Pr):callI tE ZB7 [.int x.l.k,.int x.l.v,.int x.l.w,.int x.r.k,.int x.r.v,.int x.r.w,.bool x.m]=some [.int x.l.k,.int x.l.v,.int x.l.w,.int x.r.k,.int x.r.v,.int x.r.w,.bool x.m]:=by
 simp only[ZEh,ZGh x.l,ZGh x.r,gA]
theorem ZHZ (l:List Pr) (h:l.length≤1048576):callI tE Z9N [.sl (l.map Pr.e)]=some [.sl (l.map Pr.e)]:=by
 have hl:l.length≤1048576:=h
 rw[ZE7]
 have:=ZAs (L:=Z8S) (e:=Pr.e) (z:=[.int 0,.int 0,.int 0,.int 0,.int 0,.int 0,.bool false]) (P:=fun a=>(fun _=>0) a≤1048576) (fun p q p' q' a _ hpl hlt=>by
  rw[ZAU]
  simp only[Z6F,Z6D,Z7D,Z6A,cond_true,cond_false,gA,Z6w hpl,ZA4 hpl,Pr.e,ZIG a,setRange,List.set_cons_zero,List.set_cons_succ]) (fun p p' hpl=>by
  rw[ZAU,Z6G,cond_false]) l [] [] rfl (fun a ha=>Nat.zero_le _) (by simp;omega)
 simp only[List.nil_append,List.length_nil,Int.ofNat_zero,Int.natCast_zero]at this
 rw[ZBD,Z80,ZC6 (by show(l.map Pr.e).length*_≤_;rw[List.length_map];omega)]
 simp only[Bool.and_self,cond_true]
 rw[show tn (lenI (l.map Pr.e))=l.length by show(l.map Pr.e).length=_;simp]
 exact this
theorem ZHa (l:List Pr) (n:Int) (h0:0≤n) (h1:n≤1048576) (h:BdL Pr.bd l):callI tE ZAn [.sl (l.map Pr.e),.int n]=some [.int (szv n l.length)]:=by
 rw[ZE5]
 exact ZDE h0 h1 (by simp) h.1
theorem ZIH (x y:Pr):callI tE ZBB [.int x.l.k,.int x.l.v,.int x.l.w,.int x.r.k,.int x.r.v,.int x.r.w,.bool x.m,.int y.l.k,.int y.l.v,.int y.l.w,.int y.r.k,.int y.r.v,.int y.r.w,.bool y.m]=some [.bool (decide (x=y))]:=by
 have e:decide (x=y)=(decide (x.l=y.l)&&(decide (x.r=y.r)&&(decide (x.m=y.m)))):=by
  cases x;cases y
  simp only[Pr.mk.injEq,Bool.decide_and]
 simp only[ZGi x.l y.l,ZGi x.r y.r,gA,eqI,eqBo,e,Z8b,Bool.and_true,ZEj]
theorem ZHb (l l':List Pr) (h:l.length≤1152921504606846976):callI tE Z9U [.sl (l.map Pr.e),.sl (l'.map Pr.e)]=some [.bool (decide (l=l'))]:=by
 have hl:l.length≤1152921504606846976:=h
 rw[ZEA]
 by_cases hll:l.length=l'.length
 ·rw[ZAw hll,Bool.not_true,cond_false]
  have:=Z9F (L:=Z8U) (e:=Pr.e) (P:=fun a=>(fun _=>0) a≤1152921504606846976) (fun p q p' q' a b _ hpl hlt=>by
   rw[ZAW]
   simp only[Z6F,Z6D,Z7D,Z6A,cond_true,cond_false,gA,Z6w hpl,Z9p hpl,Pr.e,ZIH a b,ZF2]) (fun p p' hpl=>by
   rw[ZAW,Z6G,cond_false]) l l' [] [] rfl hll (fun a ha=>Nat.zero_le _) (by simp;omega)
  simpa using this
 ·rw[ZAx hll,Bool.not_false,cond_true,decide_eq_false (fun e=>hll (by rw[e]))]
theorem ZEN (l:List Pr) (k:Int) (h0:0≤k) (h1:k+Z5L Pr.ct l<4611686018427387904) (h2:l.length≤1152921504606846976):callI tE Z7S [.sl (l.map Pr.e),.int k]=some [.int (k+Z5L Pr.ct l),.sl ((mkL Pr.mkm Pr.ct l k).map Pr.e)]:=by
 have hl:l.length≤1152921504606846976:=h2
 rw[ZCp]
 have:=Z88 (L:=Z7e) (e:=Pr.e) (f:=Pr.mkm) (c:=Pr.ct) (g:=(fun _=>0)) (fun p q a k h0 hc hg hlt=>by
  rw[show k+((Pr.ct a:Nat):Int)=k+1+1+1+1+1+1+1 by simp only[Pr.ct];omega]
  rw[Z9i]
  simp only[Z6F,Z6D,Z7D,Z6A,cond_true,cond_false,gA,ZAP,Pr.e,Pr.mkm,Z5O (n:=k+1) (by simp only[Pr.ct]at hc;omega),Z5O (n:=k+1+1) (by simp only[Pr.ct]at hc;omega),Z5O (n:=k+1+1+1) (by simp only[Pr.ct]at hc;omega),Z5O (n:=k+1+1+1+1) (by simp only[Pr.ct]at hc;omega),Z5O (n:=k+1+1+1+1+1) (by simp only[Pr.ct]at hc;omega),Z5O (n:=k+1+1+1+1+1+1) (by simp only[Pr.ct]at hc;omega),Z5O (n:=k+1+1+1+1+1+1+1) (by simp only[Pr.ct]at hc;omega),setRange,List.set_cons_zero,List.set_cons_succ]) (fun p k=>by
  rw[Z9i,Z6G,cond_false]) l [] k h0 h1 (by rw[ZA3];exact h2) (by simp;omega)
 simpa using this
theorem ZG6 (l:List Pr) (k:Int) (h0:0≤k) (h1:k+Z5L Pr.ct l<4611686018427387904) (h2:l.length≤1152921504606846976):callI tE Z8O [.sl ((mkL Pr.mkm Pr.ct l k).map Pr.e),.int k]=some [.int (k+Z5L Pr.ct l)]:=by
 have hl:l.length≤1152921504606846976:=h2
 rw[ZCr]
 have:=ZCB (L:=Z7g) (e:=Pr.e) (f:=Pr.mkm) (c:=Pr.ct) (g:=(fun _=>0)) (fun p q a k h0 hc hg hlt=>by
  rw[show k+((Pr.ct a:Nat):Int)=k+1+1+1+1+1+1+1 by simp only[Pr.ct];omega]
  rw[Z9k]
  simp only[Z6F,Z6D,Z7D,Z6A,cond_true,cond_false,gA,Pr.e,Pr.mkm,Z5O (n:=k+1) (by simp only[Pr.ct]at hc;omega),Z5O (n:=k+1+1) (by simp only[Pr.ct]at hc;omega),Z5O (n:=k+1+1+1) (by simp only[Pr.ct]at hc;omega),Z5O (n:=k+1+1+1+1) (by simp only[Pr.ct]at hc;omega),Z5O (n:=k+1+1+1+1+1) (by simp only[Pr.ct]at hc;omega),Z5O (n:=k+1+1+1+1+1+1) (by simp only[Pr.ct]at hc;omega),Z5O (n:=k+1+1+1+1+1+1+1) (by simp only[Pr.ct]at hc;omega),Z80,ZC9,Bool.not_true,ZGA h0]) (fun p k=>by
  rw[Z9k,Z6G,cond_false]) l [] k h0 h1 (by rw[ZA3];exact h2) (by simp;omega)
 simpa using this
theorem ZHc (x:Gr):callI tE ZAp [.int x.key,.int x.cnt,.int x.sum,.int x.lo,.int x.hi]=some [.int x.key,.int x.cnt,.int x.sum,.int x.lo,.int x.hi]:=by
 simp only[ZE8,gA]
theorem ZGo (l:List Gr) (h:l.length≤1048576):callI tE Z8r [.sl (l.map Gr.e)]=some [.sl (l.map Gr.e)]:=by
 have hl:l.length≤1048576:=h
 rw[ZDW]
 have:=ZAs (L:=Z82) (e:=Gr.e) (z:=[.int 0,.int 0,.int 0,.int 0,.int 0]) (P:=fun a=>(fun _=>0) a≤1048576) (fun p q p' q' a _ hpl hlt=>by
  rw[Z9y]
  simp only[Z6F,Z6D,Z7D,Z6A,cond_true,cond_false,gA,Z6w hpl,ZA4 hpl,Gr.e,ZHc a,setRange,List.set_cons_zero,List.set_cons_succ]) (fun p p' hpl=>by
  rw[Z9y,Z6G,cond_false]) l [] [] rfl (fun a ha=>Nat.zero_le _) (by simp;omega)
 simp only[List.nil_append,List.length_nil,Int.ofNat_zero,Int.natCast_zero]at this
 rw[ZBD,Z80,ZC6 (by show(l.map Gr.e).length*_≤_;rw[List.length_map];omega)]
 simp only[Bool.and_self,cond_true]
 rw[show tn (lenI (l.map Gr.e))=l.length by show(l.map Gr.e).length=_;simp]
 exact this
theorem ZGp (l:List Gr) (n:Int) (h0:0≤n) (h1:n≤1048576) (h:BdL Gr.bd l):callI tE ZA8 [.sl (l.map Gr.e),.int n]=some [.int (szv n l.length)]:=by
 rw[ZDS]
 exact ZDE h0 h1 (by simp) h.1
theorem ZHd (x y:Gr):callI tE ZAq [.int x.key,.int x.cnt,.int x.sum,.int x.lo,.int x.hi,.int y.key,.int y.cnt,.int y.sum,.int y.lo,.int y.hi]=some [.bool (decide (x=y))]:=by
 have e:decide (x=y)=(decide (x.key=y.key)&&(decide (x.cnt=y.cnt)&&(decide (x.sum=y.sum)&&(decide (x.lo=y.lo)&&(decide (x.hi=y.hi)))))):=by
  cases x;cases y
  simp only[Gr.mk.injEq,Bool.decide_and]
 simp only[gA,eqI,eqBo,e,Z8b,Bool.and_true,ZEB]
theorem ZGq (l l':List Gr) (h:l.length≤1152921504606846976):callI tE Z8x [.sl (l.map Gr.e),.sl (l'.map Gr.e)]=some [.bool (decide (l=l'))]:=by
 have hl:l.length≤1152921504606846976:=h
 rw[ZDa]
 by_cases hll:l.length=l'.length
 ·rw[ZAw hll,Bool.not_true,cond_false]
  have:=Z9F (L:=Z83) (e:=Gr.e) (P:=fun a=>(fun _=>0) a≤1152921504606846976) (fun p q p' q' a b _ hpl hlt=>by
   rw[Z9z]
   simp only[Z6F,Z6D,Z7D,Z6A,cond_true,cond_false,gA,Z6w hpl,Z9p hpl,Gr.e,ZHd a b,ZF2]) (fun p p' hpl=>by
   rw[Z9z,Z6G,cond_false]) l l' [] [] rfl hll (fun a ha=>Nat.zero_le _) (by simp;omega)
  simpa using this
 ·rw[ZAx hll,Bool.not_false,cond_true,decide_eq_false (fun e=>hll (by rw[e]))]
theorem ZDr (l:List Gr) (k:Int) (h0:0≤k) (h1:k+Z5L Gr.ct l<4611686018427387904) (h2:l.length≤1152921504606846976):callI tE Z7B [.sl (l.map Gr.e),.int k]=some [.int (k+Z5L Gr.ct l),.sl ((mkL Gr.mkm Gr.ct l k).map Gr.e)]:=by
 have hl:l.length≤1152921504606846976:=h2
 rw[ZCY]
 have:=Z88 (L:=Z7M) (e:=Gr.e) (f:=Gr.mkm) (c:=Gr.ct) (g:=(fun _=>0)) (fun p q a k h0 hc hg hlt=>by
  rw[show k+((Gr.ct a:Nat):Int)=k+1+1+1+1+1 by simp only[Gr.ct];omega]
  rw[Z9A]
  simp only[Z6F,Z6D,Z7D,Z6A,cond_true,cond_false,gA,ZAP,Gr.e,Gr.mkm,Z5O (n:=k+1) (by simp only[Gr.ct]at hc;omega),Z5O (n:=k+1+1) (by simp only[Gr.ct]at hc;omega),Z5O (n:=k+1+1+1) (by simp only[Gr.ct]at hc;omega),Z5O (n:=k+1+1+1+1) (by simp only[Gr.ct]at hc;omega),Z5O (n:=k+1+1+1+1+1) (by simp only[Gr.ct]at hc;omega),setRange,List.set_cons_zero,List.set_cons_succ]) (fun p k=>by
  rw[Z9A,Z6G,cond_false]) l [] k h0 h1 (by rw[ZA3];exact h2) (by simp;omega)
 simpa using this
theorem ZFd (l:List Gr) (k:Int) (h0:0≤k) (h1:k+Z5L Gr.ct l<4611686018427387904) (h2:l.length≤1152921504606846976):callI tE Z7s [.sl ((mkL Gr.mkm Gr.ct l k).map Gr.e),.int k]=some [.int (k+Z5L Gr.ct l)]:=by
 have hl:l.length≤1152921504606846976:=h2
 rw[ZCZ]
 have:=ZCB (L:=Z7N) (e:=Gr.e) (f:=Gr.mkm) (c:=Gr.ct) (g:=(fun _=>0)) (fun p q a k h0 hc hg hlt=>by
  rw[show k+((Gr.ct a:Nat):Int)=k+1+1+1+1+1 by simp only[Gr.ct];omega]
  rw[Z9B]
  simp only[Z6F,Z6D,Z7D,Z6A,cond_true,cond_false,gA,Gr.e,Gr.mkm,Z5O (n:=k+1) (by simp only[Gr.ct]at hc;omega),Z5O (n:=k+1+1) (by simp only[Gr.ct]at hc;omega),Z5O (n:=k+1+1+1) (by simp only[Gr.ct]at hc;omega),Z5O (n:=k+1+1+1+1) (by simp only[Gr.ct]at hc;omega),Z5O (n:=k+1+1+1+1+1) (by simp only[Gr.ct]at hc;omega),Z80,ZC9,Bool.not_true,ZGA h0]) (fun p k=>by
  rw[Z9B,Z6G,cond_false]) l [] k h0 h1 (by rw[ZA3];exact h2) (by simp;omega)
 simpa using this
theorem ZII (x:Tk) (h:x.sz≤1048576):callI tE ZB6 [.int x.kind,.sl (x.left.map Rw.e),.sl (x.right.map Rw.e),.sl (x.mat.map boE),.int x.level]=some [.int x.kind,.sl (x.left.map Rw.e),.sl (x.right.map Rw.e),.sl (x.mat.map boE),.int x.level]:=by
 simp only[ZEg,ZBH x.left (by simp only[Tk.sz]at h;omega),ZBH x.right (by simp only[Tk.sz]at h;omega),ZHW x.mat (by simp only[Tk.sz]at h;omega),gA]
theorem ZHe (l:List Tk) (h:szL Tk.sz l≤1048576):callI tE Z9M [.sl (l.map Tk.e)]=some [.sl (l.map Tk.e)]:=by
 have hl:l.length≤1048576:=(Nat.le_trans (Z6U _ _) h)
 rw[ZE6]
 have:=ZAs (L:=Z8R) (e:=Tk.e) (z:=[.int 0,.sl [],.sl [],.sl [],.int 0]) (P:=fun a=>Tk.sz a≤1048576) (fun p q p' q' a hP hpl hlt=>by
  rw[ZAT]
  simp only[Z6F,Z6D,Z7D,Z6A,cond_true,cond_false,gA,Z6w hpl,ZA4 hpl,Tk.e,ZII a hP,setRange,List.set_cons_zero,List.set_cons_succ]) (fun p p' hpl=>by
  rw[ZAT,Z6G,cond_false]) l [] [] rfl (fun a ha=>Nat.le_trans (Z9E ha) h) (by simp;omega)
 simp only[List.nil_append,List.length_nil,Int.ofNat_zero,Int.natCast_zero]at this
 rw[ZBD,Z80,ZC6 (by show(l.map Tk.e).length*_≤_;rw[List.length_map];omega)]
 simp only[Bool.and_self,cond_true]
 rw[show tn (lenI (l.map Tk.e))=l.length by show(l.map Tk.e).length=_;simp]
 exact this
theorem ZIJ (x:Tk) (n:Int) (h0:0≤n) (h1:n≤1048576) (h:x.bd):callI tE ZB3 [.int x.kind,.sl (x.left.map Rw.e),.sl (x.right.map Rw.e),.sl (x.mat.map boE),.int x.level,.int n]=some [.int (szv n (x.sz))]:=by
 rw[ZEf]
 simp only[Tk.sz]
 obtain⟨_,b1,b2,b3,_⟩:=h
 rw[ZBI x.left n (by omega) (by omega) b1]
 simp only[gA]
 refine Z75 (by omega) fun h0 g0=>?_
 rw[g0]
 rw[ZBI x.right (n-(x.left.length:Nat)) (by omega) (by omega) b2]
 simp only[gA]
 refine Z75 (by omega) fun h1 g1=>?_
 rw[g1]
 rw[ZHX x.mat (n-(x.left.length:Nat)-(x.right.length:Nat)) (by omega) (by omega) b3]
 simp only[gA]
 exact ZAQ (by omega)
theorem ZHf (l:List Tk) (n:Int) (h0:0≤n) (h1:n≤1048576) (h:BdL Tk.bd l):callI tE Z9H [.sl (l.map Tk.e),.int n]=some [.int (szv n (szL Tk.sz l))]:=by
 have hl:l.length≤1152921504606846976:=h.1
 rw[ZE4,ZDD]
 refine ZFi (X:=fun m=>Z7T (l.map Tk.e) m 0) h0 h1 (List.length_map _) hl fun h2=>?_
 have:=ZDC (L:=Z7T) (e:=Tk.e) (g:=Tk.sz) (P:=Tk.bd) (fun p q a n hP h0 h1 hlt=>by
  rw[ZAS]
  simp only[Z6F,Z6D,Z7D,Z6A,cond_true,cond_false,gA,Tk.e,ZIJ a n h0 h1 hP]) (fun p n=>by
  rw[ZAS,Z6G,cond_false]) l [] (n-l.length) (fun a ha=>h.2 a ha) (by omega) (by omega) (by simp;omega)
 simpa using this
theorem ZIK (x y:Tk) (h:x.sz≤1152921504606846976):callI tE ZBA [.int x.kind,.sl (x.left.map Rw.e),.sl (x.right.map Rw.e),.sl (x.mat.map boE),.int x.level,.int y.kind,.sl (y.left.map Rw.e),.sl (y.right.map Rw.e),.sl (y.mat.map boE),.int y.level]=some [.bool (decide (x=y))]:=by
 have e:decide (x=y)=(decide (x.kind=y.kind)&&(decide (x.left=y.left)&&(decide (x.right=y.right)&&(decide (x.mat=y.mat)&&(decide (x.level=y.level)))))):=by
  cases x;cases y
  simp only[Tk.mk.injEq,Bool.decide_and]
 simp only[ZBJ x.left y.left (by simp only[Tk.sz]at h;omega),ZBJ x.right y.right (by simp only[Tk.sz]at h;omega),ZHY x.mat y.mat (by simp only[Tk.sz]at h;omega),gA,eqI,eqBo,e,Z8b,Bool.and_true,ZEi]
theorem ZHg (l l':List Tk) (h:szL Tk.sz l≤1152921504606846976):callI tE Z9T [.sl (l.map Tk.e),.sl (l'.map Tk.e)]=some [.bool (decide (l=l'))]:=by
 have hl:l.length≤1152921504606846976:=(Nat.le_trans (Z6U _ _) h)
 rw[ZE9]
 by_cases hll:l.length=l'.length
 ·rw[ZAw hll,Bool.not_true,cond_false]
  have:=Z9F (L:=Z8T) (e:=Tk.e) (P:=fun a=>Tk.sz a≤1152921504606846976) (fun p q p' q' a b hP hpl hlt=>by
   rw[ZAV]
   simp only[Z6F,Z6D,Z7D,Z6A,cond_true,cond_false,gA,Z6w hpl,Z9p hpl,Tk.e,ZIK a b hP,ZF2]) (fun p p' hpl=>by
   rw[ZAV,Z6G,cond_false]) l l' [] [] rfl hll (fun a ha=>Nat.le_trans (Z9E ha) h) (by simp;omega)
  simpa using this
 ·rw[ZAx hll,Bool.not_false,cond_true,decide_eq_false (fun e=>hll (by rw[e]))]
theorem ZG7 (l:List Tk) (k:Int) (h0:0≤k) (h1:k+Z5L Tk.ct l<4611686018427387904) (h2:szL Tk.sz l≤1152921504606846976):callI tE Z8M [.sl (l.map Tk.e),.int k]=some [.int (k+Z5L Tk.ct l),.sl ((mkL Tk.mkm Tk.ct l k).map Tk.e)]:=by
 have hl:l.length≤1152921504606846976:=(Nat.le_trans (Z6U _ _) h2)
 rw[ZCq]
 have:=Z88 (L:=Z7f) (e:=Tk.e) (f:=Tk.mkm) (c:=Tk.ct) (g:=Tk.sz) (fun p q a k h0 hc hg hlt=>by
  rw[show k+((Tk.ct a:Nat):Int)=k+1+(Z5L Rw.ct a.left:Nat)+(Z5L Rw.ct a.right:Nat)+(Z5L c1 a.mat:Nat)+1 by simp only[Tk.ct];omega]
  rw[Z9j]
  simp only[Z6F,Z6D,Z7D,Z6A,cond_true,cond_false,gA,ZAP,Tk.e,Tk.mkm,Z8J a.left (k+1) (by omega) (by simp only[Tk.ct]at hc;omega) (by simp only[Tk.sz]at hg;omega),Z8J a.right (k+1+(Z5L Rw.ct a.left:Nat)) (by omega) (by simp only[Tk.ct]at hc;omega) (by simp only[Tk.sz]at hg;omega),ZG5 a.mat (k+1+(Z5L Rw.ct a.left:Nat)+(Z5L Rw.ct a.right:Nat)) (by omega) (by simp only[Tk.ct]at hc;omega) (by simp only[Tk.sz]at hg;omega),Z5O (n:=k+1) (by simp only[Tk.ct]at hc;omega),Z5O (n:=k+1+(Z5L Rw.ct a.left:Nat)+(Z5L Rw.ct a.right:Nat)+(Z5L c1 a.mat:Nat)+1) (by simp only[Tk.ct]at hc;omega),setRange,List.set_cons_zero,List.set_cons_succ]) (fun p k=>by
  rw[Z9j,Z6G,cond_false]) l [] k h0 h1 (by exact h2) (by simp;omega)
 simpa using this
theorem ZFK (x:Gt) (h:x.sz≤1048576):callI tE Z8q [.sl (x.rows.map Rw.e),.int x.level]=some [.sl (x.rows.map Rw.e),.int x.level]:=by
 simp only[ZCL,ZBH x.rows (by simp only[Gt.sz]at h;omega),gA]
theorem ZEp (l:List Gt) (h:szL Gt.sz l≤1048576):callI tE Z7I [.sl (l.map Gt.e)]=some [.sl (l.map Gt.e)]:=by
 have hl:l.length≤1048576:=(Nat.le_trans (Z6U _ _) h)
 rw[ZC0]
 have:=ZAs (L:=Z6t) (e:=Gt.e) (z:=[.sl [],.int 0]) (P:=fun a=>Gt.sz a≤1048576) (fun p q p' q' a hP hpl hlt=>by
  rw[Z8i]
  simp only[Z6F,Z6D,Z7D,Z6A,cond_true,cond_false,gA,Z6w hpl,ZA4 hpl,Gt.e,ZFK a hP,setRange,List.set_cons_zero,List.set_cons_succ]) (fun p p' hpl=>by
  rw[Z8i,Z6G,cond_false]) l [] [] rfl (fun a ha=>Nat.le_trans (Z9E ha) h) (by simp;omega)
 simp only[List.nil_append,List.length_nil,Int.ofNat_zero,Int.natCast_zero]at this
 rw[ZBD,Z80,ZC6 (by show(l.map Gt.e).length*_≤_;rw[List.length_map];omega)]
 simp only[Bool.and_self,cond_true]
 rw[show tn (lenI (l.map Gt.e))=l.length by show(l.map Gt.e).length=_;simp]
 exact this
theorem ZFL (x:Gt) (n:Int) (h0:0≤n) (h1:n≤1048576) (h:x.bd):callI tE Z8l [.sl (x.rows.map Rw.e),.int x.level,.int n]=some [.int (szv n (x.sz))]:=by
 rw[ZCJ]
 simp only[Gt.sz]
 obtain⟨b0,_⟩:=h
 rw[ZBI x.rows n (by omega) (by omega) b0]
 simp only[gA]
 exact ZAQ (by omega)
theorem ZEq (l:List Gt) (n:Int) (h0:0≤n) (h1:n≤1048576) (h:BdL Gt.bd l):callI tE Z7F [.sl (l.map Gt.e),.int n]=some [.int (szv n (szL Gt.sz l))]:=by
 have hl:l.length≤1152921504606846976:=h.1
 rw[ZBy,ZDD]
 refine ZFi (X:=fun m=>Z6O (l.map Gt.e) m 0) h0 h1 (List.length_map _) hl fun h2=>?_
 have:=ZDC (L:=Z6O) (e:=Gt.e) (g:=Gt.sz) (P:=Gt.bd) (fun p q a n hP h0 h1 hlt=>by
  rw[Z8h]
  simp only[Z6F,Z6D,Z7D,Z6A,cond_true,cond_false,gA,Gt.e,ZFL a n h0 h1 hP]) (fun p n=>by
  rw[Z8h,Z6G,cond_false]) l [] (n-l.length) (fun a ha=>h.2 a ha) (by omega) (by omega) (by simp;omega)
 simpa using this
theorem ZFM (x y:Gt) (h:x.sz≤1152921504606846976):callI tE Z8w [.sl (x.rows.map Rw.e),.int x.level,.sl (y.rows.map Rw.e),.int y.level]=some [.bool (decide (x=y))]:=by
 have e:decide (x=y)=(decide (x.rows=y.rows)&&(decide (x.level=y.level))):=by
  cases x;cases y
  simp only[Gt.mk.injEq,Bool.decide_and]
 simp only[ZBJ x.rows y.rows (by simp only[Gt.sz]at h;omega),gA,eqI,eqBo,e,Z8b,Bool.and_true,ZCO]
theorem ZEr (l l':List Gt) (h:szL Gt.sz l≤1152921504606846976):callI tE Z7L [.sl (l.map Gt.e),.sl (l'.map Gt.e)]=some [.bool (decide (l=l'))]:=by
 have hl:l.length≤1152921504606846976:=(Nat.le_trans (Z6U _ _) h)
 rw[ZC2]
 by_cases hll:l.length=l'.length
 ·rw[ZAw hll,Bool.not_true,cond_false]
  have:=Z9F (L:=Z6u) (e:=Gt.e) (P:=fun a=>Gt.sz a≤1152921504606846976) (fun p q p' q' a b hP hpl hlt=>by
   rw[Z8j]
   simp only[Z6F,Z6D,Z7D,Z6A,cond_true,cond_false,gA,Z6w hpl,Z9p hpl,Gt.e,ZFM a b hP,ZF2]) (fun p p' hpl=>by
   rw[Z8j,Z6G,cond_false]) l l' [] [] rfl hll (fun a ha=>Nat.le_trans (Z9E ha) h) (by simp;omega)
  simpa using this
 ·rw[ZAx hll,Bool.not_false,cond_true,decide_eq_false (fun e=>hll (by rw[e]))]
theorem ZDs (l:List Gt) (k:Int) (h0:0≤k) (h1:k+Z5L Gt.ct l<4611686018427387904) (h2:szL Gt.sz l≤1152921504606846976):callI tE Z6g [.sl (l.map Gt.e),.int k]=some [.int (k+Z5L Gt.ct l),.sl ((mkL Gt.mkm Gt.ct l k).map Gt.e)]:=by
 have hl:l.length≤1152921504606846976:=(Nat.le_trans (Z6U _ _) h2)
 rw[ZBZ]
 have:=Z88 (L:=Z6Y) (e:=Gt.e) (f:=Gt.mkm) (c:=Gt.ct) (g:=Gt.sz) (fun p q a k h0 hc hg hlt=>by
  rw[show k+((Gt.ct a:Nat):Int)=k+(Z5L Rw.ct a.rows:Nat)+1 by simp only[Gt.ct];omega]
  rw[Z84]
  simp only[Z6F,Z6D,Z7D,Z6A,cond_true,cond_false,gA,ZAP,Gt.e,Gt.mkm,Z8J a.rows k (by omega) (by simp only[Gt.ct]at hc;omega) (by simp only[Gt.sz]at hg;omega),Z5O (n:=k+(Z5L Rw.ct a.rows:Nat)+1) (by simp only[Gt.ct]at hc;omega),setRange,List.set_cons_zero,List.set_cons_succ]) (fun p k=>by
  rw[Z84,Z6G,cond_false]) l [] k h0 h1 (by exact h2) (by simp;omega)
 simpa using this
theorem ZGr (x:Jn) (h:x.sz≤1048576):callI tE ZAE [.sl (x.pend.map Tk.e),.int x.wr,.int x.parts]=some [.sl (x.pend.map Tk.e),.int x.wr,.int x.parts]:=by
 simp only[ZDV,ZHe x.pend (by simp only[Jn.sz]at h;omega),gA]
theorem ZEs (x:Ag) (h:x.sz≤1048576):callI tE Z8Y [.sl (x.pend.map Gt.e),.int x.wr,.bool x.early]=some [.sl (x.pend.map Gt.e),.int x.wr,.bool x.early]:=by
 simp only[ZC1,ZEp x.pend (by simp only[Ag.sz]at h;omega),gA]
theorem ZJ9 (x:Opr) (h:x.sz≤1048576):callI tE ZBn [.int x.kind,.sl (x.so.inp.map Rw.e),.int x.so.pos,.sl (x.so.heap.map Rw.e),.sl (x.so.dfd.map Rw.e),.sl (x.so.out.map Rw.e),.sl (x.so.runs.map rsE),.int x.so.lp,.int x.so.rp,.int x.so.ph,.int x.so.wr,.sl (x.jn.pend.map Tk.e),.int x.jn.wr,.int x.jn.parts,.sl (x.ag.pend.map Gt.e),.int x.ag.wr,.bool x.ag.early]=some [.int x.kind,.sl (x.so.inp.map Rw.e),.int x.so.pos,.sl (x.so.heap.map Rw.e),.sl (x.so.dfd.map Rw.e),.sl (x.so.out.map Rw.e),.sl (x.so.runs.map rsE),.int x.so.lp,.int x.so.rp,.int x.so.ph,.int x.so.wr,.sl (x.jn.pend.map Tk.e),.int x.jn.wr,.int x.jn.parts,.sl (x.ag.pend.map Gt.e),.int x.ag.wr,.bool x.ag.early]:=by
 simp only[ZFZ,ZGl x.so (by simp only[Opr.sz]at h;omega),ZGr x.jn (by simp only[Opr.sz]at h;omega),ZEs x.ag (by simp only[Opr.sz]at h;omega),gA]
theorem ZGs (x:Ou) (h:x.sz≤1048576):callI tE ZAF [.sl (x.rows.map Rw.e),.sl (x.pairs.map Pr.e),.sl (x.groups.map Gr.e)]=some [.sl (x.rows.map Rw.e),.sl (x.pairs.map Pr.e),.sl (x.groups.map Gr.e)]:=by
 simp only[ZDX,ZBH x.rows (by simp only[Ou.sz]at h;omega),ZHZ x.pairs (by simp only[Ou.sz]at h;omega),ZGo x.groups (by simp only[Ou.sz]at h;omega),gA]
theorem ZGt (x:Jn) (n:Int) (h0:0≤n) (h1:n≤1048576) (h:x.bd):callI tE ZA7 [.sl (x.pend.map Tk.e),.int x.wr,.int x.parts,.int n]=some [.int (szv n (x.sz))]:=by
 rw[ZDR]
 simp only[Jn.sz]
 obtain⟨b0,_,_⟩:=h
 rw[ZHf x.pend n (by omega) (by omega) b0]
 simp only[gA]
 exact ZAQ (by omega)
theorem ZEt (x:Ag) (n:Int) (h0:0≤n) (h1:n≤1048576) (h:x.bd):callI tE Z8X [.sl (x.pend.map Gt.e),.int x.wr,.bool x.early,.int n]=some [.int (szv n (x.sz))]:=by
 rw[ZBz]
 simp only[Ag.sz]
 obtain⟨b0,_,_⟩:=h
 rw[ZEq x.pend n (by omega) (by omega) b0]
 simp only[gA]
 exact ZAQ (by omega)
theorem ZJA (x:Opr) (n:Int) (h0:0≤n) (h1:n≤1048576) (h:x.bd):callI tE ZBm [.int x.kind,.sl (x.so.inp.map Rw.e),.int x.so.pos,.sl (x.so.heap.map Rw.e),.sl (x.so.dfd.map Rw.e),.sl (x.so.out.map Rw.e),.sl (x.so.runs.map rsE),.int x.so.lp,.int x.so.rp,.int x.so.ph,.int x.so.wr,.sl (x.jn.pend.map Tk.e),.int x.jn.wr,.int x.jn.parts,.sl (x.ag.pend.map Gt.e),.int x.ag.wr,.bool x.ag.early,.int n]=some [.int (szv n (x.sz))]:=by
 rw[ZFY]
 simp only[Opr.sz]
 obtain⟨_,b1,b2,b3⟩:=h
 rw[ZGm x.so n (by omega) (by omega) b1]
 simp only[gA]
 refine Z75 (by omega) fun h0 g0=>?_
 rw[g0]
 rw[ZGt x.jn (n-(x.so.sz:Nat)) (by omega) (by omega) b2]
 simp only[gA]
 refine Z75 (by omega) fun h1 g1=>?_
 rw[g1]
 rw[ZEt x.ag (n-(x.so.sz:Nat)-(x.jn.sz:Nat)) (by omega) (by omega) b3]
 simp only[gA]
 exact ZAQ (by omega)
theorem ZGu (x:Ou) (n:Int) (h0:0≤n) (h1:n≤1048576) (h:x.bd):callI tE ZA9 [.sl (x.rows.map Rw.e),.sl (x.pairs.map Pr.e),.sl (x.groups.map Gr.e),.int n]=some [.int (szv n (x.sz))]:=by
 rw[ZDT]
 simp only[Ou.sz]
 obtain⟨b0,b1,b2⟩:=h
 rw[ZBI x.rows n (by omega) (by omega) b0]
 simp only[gA]
 refine Z75 (by omega) fun h0 g0=>?_
 rw[g0]
 rw[ZHa x.pairs (n-(x.rows.length:Nat)) (by omega) (by omega) b1]
 simp only[gA]
 refine Z75 (by omega) fun h1 g1=>?_
 rw[g1]
 rw[ZGp x.groups (n-(x.rows.length:Nat)-(x.pairs.length:Nat)) (by omega) (by omega) b2]
 simp only[gA]
 exact ZAQ (by omega)
theorem ZGv (x y:Jn) (h:x.sz≤1152921504606846976):callI tE ZAJ [.sl (x.pend.map Tk.e),.int x.wr,.int x.parts,.sl (y.pend.map Tk.e),.int y.wr,.int y.parts]=some [.bool (decide (x=y))]:=by
 have e:decide (x=y)=(decide (x.pend=y.pend)&&(decide (x.wr=y.wr)&&(decide (x.parts=y.parts)))):=by
  cases x;cases y
  simp only[Jn.mk.injEq,Bool.decide_and]
 simp only[ZHg x.pend y.pend (by simp only[Jn.sz]at h;omega),gA,eqI,eqBo,e,Z8b,Bool.and_true,ZDZ]
theorem ZEu (x y:Ag) (h:x.sz≤1152921504606846976):callI tE Z8Z [.sl (x.pend.map Gt.e),.int x.wr,.bool x.early,.sl (y.pend.map Gt.e),.int y.wr,.bool y.early]=some [.bool (decide (x=y))]:=by
 have e:decide (x=y)=(decide (x.pend=y.pend)&&(decide (x.wr=y.wr)&&(decide (x.early=y.early)))):=by
  cases x;cases y
  simp only[Ag.mk.injEq,Bool.decide_and]
 simp only[ZEr x.pend y.pend (by simp only[Ag.sz]at h;omega),gA,eqI,eqBo,e,Z8b,Bool.and_true,ZC3]
theorem ZJB (x y:Opr) (h:x.sz≤1152921504606846976):callI tE ZBo [.int x.kind,.sl (x.so.inp.map Rw.e),.int x.so.pos,.sl (x.so.heap.map Rw.e),.sl (x.so.dfd.map Rw.e),.sl (x.so.out.map Rw.e),.sl (x.so.runs.map rsE),.int x.so.lp,.int x.so.rp,.int x.so.ph,.int x.so.wr,.sl (x.jn.pend.map Tk.e),.int x.jn.wr,.int x.jn.parts,.sl (x.ag.pend.map Gt.e),.int x.ag.wr,.bool x.ag.early,.int y.kind,.sl (y.so.inp.map Rw.e),.int y.so.pos,.sl (y.so.heap.map Rw.e),.sl (y.so.dfd.map Rw.e),.sl (y.so.out.map Rw.e),.sl (y.so.runs.map rsE),.int y.so.lp,.int y.so.rp,.int y.so.ph,.int y.so.wr,.sl (y.jn.pend.map Tk.e),.int y.jn.wr,.int y.jn.parts,.sl (y.ag.pend.map Gt.e),.int y.ag.wr,.bool y.ag.early]=some [.bool (decide (x=y))]:=by
 have e:decide (x=y)=(decide (x.kind=y.kind)&&(decide (x.so=y.so)&&(decide (x.jn=y.jn)&&(decide (x.ag=y.ag))))):=by
  cases x;cases y
  simp only[Opr.mk.injEq,Bool.decide_and]
 simp only[ZGn x.so y.so (by simp only[Opr.sz]at h;omega),ZGv x.jn y.jn (by simp only[Opr.sz]at h;omega),ZEu x.ag y.ag (by simp only[Opr.sz]at h;omega),gA,eqI,eqBo,e,Z8b,Bool.and_true,ZFa]
theorem ZFN (x y:Ou) (h:x.sz≤1152921504606846976):callI tE Z7A [.sl (x.rows.map Rw.e),.sl (x.pairs.map Pr.e),.sl (x.groups.map Gr.e),.sl (y.rows.map Rw.e),.sl (y.pairs.map Pr.e),.sl (y.groups.map Gr.e)]=some [.bool (decide (x=y))]:=by
 have e:decide (x=y)=(decide (x.rows=y.rows)&&(decide (x.pairs=y.pairs)&&(decide (x.groups=y.groups)))):=by
  cases x;cases y
  simp only[Ou.mk.injEq,Bool.decide_and]
 simp only[ZBJ x.rows y.rows (by simp only[Ou.sz]at h;omega),ZHb x.pairs y.pairs (by simp only[Ou.sz]at h;omega),ZGq x.groups y.groups (by simp only[Ou.sz]at h;omega),gA,eqI,eqBo,e,Z8b,Bool.and_true,ZDb]
theorem ZFe (x:Ou) (k:Int) (h0:0≤k) (h1:k+(Z5L Rw.ct x.rows:Nat)+(Z5L Pr.ct x.pairs:Nat)+(Z5L Gr.ct x.groups:Nat)<4611686018427387904) (h2:x.sz≤1152921504606846976):callI tE Z7t [.sl (x.rows.map Rw.e),.sl (x.pairs.map Pr.e),.sl (x.groups.map Gr.e),.int k]=some [.int (k+(Z5L Rw.ct x.rows:Nat)+(Z5L Pr.ct x.pairs:Nat)+(Z5L Gr.ct x.groups:Nat)),.sl ((mkL Rw.mkm Rw.ct x.rows k).map Rw.e),.sl ((mkL Pr.mkm Pr.ct x.pairs (k+(Z5L Rw.ct x.rows:Nat))).map Pr.e),.sl ((mkL Gr.mkm Gr.ct x.groups (k+(Z5L Rw.ct x.rows:Nat)+(Z5L Pr.ct x.pairs:Nat))).map Gr.e)]:=by
 simp only[ZCa,Z8J x.rows k (by omega) (by omega) (by simp only[Ou.sz]at h2;omega),ZEN x.pairs (k+(Z5L Rw.ct x.rows:Nat)) (by omega) (by omega) (by simp only[Ou.sz]at h2;omega),ZDr x.groups (k+(Z5L Rw.ct x.rows:Nat)+(Z5L Pr.ct x.pairs:Nat)) (by omega) (by omega) (by simp only[Ou.sz]at h2;omega),gA]
theorem ZFf (x:Ou) (k:Int) (h0:0≤k) (h1:k+(Z5L Rw.ct x.rows:Nat)+(Z5L Pr.ct x.pairs:Nat)+(Z5L Gr.ct x.groups:Nat)<4611686018427387904) (h2:x.sz≤1152921504606846976):callI tE Z7C [.sl ((mkL Rw.mkm Rw.ct x.rows k).map Rw.e),.sl ((mkL Pr.mkm Pr.ct x.pairs (k+(Z5L Rw.ct x.rows:Nat))).map Pr.e),.sl ((mkL Gr.mkm Gr.ct x.groups (k+(Z5L Rw.ct x.rows:Nat)+(Z5L Pr.ct x.pairs:Nat))).map Gr.e),.int k]=some [.int (k+(Z5L Rw.ct x.rows:Nat)+(Z5L Pr.ct x.pairs:Nat)+(Z5L Gr.ct x.groups:Nat))]:=by
 simp only[ZCb,ZGj x.rows k (by omega) (by omega) (by simp only[Ou.sz]at h2;omega),ZG6 x.pairs (k+(Z5L Rw.ct x.rows:Nat)) (by omega) (by omega) (by simp only[Ou.sz]at h2;omega),ZFd x.groups (k+(Z5L Rw.ct x.rows:Nat)+(Z5L Pr.ct x.pairs:Nat)) (by omega) (by omega) (by simp only[Ou.sz]at h2;omega),gA,ltF (a:=k+(Z5L Rw.ct x.rows:Nat)) (b:=0) (by omega),ltF (a:=k+(Z5L Rw.ct x.rows:Nat)+(Z5L Pr.ct x.pairs:Nat)) (b:=0) (by omega),ltF (a:=k+(Z5L Rw.ct x.rows:Nat)+(Z5L Pr.ct x.pairs:Nat)+(Z5L Gr.ct x.groups:Nat)) (b:=0) (by omega),cond_false]
theorem ZGw (x:Cl):callI tE ZAB [.int x.id,.int x.req,.int x.prio]=some [.int x.id,.int x.req,.int x.prio]:=by
 simp only[ZDe,gA]
theorem ZEO (l:List Cl) (h:l.length≤1048576):callI tE Z7O [.sl (l.map Cl.e)]=some [.sl (l.map Cl.e)]:=by
 have hl:l.length≤1048576:=h
 rw[ZCt]
 have:=ZAs (L:=Z7h) (e:=Cl.e) (z:=[.int 0,.int 0,.int 0]) (P:=fun a=>(fun _=>0) a≤1048576) (fun p q p' q' a _ hpl hlt=>by
  rw[Z9l]
  simp only[Z6F,Z6D,Z7D,Z6A,cond_true,cond_false,gA,Z6w hpl,ZA4 hpl,Cl.e,ZGw a,setRange,List.set_cons_zero,List.set_cons_succ]) (fun p p' hpl=>by
  rw[Z9l,Z6G,cond_false]) l [] [] rfl (fun a ha=>Nat.zero_le _) (by simp;omega)
 simp only[List.nil_append,List.length_nil,Int.ofNat_zero,Int.natCast_zero]at this
 rw[ZBD,Z80,ZC6 (by show(l.map Cl.e).length*_≤_;rw[List.length_map];omega)]
 simp only[Bool.and_self,cond_true]
 rw[show tn (lenI (l.map Cl.e))=l.length by show(l.map Cl.e).length=_;simp]
 exact this
theorem ZEP (l:List Cl) (n:Int) (h0:0≤n) (h1:n≤1048576) (h:BdL Cl.bd l):callI tE Z8K [.sl (l.map Cl.e),.int n]=some [.int (szv n l.length)]:=by
 rw[ZCs]
 exact ZDE h0 h1 (by simp) h.1
theorem ZGx (x y:Cl):callI tE ZAG [.int x.id,.int x.req,.int x.prio,.int y.id,.int y.req,.int y.prio]=some [.bool (decide (x=y))]:=by
 have e:decide (x=y)=(decide (x.id=y.id)&&(decide (x.req=y.req)&&(decide (x.prio=y.prio)))):=by
  cases x;cases y
  simp only[Cl.mk.injEq,Bool.decide_and]
 simp only[gA,eqI,eqBo,e,Z8b,Bool.and_true,ZDi]
theorem ZEQ (l l':List Cl) (h:l.length≤1152921504606846976):callI tE Z7R [.sl (l.map Cl.e),.sl (l'.map Cl.e)]=some [.bool (decide (l=l'))]:=by
 have hl:l.length≤1152921504606846976:=h
 rw[ZCu]
 by_cases hll:l.length=l'.length
 ·rw[ZAw hll,Bool.not_true,cond_false]
  have:=Z9F (L:=Z7i) (e:=Cl.e) (P:=fun a=>(fun _=>0) a≤1152921504606846976) (fun p q p' q' a b _ hpl hlt=>by
   rw[Z9m]
   simp only[Z6F,Z6D,Z7D,Z6A,cond_true,cond_false,gA,Z6w hpl,Z9p hpl,Cl.e,ZGx a b,ZF2]) (fun p p' hpl=>by
   rw[Z9m,Z6G,cond_false]) l l' [] [] rfl hll (fun a ha=>Nat.zero_le _) (by simp;omega)
  simpa using this
 ·rw[ZAx hll,Bool.not_false,cond_true,decide_eq_false (fun e=>hll (by rw[e]))]
theorem ZCi (l:List Cl) (k:Int) (h0:0≤k) (h1:k+Z5L Cl.ct l<4611686018427387904) (h2:l.length≤1152921504606846976):callI tE Z6f [.sl (l.map Cl.e),.int k]=some [.int (k+Z5L Cl.ct l),.sl ((mkL Cl.mkm Cl.ct l k).map Cl.e)]:=by
 have hl:l.length≤1152921504606846976:=h2
 rw[ZCP]
 have:=Z88 (L:=Z76) (e:=Cl.e) (f:=Cl.mkm) (c:=Cl.ct) (g:=(fun _=>0)) (fun p q a k h0 hc hg hlt=>by
  rw[show k+((Cl.ct a:Nat):Int)=k+1+1+1 by simp only[Cl.ct];omega]
  rw[Z99]
  simp only[Z6F,Z6D,Z7D,Z6A,cond_true,cond_false,gA,ZAP,Cl.e,Cl.mkm,Z5O (n:=k+1) (by simp only[Cl.ct]at hc;omega),Z5O (n:=k+1+1) (by simp only[Cl.ct]at hc;omega),Z5O (n:=k+1+1+1) (by simp only[Cl.ct]at hc;omega),setRange,List.set_cons_zero,List.set_cons_succ]) (fun p k=>by
  rw[Z99,Z6G,cond_false]) l [] k h0 h1 (by rw[ZA3];exact h2) (by simp;omega)
 simpa using this
theorem ZIL (x:Sl) (h:x.sz≤1048576):callI tE ZB8 [.int x.id,.int x.op.kind,.sl (x.op.so.inp.map Rw.e),.int x.op.so.pos,.sl (x.op.so.heap.map Rw.e),.sl (x.op.so.dfd.map Rw.e),.sl (x.op.so.out.map Rw.e),.sl (x.op.so.runs.map rsE),.int x.op.so.lp,.int x.op.so.rp,.int x.op.so.ph,.int x.op.so.wr,.sl (x.op.jn.pend.map Tk.e),.int x.op.jn.wr,.int x.op.jn.parts,.sl (x.op.ag.pend.map Gt.e),.int x.op.ag.wr,.bool x.op.ag.early,.sl (x.out.rows.map Rw.e),.sl (x.out.pairs.map Pr.e),.sl (x.out.groups.map Gr.e),.bool x.done]=some [.int x.id,.int x.op.kind,.sl (x.op.so.inp.map Rw.e),.int x.op.so.pos,.sl (x.op.so.heap.map Rw.e),.sl (x.op.so.dfd.map Rw.e),.sl (x.op.so.out.map Rw.e),.sl (x.op.so.runs.map rsE),.int x.op.so.lp,.int x.op.so.rp,.int x.op.so.ph,.int x.op.so.wr,.sl (x.op.jn.pend.map Tk.e),.int x.op.jn.wr,.int x.op.jn.parts,.sl (x.op.ag.pend.map Gt.e),.int x.op.ag.wr,.bool x.op.ag.early,.sl (x.out.rows.map Rw.e),.sl (x.out.pairs.map Pr.e),.sl (x.out.groups.map Gr.e),.bool x.done]:=by
 simp only[ZEm,ZJ9 x.op (by simp only[Sl.sz]at h;omega),ZGs x.out (by simp only[Sl.sz]at h;omega),gA]
theorem ZHh (l:List Sl) (h:szL Sl.sz l≤1048576):callI tE Z9O [.sl (l.map Sl.e)]=some [.sl (l.map Sl.e)]:=by
 have hl:l.length≤1048576:=(Nat.le_trans (Z6U _ _) h)
 rw[ZEF]
 have:=ZAs (L:=Z8V) (e:=Sl.e) (z:=[.int 0,.int 0,.sl [],.int 0,.sl [],.sl [],.sl [],.sl [],.int 0,.int 0,.int 0,.int 0,.sl [],.int 0,.int 0,.sl [],.int 0,.bool false,.sl [],.sl [],.sl [],.bool false]) (P:=fun a=>Sl.sz a≤1048576) (fun p q p' q' a hP hpl hlt=>by
  rw[ZAY]
  simp only[Z6F,Z6D,Z7D,Z6A,cond_true,cond_false,gA,Z6w hpl,ZA4 hpl,Sl.e,ZIL a hP,setRange,List.set_cons_zero,List.set_cons_succ]) (fun p p' hpl=>by
  rw[ZAY,Z6G,cond_false]) l [] [] rfl (fun a ha=>Nat.le_trans (Z9E ha) h) (by simp;omega)
 simp only[List.nil_append,List.length_nil,Int.ofNat_zero,Int.natCast_zero]at this
 rw[ZBD,Z80,ZC6 (by show(l.map Sl.e).length*_≤_;rw[List.length_map];omega)]
 simp only[Bool.and_self,cond_true]
 rw[show tn (lenI (l.map Sl.e))=l.length by show(l.map Sl.e).length=_;simp]
 exact this
theorem ZIM (x:Sl) (n:Int) (h0:0≤n) (h1:n≤1048576) (h:x.bd):callI tE ZB4 [.int x.id,.int x.op.kind,.sl (x.op.so.inp.map Rw.e),.int x.op.so.pos,.sl (x.op.so.heap.map Rw.e),.sl (x.op.so.dfd.map Rw.e),.sl (x.op.so.out.map Rw.e),.sl (x.op.so.runs.map rsE),.int x.op.so.lp,.int x.op.so.rp,.int x.op.so.ph,.int x.op.so.wr,.sl (x.op.jn.pend.map Tk.e),.int x.op.jn.wr,.int x.op.jn.parts,.sl (x.op.ag.pend.map Gt.e),.int x.op.ag.wr,.bool x.op.ag.early,.sl (x.out.rows.map Rw.e),.sl (x.out.pairs.map Pr.e),.sl (x.out.groups.map Gr.e),.bool x.done,.int n]=some [.int (szv n (x.sz))]:=by
 rw[ZEk]
 simp only[Sl.sz]
 obtain⟨_,b1,b2,_⟩:=h
 rw[ZJA x.op n (by omega) (by omega) b1]
 simp only[gA]
 refine Z75 (by omega) fun h0 g0=>?_
 rw[g0]
 rw[ZGu x.out (n-(x.op.sz:Nat)) (by omega) (by omega) b2]
 simp only[gA]
 exact ZAQ (by omega)
theorem ZHi (l:List Sl) (n:Int) (h0:0≤n) (h1:n≤1048576) (h:BdL Sl.bd l):callI tE Z9I [.sl (l.map Sl.e),.int n]=some [.int (szv n (szL Sl.sz l))]:=by
 have hl:l.length≤1152921504606846976:=h.1
 rw[ZEC,ZDD]
 refine ZFi (X:=fun m=>Z7W (l.map Sl.e) m 0) h0 h1 (List.length_map _) hl fun h2=>?_
 have:=ZDC (L:=Z7W) (e:=Sl.e) (g:=Sl.sz) (P:=Sl.bd) (fun p q a n hP h0 h1 hlt=>by
  rw[ZAX]
  simp only[Z6F,Z6D,Z7D,Z6A,cond_true,cond_false,gA,Sl.e,ZIM a n h0 h1 hP]) (fun p n=>by
  rw[ZAX,Z6G,cond_false]) l [] (n-l.length) (fun a ha=>h.2 a ha) (by omega) (by omega) (by simp;omega)
 simpa using this
theorem ZIN (x y:Sl) (h:x.sz≤1152921504606846976):callI tE ZBC [.int x.id,.int x.op.kind,.sl (x.op.so.inp.map Rw.e),.int x.op.so.pos,.sl (x.op.so.heap.map Rw.e),.sl (x.op.so.dfd.map Rw.e),.sl (x.op.so.out.map Rw.e),.sl (x.op.so.runs.map rsE),.int x.op.so.lp,.int x.op.so.rp,.int x.op.so.ph,.int x.op.so.wr,.sl (x.op.jn.pend.map Tk.e),.int x.op.jn.wr,.int x.op.jn.parts,.sl (x.op.ag.pend.map Gt.e),.int x.op.ag.wr,.bool x.op.ag.early,.sl (x.out.rows.map Rw.e),.sl (x.out.pairs.map Pr.e),.sl (x.out.groups.map Gr.e),.bool x.done,.int y.id,.int y.op.kind,.sl (y.op.so.inp.map Rw.e),.int y.op.so.pos,.sl (y.op.so.heap.map Rw.e),.sl (y.op.so.dfd.map Rw.e),.sl (y.op.so.out.map Rw.e),.sl (y.op.so.runs.map rsE),.int y.op.so.lp,.int y.op.so.rp,.int y.op.so.ph,.int y.op.so.wr,.sl (y.op.jn.pend.map Tk.e),.int y.op.jn.wr,.int y.op.jn.parts,.sl (y.op.ag.pend.map Gt.e),.int y.op.ag.wr,.bool y.op.ag.early,.sl (y.out.rows.map Rw.e),.sl (y.out.pairs.map Pr.e),.sl (y.out.groups.map Gr.e),.bool y.done]=some [.bool (decide (x=y))]:=by
 have e:decide (x=y)=(decide (x.id=y.id)&&(decide (x.op=y.op)&&(decide (x.out=y.out)&&(decide (x.done=y.done))))):=by
  cases x;cases y
  simp only[Sl.mk.injEq,Bool.decide_and]
 simp only[ZJB x.op y.op (by simp only[Sl.sz]at h;omega),ZFN x.out y.out (by simp only[Sl.sz]at h;omega),gA,eqI,eqBo,e,Z8b,Bool.and_true,ZEn]
theorem ZHj (l l':List Sl) (h:szL Sl.sz l≤1152921504606846976):callI tE Z9V [.sl (l.map Sl.e),.sl (l'.map Sl.e)]=some [.bool (decide (l=l'))]:=by
 have hl:l.length≤1152921504606846976:=(Nat.le_trans (Z6U _ _) h)
 rw[ZEI]
 by_cases hll:l.length=l'.length
 ·rw[ZAw hll,Bool.not_true,cond_false]
  have:=Z9F (L:=Z8W) (e:=Sl.e) (P:=fun a=>Sl.sz a≤1152921504606846976) (fun p q p' q' a b hP hpl hlt=>by
   rw[ZAZ]
   simp only[Z6F,Z6D,Z7D,Z6A,cond_true,cond_false,gA,Z6w hpl,Z9p hpl,Sl.e,ZIN a b hP,ZF2]) (fun p p' hpl=>by
   rw[ZAZ,Z6G,cond_false]) l l' [] [] rfl hll (fun a ha=>Nat.le_trans (Z9E ha) h) (by simp;omega)
  simpa using this
 ·rw[ZAx hll,Bool.not_false,cond_true,decide_eq_false (fun e=>hll (by rw[e]))]
theorem ZG8 (l:List Sl) (k:Int) (h0:0≤k) (h1:k+Z5L Sl.ct l<4611686018427387904) (h2:szL Sl.sz l≤1152921504606846976):callI tE Z8N [.sl (l.map Sl.e),.int k]=some [.int (k+Z5L Sl.ct l),.sl ((mkL Sl.mkm Sl.ct l k).map Sl.e)]:=by
 have hl:l.length≤1152921504606846976:=(Nat.le_trans (Z6U _ _) h2)
 rw[ZCv]
 have:=Z88 (L:=Z7j) (e:=Sl.e) (f:=Sl.mkm) (c:=Sl.ct) (g:=Sl.sz) (fun p q a k h0 hc hg hlt=>by
  rw[show k+((Sl.ct a:Nat):Int)=k+1+1+(Z5L Rw.ct a.op.so.inp:Nat)+1+(Z5L Rw.ct a.op.so.heap:Nat)+(Z5L Rw.ct a.op.so.dfd:Nat)+(Z5L Rw.ct a.op.so.out:Nat)+(Z5L (Z5L Rw.ct) a.op.so.runs:Nat)+1+1+1+1+(Z5L Tk.ct a.op.jn.pend:Nat)+1+1+(Z5L Gt.ct a.op.ag.pend:Nat)+1+1+(Z5L Rw.ct a.out.rows:Nat)+(Z5L Pr.ct a.out.pairs:Nat)+(Z5L Gr.ct a.out.groups:Nat)+1 by simp only[Sl.ct];omega]
  rw[Z9n]
  simp only[Z6F,Z6D,Z7D,Z6A,cond_true,cond_false,gA,ZAP,Sl.e,Sl.mkm,Z8J a.op.so.inp (k+1+1) (by omega) (by simp only[Sl.ct]at hc;omega) (by simp only[Sl.sz,Opr.sz,So.sz,Jn.sz,Ag.sz,Ou.sz]at hg;omega),Z8J a.op.so.heap (k+1+1+(Z5L Rw.ct a.op.so.inp:Nat)+1) (by omega) (by simp only[Sl.ct]at hc;omega) (by simp only[Sl.sz,Opr.sz,So.sz,Jn.sz,Ag.sz,Ou.sz]at hg;omega),Z8J a.op.so.dfd (k+1+1+(Z5L Rw.ct a.op.so.inp:Nat)+1+(Z5L Rw.ct a.op.so.heap:Nat)) (by omega) (by simp only[Sl.ct]at hc;omega) (by simp only[Sl.sz,Opr.sz,So.sz,Jn.sz,Ag.sz,Ou.sz]at hg;omega),Z8J a.op.so.out (k+1+1+(Z5L Rw.ct a.op.so.inp:Nat)+1+(Z5L Rw.ct a.op.so.heap:Nat)+(Z5L Rw.ct a.op.so.dfd:Nat)) (by omega) (by simp only[Sl.ct]at hc;omega) (by simp only[Sl.sz,Opr.sz,So.sz,Jn.sz,Ag.sz,Ou.sz]at hg;omega),ZGk a.op.so.runs (k+1+1+(Z5L Rw.ct a.op.so.inp:Nat)+1+(Z5L Rw.ct a.op.so.heap:Nat)+(Z5L Rw.ct a.op.so.dfd:Nat)+(Z5L Rw.ct a.op.so.out:Nat)) (by omega) (by simp only[Sl.ct]at hc;omega) (by simp only[Sl.sz,Opr.sz,So.sz,Jn.sz,Ag.sz,Ou.sz]at hg;omega),ZG7 a.op.jn.pend (k+1+1+(Z5L Rw.ct a.op.so.inp:Nat)+1+(Z5L Rw.ct a.op.so.heap:Nat)+(Z5L Rw.ct a.op.so.dfd:Nat)+(Z5L Rw.ct a.op.so.out:Nat)+(Z5L (Z5L Rw.ct) a.op.so.runs:Nat)+1+1+1+1) (by omega) (by simp only[Sl.ct]at hc;omega) (by simp only[Sl.sz,Opr.sz,So.sz,Jn.sz,Ag.sz,Ou.sz]at hg;omega),ZDs a.op.ag.pend (k+1+1+(Z5L Rw.ct a.op.so.inp:Nat)+1+(Z5L Rw.ct a.op.so.heap:Nat)+(Z5L Rw.ct a.op.so.dfd:Nat)+(Z5L Rw.ct a.op.so.out:Nat)+(Z5L (Z5L Rw.ct) a.op.so.runs:Nat)+1+1+1+1+(Z5L Tk.ct a.op.jn.pend:Nat)+1+1) (by omega) (by simp only[Sl.ct]at hc;omega) (by simp only[Sl.sz,Opr.sz,So.sz,Jn.sz,Ag.sz,Ou.sz]at hg;omega),Z8J a.out.rows (k+1+1+(Z5L Rw.ct a.op.so.inp:Nat)+1+(Z5L Rw.ct a.op.so.heap:Nat)+(Z5L Rw.ct a.op.so.dfd:Nat)+(Z5L Rw.ct a.op.so.out:Nat)+(Z5L (Z5L Rw.ct) a.op.so.runs:Nat)+1+1+1+1+(Z5L Tk.ct a.op.jn.pend:Nat)+1+1+(Z5L Gt.ct a.op.ag.pend:Nat)+1+1) (by omega) (by simp only[Sl.ct]at hc;omega) (by simp only[Sl.sz,Opr.sz,So.sz,Jn.sz,Ag.sz,Ou.sz]at hg;omega),ZEN a.out.pairs (k+1+1+(Z5L Rw.ct a.op.so.inp:Nat)+1+(Z5L Rw.ct a.op.so.heap:Nat)+(Z5L Rw.ct a.op.so.dfd:Nat)+(Z5L Rw.ct a.op.so.out:Nat)+(Z5L (Z5L Rw.ct) a.op.so.runs:Nat)+1+1+1+1+(Z5L Tk.ct a.op.jn.pend:Nat)+1+1+(Z5L Gt.ct a.op.ag.pend:Nat)+1+1+(Z5L Rw.ct a.out.rows:Nat)) (by omega) (by simp only[Sl.ct]at hc;omega) (by simp only[Sl.sz,Opr.sz,So.sz,Jn.sz,Ag.sz,Ou.sz]at hg;omega),ZDr a.out.groups (k+1+1+(Z5L Rw.ct a.op.so.inp:Nat)+1+(Z5L Rw.ct a.op.so.heap:Nat)+(Z5L Rw.ct a.op.so.dfd:Nat)+(Z5L Rw.ct a.op.so.out:Nat)+(Z5L (Z5L Rw.ct) a.op.so.runs:Nat)+1+1+1+1+(Z5L Tk.ct a.op.jn.pend:Nat)+1+1+(Z5L Gt.ct a.op.ag.pend:Nat)+1+1+(Z5L Rw.ct a.out.rows:Nat)+(Z5L Pr.ct a.out.pairs:Nat)) (by omega) (by simp only[Sl.ct]at hc;omega) (by simp only[Sl.sz,Opr.sz,So.sz,Jn.sz,Ag.sz,Ou.sz]at hg;omega),Z5O (n:=k+1) (by simp only[Sl.ct]at hc;omega),Z5O (n:=k+1+1) (by simp only[Sl.ct]at hc;omega),Z5O (n:=k+1+1+(Z5L Rw.ct a.op.so.inp:Nat)+1) (by simp only[Sl.ct]at hc;omega),Z5O (n:=k+1+1+(Z5L Rw.ct a.op.so.inp:Nat)+1+(Z5L Rw.ct a.op.so.heap:Nat)+(Z5L Rw.ct a.op.so.dfd:Nat)+(Z5L Rw.ct a.op.so.out:Nat)+(Z5L (Z5L Rw.ct) a.op.so.runs:Nat)+1) (by simp only[Sl.ct]at hc;omega),Z5O (n:=k+1+1+(Z5L Rw.ct a.op.so.inp:Nat)+1+(Z5L Rw.ct a.op.so.heap:Nat)+(Z5L Rw.ct a.op.so.dfd:Nat)+(Z5L Rw.ct a.op.so.out:Nat)+(Z5L (Z5L Rw.ct) a.op.so.runs:Nat)+1+1) (by simp only[Sl.ct]at hc;omega),Z5O (n:=k+1+1+(Z5L Rw.ct a.op.so.inp:Nat)+1+(Z5L Rw.ct a.op.so.heap:Nat)+(Z5L Rw.ct a.op.so.dfd:Nat)+(Z5L Rw.ct a.op.so.out:Nat)+(Z5L (Z5L Rw.ct) a.op.so.runs:Nat)+1+1+1) (by simp only[Sl.ct]at hc;omega),Z5O (n:=k+1+1+(Z5L Rw.ct a.op.so.inp:Nat)+1+(Z5L Rw.ct a.op.so.heap:Nat)+(Z5L Rw.ct a.op.so.dfd:Nat)+(Z5L Rw.ct a.op.so.out:Nat)+(Z5L (Z5L Rw.ct) a.op.so.runs:Nat)+1+1+1+1) (by simp only[Sl.ct]at hc;omega),Z5O (n:=k+1+1+(Z5L Rw.ct a.op.so.inp:Nat)+1+(Z5L Rw.ct a.op.so.heap:Nat)+(Z5L Rw.ct a.op.so.dfd:Nat)+(Z5L Rw.ct a.op.so.out:Nat)+(Z5L (Z5L Rw.ct) a.op.so.runs:Nat)+1+1+1+1+(Z5L Tk.ct a.op.jn.pend:Nat)+1) (by simp only[Sl.ct]at hc;omega),Z5O (n:=k+1+1+(Z5L Rw.ct a.op.so.inp:Nat)+1+(Z5L Rw.ct a.op.so.heap:Nat)+(Z5L Rw.ct a.op.so.dfd:Nat)+(Z5L Rw.ct a.op.so.out:Nat)+(Z5L (Z5L Rw.ct) a.op.so.runs:Nat)+1+1+1+1+(Z5L Tk.ct a.op.jn.pend:Nat)+1+1) (by simp only[Sl.ct]at hc;omega),Z5O (n:=k+1+1+(Z5L Rw.ct a.op.so.inp:Nat)+1+(Z5L Rw.ct a.op.so.heap:Nat)+(Z5L Rw.ct a.op.so.dfd:Nat)+(Z5L Rw.ct a.op.so.out:Nat)+(Z5L (Z5L Rw.ct) a.op.so.runs:Nat)+1+1+1+1+(Z5L Tk.ct a.op.jn.pend:Nat)+1+1+(Z5L Gt.ct a.op.ag.pend:Nat)+1) (by simp only[Sl.ct]at hc;omega),Z5O (n:=k+1+1+(Z5L Rw.ct a.op.so.inp:Nat)+1+(Z5L Rw.ct a.op.so.heap:Nat)+(Z5L Rw.ct a.op.so.dfd:Nat)+(Z5L Rw.ct a.op.so.out:Nat)+(Z5L (Z5L Rw.ct) a.op.so.runs:Nat)+1+1+1+1+(Z5L Tk.ct a.op.jn.pend:Nat)+1+1+(Z5L Gt.ct a.op.ag.pend:Nat)+1+1) (by simp only[Sl.ct]at hc;omega),Z5O (n:=k+1+1+(Z5L Rw.ct a.op.so.inp:Nat)+1+(Z5L Rw.ct a.op.so.heap:Nat)+(Z5L Rw.ct a.op.so.dfd:Nat)+(Z5L Rw.ct a.op.so.out:Nat)+(Z5L (Z5L Rw.ct) a.op.so.runs:Nat)+1+1+1+1+(Z5L Tk.ct a.op.jn.pend:Nat)+1+1+(Z5L Gt.ct a.op.ag.pend:Nat)+1+1+(Z5L Rw.ct a.out.rows:Nat)+(Z5L Pr.ct a.out.pairs:Nat)+(Z5L Gr.ct a.out.groups:Nat)+1) (by simp only[Sl.ct]at hc;omega),setRange,List.set_cons_zero,List.set_cons_succ]) (fun p k=>by
  rw[Z9n,Z6G,cond_false]) l [] k h0 h1 (by exact h2) (by simp;omega)
 simpa using this
theorem ZGy (x:Br) (h:x.sz≤1048576):callI tE ZAC [.int x.pool,.int x.next,.sl (x.act.map Cl.e),.sl (x.wait.map Cl.e)]=some [.int x.pool,.int x.next,.sl (x.act.map Cl.e),.sl (x.wait.map Cl.e)]:=by
 simp only[ZDf,ZEO x.act (by simp only[Br.sz]at h;omega),ZEO x.wait (by simp only[Br.sz]at h;omega),gA]
theorem ZGz (x:Br) (n:Int) (h0:0≤n) (h1:n≤1048576) (h:x.bd):callI tE ZA5 [.int x.pool,.int x.next,.sl (x.act.map Cl.e),.sl (x.wait.map Cl.e),.int n]=some [.int (szv n (x.sz))]:=by
 rw[ZDc]
 simp only[Br.sz]
 obtain⟨_,_,b2,b3⟩:=h
 rw[ZEP x.act n (by omega) (by omega) b2]
 simp only[gA]
 refine Z75 (by omega) fun h0 g0=>?_
 rw[g0]
 rw[ZEP x.wait (n-(x.act.length:Nat)) (by omega) (by omega) b3]
 simp only[gA]
 exact ZAQ (by omega)
theorem ZH0 (x y:Br) (h:x.sz≤1152921504606846976):callI tE ZAH [.int x.pool,.int x.next,.sl (x.act.map Cl.e),.sl (x.wait.map Cl.e),.int y.pool,.int y.next,.sl (y.act.map Cl.e),.sl (y.wait.map Cl.e)]=some [.bool (decide (x=y))]:=by
 have e:decide (x=y)=(decide (x.pool=y.pool)&&(decide (x.next=y.next)&&(decide (x.act=y.act)&&(decide (x.wait=y.wait))))):=by
  cases x;cases y
  simp only[Br.mk.injEq,Bool.decide_and]
 simp only[ZEQ x.act y.act (by simp only[Br.sz]at h;omega),ZEQ x.wait y.wait (by simp only[Br.sz]at h;omega),gA,eqI,eqBo,e,Z8b,Bool.and_true,ZDj]
theorem ZFg (x:Br) (k:Int) (h0:0≤k) (h1:k+(Z5L Cl.ct x.act:Nat)+(Z5L Cl.ct x.wait:Nat)<4611686018427387904) (h2:x.sz≤1152921504606846976):callI tE Z9C [.int x.pool,.int x.next,.sl (x.act.map Cl.e),.sl (x.wait.map Cl.e),.int k]=some [.int (k+(Z5L Cl.ct x.act:Nat)+(Z5L Cl.ct x.wait:Nat)),.sl ((mkL Cl.mkm Cl.ct x.act k).map Cl.e),.sl ((mkL Cl.mkm Cl.ct x.wait (k+(Z5L Cl.ct x.act:Nat))).map Cl.e)]:=by
 simp only[ZCc,ZCi x.act k (by omega) (by omega) (by simp only[Br.sz]at h2;omega),ZCi x.wait (k+(Z5L Cl.ct x.act:Nat)) (by omega) (by omega) (by simp only[Br.sz]at h2;omega),gA]
theorem ZH1 (x:Sy) (h:x.sz≤1048576):callI tE Z77 [.int x.br.pool,.int x.br.next,.sl (x.br.act.map Cl.e),.sl (x.br.wait.map Cl.e),.sl (x.slots.map Sl.e),.int x.round]=some [.int x.br.pool,.int x.br.next,.sl (x.br.act.map Cl.e),.sl (x.br.wait.map Cl.e),.sl (x.slots.map Sl.e),.int x.round]:=by
 simp only[ZDg,ZGy x.br (by simp only[Sy.sz]at h;omega),ZHh x.slots (by simp only[Sy.sz]at h;omega),gA]
theorem ZH2 (x:Sy) (n:Int) (h0:0≤n) (h1:n≤1048576) (h:x.bd):callI tE ZAA [.int x.br.pool,.int x.br.next,.sl (x.br.act.map Cl.e),.sl (x.br.wait.map Cl.e),.sl (x.slots.map Sl.e),.int x.round,.int n]=some [.int (szv n (x.sz))]:=by
 rw[ZDd]
 simp only[Sy.sz]
 obtain⟨b0,b1,_⟩:=h
 rw[ZGz x.br n (by omega) (by omega) b0]
 simp only[gA]
 refine Z75 (by omega) fun h0 g0=>?_
 rw[g0]
 rw[ZHi x.slots (n-(x.br.sz:Nat)) (by omega) (by omega) b1]
 simp only[gA]
 exact ZAQ (by omega)
theorem ZH3 (x y:Sy) (h:x.sz≤1152921504606846976):callI tE ZAK [.int x.br.pool,.int x.br.next,.sl (x.br.act.map Cl.e),.sl (x.br.wait.map Cl.e),.sl (x.slots.map Sl.e),.int x.round,.int y.br.pool,.int y.br.next,.sl (y.br.act.map Cl.e),.sl (y.br.wait.map Cl.e),.sl (y.slots.map Sl.e),.int y.round]=some [.bool (decide (x=y))]:=by
 have e:decide (x=y)=(decide (x.br=y.br)&&(decide (x.slots=y.slots)&&(decide (x.round=y.round)))):=by
  cases x;cases y
  simp only[Sy.mk.injEq,Bool.decide_and]
 simp only[ZH0 x.br y.br (by simp only[Sy.sz]at h;omega),ZHj x.slots y.slots (by simp only[Sy.sz]at h;omega),gA,eqI,eqBo,e,Z8b,Bool.and_true,ZDk]
theorem ZFh (x:Sy) (k:Int) (h0:0≤k) (h1:k+(Z5L Cl.ct x.br.act:Nat)+(Z5L Cl.ct x.br.wait:Nat)+(Z5L Sl.ct x.slots:Nat)<4611686018427387904) (h2:x.sz≤1152921504606846976):callI tE Z7r [.int x.br.pool,.int x.br.next,.sl (x.br.act.map Cl.e),.sl (x.br.wait.map Cl.e),.sl (x.slots.map Sl.e),.int x.round,.int k]=some [.int (k+(Z5L Cl.ct x.br.act:Nat)+(Z5L Cl.ct x.br.wait:Nat)+(Z5L Sl.ct x.slots:Nat)),.sl ((mkL Cl.mkm Cl.ct x.br.act k).map Cl.e),.sl ((mkL Cl.mkm Cl.ct x.br.wait (k+(Z5L Cl.ct x.br.act:Nat))).map Cl.e),.sl ((mkL Sl.mkm Sl.ct x.slots (k+(Z5L Cl.ct x.br.act:Nat)+(Z5L Cl.ct x.br.wait:Nat))).map Sl.e)]:=by
 simp only[ZCd,ZFg x.br k (by omega) (by omega) (by simp only[Sy.sz]at h2;omega),ZG8 x.slots (k+(Z5L Cl.ct x.br.act:Nat)+(Z5L Cl.ct x.br.wait:Nat)) (by omega) (by omega) (by simp only[Sy.sz]at h2;omega),gA]
theorem ZIo {n:Int} {s:Nat} (h:(s:Int)≤n):szv n s=n-s:=if_pos h
theorem ZIp {n:Int} {s:Nat} (h:¬(s:Int)≤n):szv n s= -1:=if_neg h
theorem ZCj:∀l:List Rw,Z5L Rw.ct l=3*l.length
 |[]=>rfl
 |a::l=>by simp only[Z5L,ZCj l,Rw.ct,List.length_cons];omega
theorem ZHv {α:Type}:∀l:List α,Z5L c1 l=l.length
 |[]=>rfl
 |a::l=>by simp only[Z5L,c1,ZHv l,List.length_cons];omega
theorem ZDt:∀l:List (List Rw),Z5L (Z5L Rw.ct) l≤3*szL List.length l
 |[]=>Nat.zero_le _
 |a::l=>by have:=ZDt l;simp only[Z5L,ZCj a,szL];omega
theorem ZHw:∀l:List Tk,Z5L Tk.ct l≤5*szL Tk.sz l
 |[]=>Nat.zero_le _
 |a::l=>by
  have:=ZHw l
  have h1:=ZCj a.left
  have h2:=ZCj a.right
  have h3:=ZHv a.mat
  simp only[Z5L,szL,Tk.ct,Tk.sz,h1,h2,h3];omega
theorem ZHx:∀l:List Gt,Z5L Gt.ct l≤5*szL Gt.sz l
 |[]=>Nat.zero_le _
 |a::l=>by
  have:=ZHx l
  have h1:=ZCj a.rows
  simp only[Z5L,szL,Gt.ct,Gt.sz,h1];omega
theorem So.cnt_le (y:So):Z5L Rw.ct y.inp+Z5L Rw.ct y.heap+Z5L Rw.ct y.dfd+Z5L Rw.ct y.out+Z5L (Z5L Rw.ct) y.runs≤5*y.sz:=by
 have:=ZDt y.runs
 simp only[ZCj,So.sz];omega
theorem Opr.cnt_le (y:Opr):Z5L Rw.ct y.so.inp+Z5L Rw.ct y.so.heap+Z5L Rw.ct y.so.dfd+Z5L Rw.ct y.so.out+Z5L (Z5L Rw.ct) y.so.runs+Z5L Tk.ct y.jn.pend+Z5L Gt.ct y.ag.pend≤5*y.sz:=by
 have h1:=y.so.cnt_le
 have h2:=ZHw y.jn.pend
 have h3:=ZHx y.ag.pend
 simp only[Opr.sz,Jn.sz,Ag.sz];omega
theorem Xc.cnt_le (x:Xc):Z5L (Z5L Rw.ct) x.pend+Z5L (Z5L Rw.ct) x.que+Z5L (Z5L Rw.ct) x.got≤3*x.sz:=by
 have h1:=ZDt x.pend
 have h2:=ZDt x.que
 have h3:=ZDt x.got
 simp only[Xc.sz];omega
set_option maxRecDepth 100000
theorem ZBN (a0 a1:Int) (a2 a3 a4:Rows) (a5 a6:Int):callI tE Z7Z [.int a0,.int a1,.sl a2,.sl a3,.sl a4,.int a5,.int a6]=(((callI tE ZAA [(.int a0),(.int a1),(.sl a2),(.sl a3),(.sl a4),(.int a5),(.int 1048576)])).bind (fun r0=>(bif(ltI (gn r0) 0)then(some [(.bool Bool.true)])else(((callI tE Z77 [(.int a0),(.int a1),(.sl a2),(.sl a3),(.sl a4),(.int a5)])).bind (fun r1=>(((callI tE ZAL [(.int (gn r1)),(.int (gn (tk 1 r1))),(.sl (gl (tk 2 r1))),(.sl (gl (tk 3 r1))),(.sl (gl (tk 4 r1))),(.int (gn (tk 5 r1))),(.int a6)])).bind (fun r2=>(((callI tE Z77 [(.int a0),(.int a1),(.sl a2),(.sl a3),(.sl a4),(.int a5)])).bind (fun r3=>(((callI tE Z90 [(.int (gn r3)),(.int (gn (tk 1 r3))),(.sl (gl (tk 2 r3))),(.sl (gl (tk 3 r3))),(.sl (gl (tk 4 r3))),(.int (gn (tk 5 r3))),(.int a6)])).bind (fun r4=>(((callI tE Z7A [(.sl (gl r4)),(.sl (gl (tk 1 r4))),(.sl (gl (tk 2 r4))),(.sl (gl r2)),(.sl (gl (tk 1 r2))),(.sl (gl (tk 2 r2)))])).bind (fun r5=>(bif(!(gb r5))then(some [(.bool Bool.false)])else(bif(!(eqBo (gb (tk 3 r4)) (gb (tk 3 r2))))then(some [(.bool Bool.false)])else(((callI tE Z77 [(.int a0),(.int a1),(.sl a2),(.sl a3),(.sl a4),(.int a5)])).bind (fun r6=>(((callI tE ZAK [(.int (gn r3)),(.int (gn (tk 1 r3))),(.sl (gl (tk 2 r3))),(.sl (gl (tk 3 r3))),(.sl (gl (tk 4 r3))),(.int (gn (tk 5 r3))),(.int (gn r6)),(.int (gn (tk 1 r6))),(.sl (gl (tk 2 r6))),(.sl (gl (tk 3 r6))),(.sl (gl (tk 4 r6))),(.int (gn (tk 5 r6)))])).bind (fun r7=>(bif(!(gb r7))then(some [(.bool Bool.false)])else(((callI tE Z7r [(.int (gn r3)),(.int (gn (tk 1 r3))),(.sl (gl (tk 2 r3))),(.sl (gl (tk 3 r3))),(.sl (gl (tk 4 r3))),(.int (gn (tk 5 r3))),(.int 1)])).bind (fun r8=>(bif(ltI (gn r8) 0)then(some [(.bool Bool.false)])else(((callI tE Z7A [(.sl (gl r4)),(.sl (gl (tk 1 r4))),(.sl (gl (tk 2 r4))),(.sl (gl r2)),(.sl (gl (tk 1 r2))),(.sl (gl (tk 2 r2)))])).bind (fun r9=>(bif(!(gb r9))then(some [(.bool Bool.false)])else(bif(!(eqBo (gb (tk 3 r4)) (gb (tk 3 r2))))then(some [(.bool Bool.false)])else(((callI tE Z7t [(.sl (gl r4)),(.sl (gl (tk 1 r4))),(.sl (gl (tk 2 r4))),(.int 1)])).bind (fun r10=>(((callI tE Z7C [(.sl (gl (List.drop 1 r10))),(.sl (gl (tk 1 (List.drop 1 r10)))),(.sl (gl (tk 2 (List.drop 1 r10)))),(.int 1)])).bind (fun r11=>(bif(ltI (gn r11) 0)then(some [(.bool Bool.false)])else(bif(!(eqI (gn r11) (gn r10)))then(some [(.bool Bool.false)])else(((callI tE Z77 [(.int a0),(.int a1),(.sl a2),(.sl a3),(.sl a4),(.int a5)])).bind (fun r12=>(((callI tE Z90 [(.int (gn r12)),(.int (gn (tk 1 r12))),(.sl (gl (tk 2 r12))),(.sl (gl (tk 3 r12))),(.sl (gl (tk 4 r12))),(.int (gn (tk 5 r12))),(.int a6)])).bind (fun r13=>(((callI tE Z7A [(.sl (gl r13)),(.sl (gl (tk 1 r13))),(.sl (gl (tk 2 r13))),(.sl (gl r2)),(.sl (gl (tk 1 r2))),(.sl (gl (tk 2 r2)))])).bind (fun r14=>(bif(!(gb r14))then(some [(.bool Bool.false)])else(bif(!(eqBo (gb (tk 3 r13)) (gb (tk 3 r2))))then(some [(.bool Bool.false)])else(((callI tE Z7C [(.sl (gl (List.drop 1 r10))),(.sl (gl (tk 1 (List.drop 1 r10)))),(.sl (gl (tk 2 (List.drop 1 r10)))),(.int 1)])).bind (fun r15=>(bif(ltI (gn r15) 0)then(some [(.bool Bool.false)])else(bif(!(eqI (gn r15) (gn r10)))then(some [(.bool Bool.false)])else(some [(.bool Bool.true)])))))))))))))))))))))))))))))))))))))))))))))):=(callI_run rfl (by kernel_rfl)).trans (by kernel_rfl)
set_option maxRecDepth 10000
theorem ZH4:∀l:List Pr,Z5L Pr.ct l=7*l.length
 |[]=>rfl
 |a::l=>by simp only[Z5L,ZH4 l,Pr.ct,List.length_cons];omega
theorem ZH5:∀l:List Gr,Z5L Gr.ct l=5*l.length
 |[]=>rfl
 |a::l=>by simp only[Z5L,ZH5 l,Gr.ct,List.length_cons];omega
theorem ZH6:∀l:List Cl,Z5L Cl.ct l=3*l.length
 |[]=>rfl
 |a::l=>by simp only[Z5L,ZH6 l,Cl.ct,List.length_cons];omega
theorem ZHy:∀l:List Sl,Z5L Sl.ct l≤20*szL Sl.sz l
 |[]=>Nat.zero_le _
 |a::l=>by
  have:=ZHy l
  have h1:=a.op.cnt_le
  have h2:=ZCj a.out.rows
  have h3:=ZH4 a.out.pairs
  have h4:=ZH5 a.out.groups
  simp only[Z5L,szL,Sl.ct,Sl.sz,Ou.sz]
  omega
theorem ZHk (y:Ou) (h:y.sz≤1073741824):∃(m:Int) (a:List Rw) (b:List Pr) (c:List Gr),callI tE Z7t [.sl (y.rows.map Rw.e),.sl (y.pairs.map Pr.e),.sl (y.groups.map Gr.e),.int 1]=some [.int m,.sl (a.map Rw.e),.sl (b.map Pr.e),.sl (c.map Gr.e)]∧callI tE Z7C [.sl (a.map Rw.e),.sl (b.map Pr.e),.sl (c.map Gr.e),.int 1]=some [.int m]∧0≤m:=by
 have h1:=ZCj y.rows
 have h2:=ZH4 y.pairs
 have h3:=ZH5 y.groups
 have hh:=h
 simp only[Ou.sz]at hh
 exact⟨_,_,_,_,ZFe y 1 (by omega) (by omega) (by omega),ZFf y 1 (by omega) (by omega) (by omega),by omega⟩
theorem ZIO (y:Sy) (h:y.sz≤1073741824):∃(m:Int) (t:List Dat),callI tE Z7r [.int y.br.pool,.int y.br.next,.sl (y.br.act.map Cl.e),.sl (y.br.wait.map Cl.e),.sl (y.slots.map Sl.e),.int y.round,.int 1]=some (.int m::t)∧0≤m:=by
 have h1:=ZH6 y.br.act
 have h2:=ZH6 y.br.wait
 have h3:=ZHy y.slots
 have hh:=h
 simp only[Sy.sz,Br.sz]at hh
 exact⟨_,_,ZFh y 1 (by omega) (by omega) (by omega),by omega⟩
theorem ZHl {y:Sy} {i:Int} (h:y.B2):(ZFc y i).1.sz≤1073741824:=by
 obtain⟨p1,p2,p3⟩:=h.p
 unfold ZFc
 split
 ·split
  ·rename_i x hx
   exact(p3 x (List.mem_of_getElem? hx)).2
  ·exact Nat.zero_le _
 ·exact Nat.zero_le _
theorem pure_FnExactOutputOf:∀ds,OkDs tE [.int .i64,.int .i64,.sl 355,.sl 355,.sl 253,.int .i64,.int .i64] ds→callI tE Z7Z ds=some [.bool true]:=by
 intro ds h0
 obtain⟨_,_,rfl,i0,h1⟩:=OkDs.split (ls1:=[.int .i64,.int .i64,.sl 355,.sl 355,.sl 253,.int .i64]) (ls2:=[.int .i64]) h0
 obtain⟨x0,rfl,hx0⟩:=ZGg i0
 obtain⟨_,_,rfl,i1,h2⟩:=h1.inv
 obtain⟨n1,rfl,j1⟩:=i1.i64
 obtain rfl:=h2.nil_inv
 show callI tE Z7Z [.int x0.br.pool,.int x0.br.next,.sl (x0.br.act.map Cl.e),.sl (x0.br.wait.map Cl.e),.sl (x0.slots.map Sl.e),.int x0.round,.int n1]=_
 rw[ZBN,ZH2 x0 1048576 (by omega) (by omega) hx0]
 simp only[gA]
 by_cases hs:(x0.sz:Int)≤1048576
 ·have hb2:x0.B2:=by simp only[Sy.B2];omega
  rw[ZIo hs,ltF (by omega),cond_false,ZH1 x0 (by omega)]
  have hz:=ZHl (i:=n1) hb2
  have e1:=ZJ8 x0 n1 hb2
  have e2:=ZJ7 x0 n1 hb2
  generalize ZFc x0 n1=z at*
  obtain⟨y,b⟩:=z
  simp only[OuB]at hz e1 e2
  obtain⟨m,a1,a2,a3,k1,k2,k3⟩:=ZHk y hz
  obtain⟨m',t,g1,g2⟩:=ZIO x0 (by omega)
  have e3:=ZFN y y (by omega)
  simp only[gA,e1,e2,e3,g1,k1,k2,ZH3 x0 x0 (by omega),decide_true,ZC9,Z80,Bool.not_true,cond_false,ltF k3,ltF g2]
 ·rw[ZIp hs];rfl
end Go.Proofs.YtnihikajdbcoaaaGreat.Vai
