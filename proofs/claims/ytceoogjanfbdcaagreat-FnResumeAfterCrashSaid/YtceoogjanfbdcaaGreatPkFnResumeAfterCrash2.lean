/- What the law of this claim leans on; no condition. -/
import Derived.Test.YtceoogjanfbdcaaGreatPkFnResumeAfterCrash1
namespace Go.Proofs.YtceoogjanfbdcaaGreat.Vai
open Go
set_option linter.unusedSimpArgs false
set_option linter.unusedVariables false
set_option linter.unnecessarySimpa false
set_option maxRecDepth 100000
theorem ZDV (a0:Rows) (a1:Int) (a2 a3 a4 a5:Rows) (a6 a7 a8 a9 a10:Int):callI tE Z8b [.sl a0,.int a1,.sl a2,.sl a3,.sl a4,.sl a5,.int a6,.int a7,.int a8,.int a9,.int a10]=(((callI tE Z9M [(.sl a0),(.int a1),(.sl a2),(.sl a3),(.sl a4),(.sl a5),(.int a6),(.int a7),(.int a8),(.int a9)])).bind (fun r0=>(((callI tE Z5t [(.sl a0),(.int a1),(.sl a2),(.sl a3),(.sl a4),(.sl a5),(.int a6),(.int a7),(.int a8),(.int a9)])).bind (fun r1=>(bif(!(gb r1))then(some [(.sl (gl r0)),(.int (gn (tk 1 r0))),(.sl (gl (tk 2 r0))),(.sl (gl (tk 3 r0))),(.sl (gl (tk 4 r0))),(.sl (gl (tk 5 r0))),(.int (gn (tk 6 r0))),(.int (gn (tk 7 r0))),(.int (gn (tk 8 r0))),(.int (gn (tk 9 r0))),(.sl []),(.bool Bool.false)])else(((callI tE Z9v [(.int a10)])).bind (fun r2=>(bif(!(gb r2))then(some [(.sl (gl r0)),(.int (gn (tk 1 r0))),(.sl (gl (tk 2 r0))),(.sl (gl (tk 3 r0))),(.sl (gl (tk 4 r0))),(.sl (gl (tk 5 r0))),(.int (gn (tk 6 r0))),(.int (gn (tk 7 r0))),(.int (gn (tk 8 r0))),(.int (gn (tk 9 r0))),(.sl []),(.bool Bool.false)])else(bif(eqI a8 4)then(some [(.sl (gl r0)),(.int (gn (tk 1 r0))),(.sl (gl (tk 2 r0))),(.sl (gl (tk 3 r0))),(.sl (gl (tk 4 r0))),(.sl (gl (tk 5 r0))),(.int (gn (tk 6 r0))),(.int (gn (tk 7 r0))),(.int (gn (tk 8 r0))),(.int (gn (tk 9 r0))),(.sl []),(.bool Bool.false)])else(bif(eqI (gn (tk 8 r0)) 1)then(bif(ltI (gn (tk 1 r0)) (lenI (gl r0)))then(((callI tE Z77 [(.sl (gl r0)),(.int (gn (tk 1 r0))),(.sl (gl (tk 2 r0))),(.sl (gl (tk 3 r0))),(.sl (gl (tk 4 r0))),(.sl (gl (tk 5 r0))),(.int (gn (tk 6 r0))),(.int (gn (tk 7 r0))),(.int (gn (tk 8 r0))),(.int (gn (tk 9 r0)))])).bind (fun r3=>(bif(inR (gn (tk 1 r0)) (lenI (gl r0)))then(((callI tE Z5O [(.int (gn (at' (gl r0) (tn (gn (tk 1 r0)))))),(.int (gn (tk 1 (at' (gl r0) (tn (gn (tk 1 r0))))))),(.int (gn (tk 2 (at' (gl r0) (tn (gn (tk 1 r0)))))))])).bind (fun r4=>(bif(leI (w64 ((gn r3)+(gn r4))) a10)then(bif(inR (gn (tk 1 r0)) (lenI (gl r0)))then(((callI tE ZAz [(.int (gn (at' (gl r0) (tn (gn (tk 1 r0)))))),(.int (gn (tk 1 (at' (gl r0) (tn (gn (tk 1 r0))))))),(.int (gn (tk 2 (at' (gl r0) (tn (gn (tk 1 r0))))))),(.sl (gl (tk 4 r0)))])).bind (fun r5=>(bif(gb r5)then(bif(fitM (Nat.succ (len (gl (tk 3 r0)))) 24)then(some [(.sl (gl r0)),(.int (w64 ((gn (tk 1 r0))+1))),(.sl (gl (tk 2 r0))),(.sl (List.append (gl (tk 3 r0)) [[(.int (gn (at' (gl r0) (tn (gn (tk 1 r0)))))),(.int (gn (tk 1 (at' (gl r0) (tn (gn (tk 1 r0))))))),(.int (gn (tk 2 (at' (gl r0) (tn (gn (tk 1 r0)))))))]])),(.sl (gl (tk 4 r0))),(.sl (gl (tk 5 r0))),(.int (gn (tk 6 r0))),(.int (gn (tk 7 r0))),(.int (gn (tk 8 r0))),(.int (gn (tk 9 r0))),(.sl []),(.bool Bool.true)])else none)else(bif(fitM (Nat.succ (len (gl (tk 2 r0)))) 24)then(some [(.sl (gl r0)),(.int (w64 ((gn (tk 1 r0))+1))),(.sl (List.append (gl (tk 2 r0)) [[(.int (gn (at' (gl r0) (tn (gn (tk 1 r0)))))),(.int (gn (tk 1 (at' (gl r0) (tn (gn (tk 1 r0))))))),(.int (gn (tk 2 (at' (gl r0) (tn (gn (tk 1 r0)))))))]])),(.sl (gl (tk 3 r0))),(.sl (gl (tk 4 r0))),(.sl (gl (tk 5 r0))),(.int (gn (tk 6 r0))),(.int (gn (tk 7 r0))),(.int (gn (tk 8 r0))),(.int (gn (tk 9 r0))),(.sl []),(.bool Bool.true)])else none))))else none)else(bif(eqI (lenI (gl (tk 2 r0))) 0)then(bif(ltI 0 (lenI (gl (tk 3 r0))))then(((callI tE Z66 [(.sl (gl r0)),(.int (gn (tk 1 r0))),(.sl (gl (tk 2 r0))),(.sl (gl (tk 3 r0))),(.sl (gl (tk 4 r0))),(.sl (gl (tk 5 r0))),(.int (gn (tk 6 r0))),(.int (gn (tk 7 r0))),(.int (gn (tk 8 r0))),(.int (gn (tk 9 r0)))])).bind (fun r5=>(some [(.sl (gl r5)),(.int (gn (tk 1 r5))),(.sl (gl (tk 3 r5))),(.sl []),(.sl (gl (tk 4 r5))),(.sl (gl (tk 5 r5))),(.int (gn (tk 6 r5))),(.int (gn (tk 7 r5))),(.int (gn (tk 8 r5))),(.int (gn (tk 9 r5))),(.sl []),(.bool Bool.true)])))else(bif(ltI 0 (lenI (gl (tk 2 r0))))then(((callI tE Z67 [(.sl (gl (tk 2 r0)))])).bind (fun r5=>(bif(inR (gn r5) (lenI (gl (tk 2 r0))))then(((callI tE Z7r [(.sl (gl (tk 2 r0))),(.int (gn r5))])).bind (fun r6=>(bif(fitM (Nat.succ (len (gl (tk 4 r0)))) 24)then(((callI tE Z5O [(.int (gn (at' (gl (tk 2 r0)) (tn (gn r5))))),(.int (gn (tk 1 (at' (gl (tk 2 r0)) (tn (gn r5)))))),(.int (gn (tk 2 (at' (gl (tk 2 r0)) (tn (gn r5))))))])).bind (fun r7=>(some [(.sl (gl r0)),(.int (gn (tk 1 r0))),(.sl (gl r6)),(.sl (gl (tk 3 r0))),(.sl (List.append (gl (tk 4 r0)) [[(.int (gn (at' (gl (tk 2 r0)) (tn (gn r5))))),(.int (gn (tk 1 (at' (gl (tk 2 r0)) (tn (gn r5)))))),(.int (gn (tk 2 (at' (gl (tk 2 r0)) (tn (gn r5))))))]])),(.sl (gl (tk 5 r0))),(.int (gn (tk 6 r0))),(.int (gn (tk 7 r0))),(.int (gn (tk 8 r0))),(.int (w64 ((gn (tk 9 r0))+(gn r7)))),(.sl []),(.bool Bool.true)])))else none)))else none)))else(bif(ltI 0 (lenI (gl (tk 4 r0))))then(((callI tE Z66 [(.sl (gl r0)),(.int (gn (tk 1 r0))),(.sl (gl (tk 2 r0))),(.sl (gl (tk 3 r0))),(.sl (gl (tk 4 r0))),(.sl (gl (tk 5 r0))),(.int (gn (tk 6 r0))),(.int (gn (tk 7 r0))),(.int (gn (tk 8 r0))),(.int (gn (tk 9 r0)))])).bind (fun r5=>(((callI tE Z5a [(.sl (gl r5)),(.int (gn (tk 1 r5))),(.sl (gl (tk 2 r5))),(.sl (gl (tk 3 r5))),(.sl (gl (tk 4 r5))),(.sl (gl (tk 5 r5))),(.int (gn (tk 6 r5))),(.int (gn (tk 7 r5))),(.int (gn (tk 8 r5))),(.int (gn (tk 9 r5)))])).bind (fun r6=>(some [(.sl (gl r6)),(.int (gn (tk 1 r6))),(.sl (gl (tk 2 r6))),(.sl (gl (tk 3 r6))),(.sl (gl (tk 4 r6))),(.sl (gl (tk 5 r6))),(.int (gn (tk 6 r6))),(.int (gn (tk 7 r6))),(.int (gn (tk 8 r6))),(.int (gn (tk 9 r6))),(.sl []),(.bool Bool.true)])))))else(((callI tE Z5a [(.sl (gl r0)),(.int (gn (tk 1 r0))),(.sl (gl (tk 2 r0))),(.sl (gl (tk 3 r0))),(.sl (gl (tk 4 r0))),(.sl (gl (tk 5 r0))),(.int (gn (tk 6 r0))),(.int (gn (tk 7 r0))),(.int (gn (tk 8 r0))),(.int (gn (tk 9 r0)))])).bind (fun r5=>(some [(.sl (gl r5)),(.int (gn (tk 1 r5))),(.sl (gl (tk 2 r5))),(.sl (gl (tk 3 r5))),(.sl (gl (tk 4 r5))),(.sl (gl (tk 5 r5))),(.int (gn (tk 6 r5))),(.int (gn (tk 7 r5))),(.int (gn (tk 8 r5))),(.int (gn (tk 9 r5))),(.sl []),(.bool Bool.true)]))))))else(bif(ltI 0 (lenI (gl (tk 2 r0))))then(((callI tE Z67 [(.sl (gl (tk 2 r0)))])).bind (fun r5=>(bif(inR (gn r5) (lenI (gl (tk 2 r0))))then(((callI tE Z7r [(.sl (gl (tk 2 r0))),(.int (gn r5))])).bind (fun r6=>(bif(fitM (Nat.succ (len (gl (tk 4 r0)))) 24)then(((callI tE Z5O [(.int (gn (at' (gl (tk 2 r0)) (tn (gn r5))))),(.int (gn (tk 1 (at' (gl (tk 2 r0)) (tn (gn r5)))))),(.int (gn (tk 2 (at' (gl (tk 2 r0)) (tn (gn r5))))))])).bind (fun r7=>(some [(.sl (gl r0)),(.int (gn (tk 1 r0))),(.sl (gl r6)),(.sl (gl (tk 3 r0))),(.sl (List.append (gl (tk 4 r0)) [[(.int (gn (at' (gl (tk 2 r0)) (tn (gn r5))))),(.int (gn (tk 1 (at' (gl (tk 2 r0)) (tn (gn r5)))))),(.int (gn (tk 2 (at' (gl (tk 2 r0)) (tn (gn r5))))))]])),(.sl (gl (tk 5 r0))),(.int (gn (tk 6 r0))),(.int (gn (tk 7 r0))),(.int (gn (tk 8 r0))),(.int (w64 ((gn (tk 9 r0))+(gn r7)))),(.sl []),(.bool Bool.true)])))else none)))else none)))else(bif(ltI 0 (lenI (gl (tk 4 r0))))then(((callI tE Z66 [(.sl (gl r0)),(.int (gn (tk 1 r0))),(.sl (gl (tk 2 r0))),(.sl (gl (tk 3 r0))),(.sl (gl (tk 4 r0))),(.sl (gl (tk 5 r0))),(.int (gn (tk 6 r0))),(.int (gn (tk 7 r0))),(.int (gn (tk 8 r0))),(.int (gn (tk 9 r0)))])).bind (fun r5=>(((callI tE Z5a [(.sl (gl r5)),(.int (gn (tk 1 r5))),(.sl (gl (tk 2 r5))),(.sl (gl (tk 3 r5))),(.sl (gl (tk 4 r5))),(.sl (gl (tk 5 r5))),(.int (gn (tk 6 r5))),(.int (gn (tk 7 r5))),(.int (gn (tk 8 r5))),(.int (gn (tk 9 r5)))])).bind (fun r6=>(some [(.sl (gl r6)),(.int (gn (tk 1 r6))),(.sl (gl (tk 2 r6))),(.sl (gl (tk 3 r6))),(.sl (gl (tk 4 r6))),(.sl (gl (tk 5 r6))),(.int (gn (tk 6 r6))),(.int (gn (tk 7 r6))),(.int (gn (tk 8 r6))),(.int (gn (tk 9 r6))),(.sl []),(.bool Bool.true)])))))else(((callI tE Z5a [(.sl (gl r0)),(.int (gn (tk 1 r0))),(.sl (gl (tk 2 r0))),(.sl (gl (tk 3 r0))),(.sl (gl (tk 4 r0))),(.sl (gl (tk 5 r0))),(.int (gn (tk 6 r0))),(.int (gn (tk 7 r0))),(.int (gn (tk 8 r0))),(.int (gn (tk 9 r0)))])).bind (fun r5=>(some [(.sl (gl r5)),(.int (gn (tk 1 r5))),(.sl (gl (tk 2 r5))),(.sl (gl (tk 3 r5))),(.sl (gl (tk 4 r5))),(.sl (gl (tk 5 r5))),(.int (gn (tk 6 r5))),(.int (gn (tk 7 r5))),(.int (gn (tk 8 r5))),(.int (gn (tk 9 r5))),(.sl []),(.bool Bool.true)])))))))))else none)))else(bif(eqI (lenI (gl (tk 2 r0))) 0)then(bif(ltI 0 (lenI (gl (tk 3 r0))))then(((callI tE Z66 [(.sl (gl r0)),(.int (gn (tk 1 r0))),(.sl (gl (tk 2 r0))),(.sl (gl (tk 3 r0))),(.sl (gl (tk 4 r0))),(.sl (gl (tk 5 r0))),(.int (gn (tk 6 r0))),(.int (gn (tk 7 r0))),(.int (gn (tk 8 r0))),(.int (gn (tk 9 r0)))])).bind (fun r3=>(some [(.sl (gl r3)),(.int (gn (tk 1 r3))),(.sl (gl (tk 3 r3))),(.sl []),(.sl (gl (tk 4 r3))),(.sl (gl (tk 5 r3))),(.int (gn (tk 6 r3))),(.int (gn (tk 7 r3))),(.int (gn (tk 8 r3))),(.int (gn (tk 9 r3))),(.sl []),(.bool Bool.true)])))else(bif(ltI 0 (lenI (gl (tk 2 r0))))then(((callI tE Z67 [(.sl (gl (tk 2 r0)))])).bind (fun r3=>(bif(inR (gn r3) (lenI (gl (tk 2 r0))))then(((callI tE Z7r [(.sl (gl (tk 2 r0))),(.int (gn r3))])).bind (fun r4=>(bif(fitM (Nat.succ (len (gl (tk 4 r0)))) 24)then(((callI tE Z5O [(.int (gn (at' (gl (tk 2 r0)) (tn (gn r3))))),(.int (gn (tk 1 (at' (gl (tk 2 r0)) (tn (gn r3)))))),(.int (gn (tk 2 (at' (gl (tk 2 r0)) (tn (gn r3))))))])).bind (fun r5=>(some [(.sl (gl r0)),(.int (gn (tk 1 r0))),(.sl (gl r4)),(.sl (gl (tk 3 r0))),(.sl (List.append (gl (tk 4 r0)) [[(.int (gn (at' (gl (tk 2 r0)) (tn (gn r3))))),(.int (gn (tk 1 (at' (gl (tk 2 r0)) (tn (gn r3)))))),(.int (gn (tk 2 (at' (gl (tk 2 r0)) (tn (gn r3))))))]])),(.sl (gl (tk 5 r0))),(.int (gn (tk 6 r0))),(.int (gn (tk 7 r0))),(.int (gn (tk 8 r0))),(.int (w64 ((gn (tk 9 r0))+(gn r5)))),(.sl []),(.bool Bool.true)])))else none)))else none)))else(bif(ltI 0 (lenI (gl (tk 4 r0))))then(((callI tE Z66 [(.sl (gl r0)),(.int (gn (tk 1 r0))),(.sl (gl (tk 2 r0))),(.sl (gl (tk 3 r0))),(.sl (gl (tk 4 r0))),(.sl (gl (tk 5 r0))),(.int (gn (tk 6 r0))),(.int (gn (tk 7 r0))),(.int (gn (tk 8 r0))),(.int (gn (tk 9 r0)))])).bind (fun r3=>(((callI tE Z5a [(.sl (gl r3)),(.int (gn (tk 1 r3))),(.sl (gl (tk 2 r3))),(.sl (gl (tk 3 r3))),(.sl (gl (tk 4 r3))),(.sl (gl (tk 5 r3))),(.int (gn (tk 6 r3))),(.int (gn (tk 7 r3))),(.int (gn (tk 8 r3))),(.int (gn (tk 9 r3)))])).bind (fun r4=>(some [(.sl (gl r4)),(.int (gn (tk 1 r4))),(.sl (gl (tk 2 r4))),(.sl (gl (tk 3 r4))),(.sl (gl (tk 4 r4))),(.sl (gl (tk 5 r4))),(.int (gn (tk 6 r4))),(.int (gn (tk 7 r4))),(.int (gn (tk 8 r4))),(.int (gn (tk 9 r4))),(.sl []),(.bool Bool.true)])))))else(((callI tE Z5a [(.sl (gl r0)),(.int (gn (tk 1 r0))),(.sl (gl (tk 2 r0))),(.sl (gl (tk 3 r0))),(.sl (gl (tk 4 r0))),(.sl (gl (tk 5 r0))),(.int (gn (tk 6 r0))),(.int (gn (tk 7 r0))),(.int (gn (tk 8 r0))),(.int (gn (tk 9 r0)))])).bind (fun r3=>(some [(.sl (gl r3)),(.int (gn (tk 1 r3))),(.sl (gl (tk 2 r3))),(.sl (gl (tk 3 r3))),(.sl (gl (tk 4 r3))),(.sl (gl (tk 5 r3))),(.int (gn (tk 6 r3))),(.int (gn (tk 7 r3))),(.int (gn (tk 8 r3))),(.int (gn (tk 9 r3))),(.sl []),(.bool Bool.true)]))))))else(bif(ltI 0 (lenI (gl (tk 2 r0))))then(((callI tE Z67 [(.sl (gl (tk 2 r0)))])).bind (fun r3=>(bif(inR (gn r3) (lenI (gl (tk 2 r0))))then(((callI tE Z7r [(.sl (gl (tk 2 r0))),(.int (gn r3))])).bind (fun r4=>(bif(fitM (Nat.succ (len (gl (tk 4 r0)))) 24)then(((callI tE Z5O [(.int (gn (at' (gl (tk 2 r0)) (tn (gn r3))))),(.int (gn (tk 1 (at' (gl (tk 2 r0)) (tn (gn r3)))))),(.int (gn (tk 2 (at' (gl (tk 2 r0)) (tn (gn r3))))))])).bind (fun r5=>(some [(.sl (gl r0)),(.int (gn (tk 1 r0))),(.sl (gl r4)),(.sl (gl (tk 3 r0))),(.sl (List.append (gl (tk 4 r0)) [[(.int (gn (at' (gl (tk 2 r0)) (tn (gn r3))))),(.int (gn (tk 1 (at' (gl (tk 2 r0)) (tn (gn r3)))))),(.int (gn (tk 2 (at' (gl (tk 2 r0)) (tn (gn r3))))))]])),(.sl (gl (tk 5 r0))),(.int (gn (tk 6 r0))),(.int (gn (tk 7 r0))),(.int (gn (tk 8 r0))),(.int (w64 ((gn (tk 9 r0))+(gn r5)))),(.sl []),(.bool Bool.true)])))else none)))else none)))else(bif(ltI 0 (lenI (gl (tk 4 r0))))then(((callI tE Z66 [(.sl (gl r0)),(.int (gn (tk 1 r0))),(.sl (gl (tk 2 r0))),(.sl (gl (tk 3 r0))),(.sl (gl (tk 4 r0))),(.sl (gl (tk 5 r0))),(.int (gn (tk 6 r0))),(.int (gn (tk 7 r0))),(.int (gn (tk 8 r0))),(.int (gn (tk 9 r0)))])).bind (fun r3=>(((callI tE Z5a [(.sl (gl r3)),(.int (gn (tk 1 r3))),(.sl (gl (tk 2 r3))),(.sl (gl (tk 3 r3))),(.sl (gl (tk 4 r3))),(.sl (gl (tk 5 r3))),(.int (gn (tk 6 r3))),(.int (gn (tk 7 r3))),(.int (gn (tk 8 r3))),(.int (gn (tk 9 r3)))])).bind (fun r4=>(some [(.sl (gl r4)),(.int (gn (tk 1 r4))),(.sl (gl (tk 2 r4))),(.sl (gl (tk 3 r4))),(.sl (gl (tk 4 r4))),(.sl (gl (tk 5 r4))),(.int (gn (tk 6 r4))),(.int (gn (tk 7 r4))),(.int (gn (tk 8 r4))),(.int (gn (tk 9 r4))),(.sl []),(.bool Bool.true)])))))else(((callI tE Z5a [(.sl (gl r0)),(.int (gn (tk 1 r0))),(.sl (gl (tk 2 r0))),(.sl (gl (tk 3 r0))),(.sl (gl (tk 4 r0))),(.sl (gl (tk 5 r0))),(.int (gn (tk 6 r0))),(.int (gn (tk 7 r0))),(.int (gn (tk 8 r0))),(.int (gn (tk 9 r0)))])).bind (fun r3=>(some [(.sl (gl r3)),(.int (gn (tk 1 r3))),(.sl (gl (tk 2 r3))),(.sl (gl (tk 3 r3))),(.sl (gl (tk 4 r3))),(.sl (gl (tk 5 r3))),(.int (gn (tk 6 r3))),(.int (gn (tk 7 r3))),(.int (gn (tk 8 r3))),(.int (gn (tk 9 r3))),(.sl []),(.bool Bool.true)])))))))else(bif(eqI (gn (tk 8 r0)) 2)then(bif(inR 0 (lenI (gl (tk 5 r0))))then(bif(inR 1 (lenI (gl (tk 5 r0))))then(bif(eqI (gn (tk 6 r0)) (lenI (gl (at' (gl (tk 5 r0)) (tn 0)))))then(bif(eqI (gn (tk 7 r0)) (lenI (gl (at' (gl (tk 5 r0)) (tn 1)))))then(bif((leI 0 2)&&(leI 2 (lenI (gl (tk 5 r0)))))then(((callI tE Z66 [(.sl (gl r0)),(.int (gn (tk 1 r0))),(.sl (gl (tk 2 r0))),(.sl (gl (tk 3 r0))),(.sl (gl (tk 4 r0))),(.sl (List.take (tn ((lenI (gl (tk 5 r0)))-2)) (List.drop (tn 2) (gl (tk 5 r0))))),(.int (gn (tk 6 r0))),(.int (gn (tk 7 r0))),(.int (gn (tk 8 r0))),(.int (gn (tk 9 r0)))])).bind (fun r3=>(((callI tE Z5a [(.sl (gl r3)),(.int (gn (tk 1 r3))),(.sl (gl (tk 2 r3))),(.sl (gl (tk 3 r3))),(.sl (gl (tk 4 r3))),(.sl (gl (tk 5 r3))),(.int (gn (tk 6 r3))),(.int (gn (tk 7 r3))),(.int (gn (tk 8 r3))),(.int (gn (tk 9 r3)))])).bind (fun r4=>(some [(.sl (gl r4)),(.int (gn (tk 1 r4))),(.sl (gl (tk 2 r4))),(.sl (gl (tk 3 r4))),(.sl (gl (tk 4 r4))),(.sl (gl (tk 5 r4))),(.int (gn (tk 6 r4))),(.int (gn (tk 7 r4))),(.int (gn (tk 8 r4))),(.int (gn (tk 9 r4))),(.sl []),(.bool Bool.true)])))))else none)else(bif(eqI (gn (tk 7 r0)) (lenI (gl (at' (gl (tk 5 r0)) (tn 1)))))then(bif(inR (gn (tk 6 r0)) (lenI (gl (at' (gl (tk 5 r0)) (tn 0)))))then(bif(fitM (Nat.succ (len (gl (tk 4 r0)))) 24)then(((callI tE Z5O [(.int (gn (at' (gl (at' (gl (tk 5 r0)) (tn 0))) (tn (gn (tk 6 r0)))))),(.int (gn (tk 1 (at' (gl (at' (gl (tk 5 r0)) (tn 0))) (tn (gn (tk 6 r0))))))),(.int (gn (tk 2 (at' (gl (at' (gl (tk 5 r0)) (tn 0))) (tn (gn (tk 6 r0)))))))])).bind (fun r3=>(some [(.sl (gl r0)),(.int (gn (tk 1 r0))),(.sl (gl (tk 2 r0))),(.sl (gl (tk 3 r0))),(.sl (List.append (gl (tk 4 r0)) [[(.int (gn (at' (gl (at' (gl (tk 5 r0)) (tn 0))) (tn (gn (tk 6 r0)))))),(.int (gn (tk 1 (at' (gl (at' (gl (tk 5 r0)) (tn 0))) (tn (gn (tk 6 r0))))))),(.int (gn (tk 2 (at' (gl (at' (gl (tk 5 r0)) (tn 0))) (tn (gn (tk 6 r0)))))))]])),(.sl (gl (tk 5 r0))),(.int (w64 ((gn (tk 6 r0))+1))),(.int (gn (tk 7 r0))),(.int (gn (tk 8 r0))),(.int (w64 ((gn (tk 9 r0))+(gn r3)))),(.sl []),(.bool Bool.true)])))else none)else none)else(bif(ltI (gn (tk 6 r0)) (lenI (gl (at' (gl (tk 5 r0)) (tn 0)))))then(bif(inR (gn (tk 6 r0)) (lenI (gl (at' (gl (tk 5 r0)) (tn 0)))))then(bif(inR (gn (tk 7 r0)) (lenI (gl (at' (gl (tk 5 r0)) (tn 1)))))then(((callI tE Z5R [(.int (gn (at' (gl (at' (gl (tk 5 r0)) (tn 0))) (tn (gn (tk 6 r0)))))),(.int (gn (tk 1 (at' (gl (at' (gl (tk 5 r0)) (tn 0))) (tn (gn (tk 6 r0))))))),(.int (gn (tk 2 (at' (gl (at' (gl (tk 5 r0)) (tn 0))) (tn (gn (tk 6 r0))))))),(.int (gn (at' (gl (at' (gl (tk 5 r0)) (tn 1))) (tn (gn (tk 7 r0)))))),(.int (gn (tk 1 (at' (gl (at' (gl (tk 5 r0)) (tn 1))) (tn (gn (tk 7 r0))))))),(.int (gn (tk 2 (at' (gl (at' (gl (tk 5 r0)) (tn 1))) (tn (gn (tk 7 r0)))))))])).bind (fun r3=>(bif(leI (gn r3) 0)then(bif(inR (gn (tk 6 r0)) (lenI (gl (at' (gl (tk 5 r0)) (tn 0)))))then(bif(fitM (Nat.succ (len (gl (tk 4 r0)))) 24)then(((callI tE Z5O [(.int (gn (at' (gl (at' (gl (tk 5 r0)) (tn 0))) (tn (gn (tk 6 r0)))))),(.int (gn (tk 1 (at' (gl (at' (gl (tk 5 r0)) (tn 0))) (tn (gn (tk 6 r0))))))),(.int (gn (tk 2 (at' (gl (at' (gl (tk 5 r0)) (tn 0))) (tn (gn (tk 6 r0)))))))])).bind (fun r4=>(some [(.sl (gl r0)),(.int (gn (tk 1 r0))),(.sl (gl (tk 2 r0))),(.sl (gl (tk 3 r0))),(.sl (List.append (gl (tk 4 r0)) [[(.int (gn (at' (gl (at' (gl (tk 5 r0)) (tn 0))) (tn (gn (tk 6 r0)))))),(.int (gn (tk 1 (at' (gl (at' (gl (tk 5 r0)) (tn 0))) (tn (gn (tk 6 r0))))))),(.int (gn (tk 2 (at' (gl (at' (gl (tk 5 r0)) (tn 0))) (tn (gn (tk 6 r0)))))))]])),(.sl (gl (tk 5 r0))),(.int (w64 ((gn (tk 6 r0))+1))),(.int (gn (tk 7 r0))),(.int (gn (tk 8 r0))),(.int (w64 ((gn (tk 9 r0))+(gn r4)))),(.sl []),(.bool Bool.true)])))else none)else none)else(bif(inR (gn (tk 7 r0)) (lenI (gl (at' (gl (tk 5 r0)) (tn 1)))))then(bif(fitM (Nat.succ (len (gl (tk 4 r0)))) 24)then(((callI tE Z5O [(.int (gn (at' (gl (at' (gl (tk 5 r0)) (tn 1))) (tn (gn (tk 7 r0)))))),(.int (gn (tk 1 (at' (gl (at' (gl (tk 5 r0)) (tn 1))) (tn (gn (tk 7 r0))))))),(.int (gn (tk 2 (at' (gl (at' (gl (tk 5 r0)) (tn 1))) (tn (gn (tk 7 r0)))))))])).bind (fun r4=>(some [(.sl (gl r0)),(.int (gn (tk 1 r0))),(.sl (gl (tk 2 r0))),(.sl (gl (tk 3 r0))),(.sl (List.append (gl (tk 4 r0)) [[(.int (gn (at' (gl (at' (gl (tk 5 r0)) (tn 1))) (tn (gn (tk 7 r0)))))),(.int (gn (tk 1 (at' (gl (at' (gl (tk 5 r0)) (tn 1))) (tn (gn (tk 7 r0))))))),(.int (gn (tk 2 (at' (gl (at' (gl (tk 5 r0)) (tn 1))) (tn (gn (tk 7 r0)))))))]])),(.sl (gl (tk 5 r0))),(.int (gn (tk 6 r0))),(.int (w64 ((gn (tk 7 r0))+1))),(.int (gn (tk 8 r0))),(.int (w64 ((gn (tk 9 r0))+(gn r4)))),(.sl []),(.bool Bool.true)])))else none)else none))))else none)else none)else(bif(inR (gn (tk 7 r0)) (lenI (gl (at' (gl (tk 5 r0)) (tn 1)))))then(bif(fitM (Nat.succ (len (gl (tk 4 r0)))) 24)then(((callI tE Z5O [(.int (gn (at' (gl (at' (gl (tk 5 r0)) (tn 1))) (tn (gn (tk 7 r0)))))),(.int (gn (tk 1 (at' (gl (at' (gl (tk 5 r0)) (tn 1))) (tn (gn (tk 7 r0))))))),(.int (gn (tk 2 (at' (gl (at' (gl (tk 5 r0)) (tn 1))) (tn (gn (tk 7 r0)))))))])).bind (fun r3=>(some [(.sl (gl r0)),(.int (gn (tk 1 r0))),(.sl (gl (tk 2 r0))),(.sl (gl (tk 3 r0))),(.sl (List.append (gl (tk 4 r0)) [[(.int (gn (at' (gl (at' (gl (tk 5 r0)) (tn 1))) (tn (gn (tk 7 r0)))))),(.int (gn (tk 1 (at' (gl (at' (gl (tk 5 r0)) (tn 1))) (tn (gn (tk 7 r0))))))),(.int (gn (tk 2 (at' (gl (at' (gl (tk 5 r0)) (tn 1))) (tn (gn (tk 7 r0)))))))]])),(.sl (gl (tk 5 r0))),(.int (gn (tk 6 r0))),(.int (w64 ((gn (tk 7 r0))+1))),(.int (gn (tk 8 r0))),(.int (w64 ((gn (tk 9 r0))+(gn r3)))),(.sl []),(.bool Bool.true)])))else none)else none))))else(bif(eqI (gn (tk 7 r0)) (lenI (gl (at' (gl (tk 5 r0)) (tn 1)))))then(bif(inR (gn (tk 6 r0)) (lenI (gl (at' (gl (tk 5 r0)) (tn 0)))))then(bif(fitM (Nat.succ (len (gl (tk 4 r0)))) 24)then(((callI tE Z5O [(.int (gn (at' (gl (at' (gl (tk 5 r0)) (tn 0))) (tn (gn (tk 6 r0)))))),(.int (gn (tk 1 (at' (gl (at' (gl (tk 5 r0)) (tn 0))) (tn (gn (tk 6 r0))))))),(.int (gn (tk 2 (at' (gl (at' (gl (tk 5 r0)) (tn 0))) (tn (gn (tk 6 r0)))))))])).bind (fun r3=>(some [(.sl (gl r0)),(.int (gn (tk 1 r0))),(.sl (gl (tk 2 r0))),(.sl (gl (tk 3 r0))),(.sl (List.append (gl (tk 4 r0)) [[(.int (gn (at' (gl (at' (gl (tk 5 r0)) (tn 0))) (tn (gn (tk 6 r0)))))),(.int (gn (tk 1 (at' (gl (at' (gl (tk 5 r0)) (tn 0))) (tn (gn (tk 6 r0))))))),(.int (gn (tk 2 (at' (gl (at' (gl (tk 5 r0)) (tn 0))) (tn (gn (tk 6 r0)))))))]])),(.sl (gl (tk 5 r0))),(.int (w64 ((gn (tk 6 r0))+1))),(.int (gn (tk 7 r0))),(.int (gn (tk 8 r0))),(.int (w64 ((gn (tk 9 r0))+(gn r3)))),(.sl []),(.bool Bool.true)])))else none)else none)else(bif(ltI (gn (tk 6 r0)) (lenI (gl (at' (gl (tk 5 r0)) (tn 0)))))then(bif(inR (gn (tk 6 r0)) (lenI (gl (at' (gl (tk 5 r0)) (tn 0)))))then(bif(inR (gn (tk 7 r0)) (lenI (gl (at' (gl (tk 5 r0)) (tn 1)))))then(((callI tE Z5R [(.int (gn (at' (gl (at' (gl (tk 5 r0)) (tn 0))) (tn (gn (tk 6 r0)))))),(.int (gn (tk 1 (at' (gl (at' (gl (tk 5 r0)) (tn 0))) (tn (gn (tk 6 r0))))))),(.int (gn (tk 2 (at' (gl (at' (gl (tk 5 r0)) (tn 0))) (tn (gn (tk 6 r0))))))),(.int (gn (at' (gl (at' (gl (tk 5 r0)) (tn 1))) (tn (gn (tk 7 r0)))))),(.int (gn (tk 1 (at' (gl (at' (gl (tk 5 r0)) (tn 1))) (tn (gn (tk 7 r0))))))),(.int (gn (tk 2 (at' (gl (at' (gl (tk 5 r0)) (tn 1))) (tn (gn (tk 7 r0)))))))])).bind (fun r3=>(bif(leI (gn r3) 0)then(bif(inR (gn (tk 6 r0)) (lenI (gl (at' (gl (tk 5 r0)) (tn 0)))))then(bif(fitM (Nat.succ (len (gl (tk 4 r0)))) 24)then(((callI tE Z5O [(.int (gn (at' (gl (at' (gl (tk 5 r0)) (tn 0))) (tn (gn (tk 6 r0)))))),(.int (gn (tk 1 (at' (gl (at' (gl (tk 5 r0)) (tn 0))) (tn (gn (tk 6 r0))))))),(.int (gn (tk 2 (at' (gl (at' (gl (tk 5 r0)) (tn 0))) (tn (gn (tk 6 r0)))))))])).bind (fun r4=>(some [(.sl (gl r0)),(.int (gn (tk 1 r0))),(.sl (gl (tk 2 r0))),(.sl (gl (tk 3 r0))),(.sl (List.append (gl (tk 4 r0)) [[(.int (gn (at' (gl (at' (gl (tk 5 r0)) (tn 0))) (tn (gn (tk 6 r0)))))),(.int (gn (tk 1 (at' (gl (at' (gl (tk 5 r0)) (tn 0))) (tn (gn (tk 6 r0))))))),(.int (gn (tk 2 (at' (gl (at' (gl (tk 5 r0)) (tn 0))) (tn (gn (tk 6 r0)))))))]])),(.sl (gl (tk 5 r0))),(.int (w64 ((gn (tk 6 r0))+1))),(.int (gn (tk 7 r0))),(.int (gn (tk 8 r0))),(.int (w64 ((gn (tk 9 r0))+(gn r4)))),(.sl []),(.bool Bool.true)])))else none)else none)else(bif(inR (gn (tk 7 r0)) (lenI (gl (at' (gl (tk 5 r0)) (tn 1)))))then(bif(fitM (Nat.succ (len (gl (tk 4 r0)))) 24)then(((callI tE Z5O [(.int (gn (at' (gl (at' (gl (tk 5 r0)) (tn 1))) (tn (gn (tk 7 r0)))))),(.int (gn (tk 1 (at' (gl (at' (gl (tk 5 r0)) (tn 1))) (tn (gn (tk 7 r0))))))),(.int (gn (tk 2 (at' (gl (at' (gl (tk 5 r0)) (tn 1))) (tn (gn (tk 7 r0)))))))])).bind (fun r4=>(some [(.sl (gl r0)),(.int (gn (tk 1 r0))),(.sl (gl (tk 2 r0))),(.sl (gl (tk 3 r0))),(.sl (List.append (gl (tk 4 r0)) [[(.int (gn (at' (gl (at' (gl (tk 5 r0)) (tn 1))) (tn (gn (tk 7 r0)))))),(.int (gn (tk 1 (at' (gl (at' (gl (tk 5 r0)) (tn 1))) (tn (gn (tk 7 r0))))))),(.int (gn (tk 2 (at' (gl (at' (gl (tk 5 r0)) (tn 1))) (tn (gn (tk 7 r0)))))))]])),(.sl (gl (tk 5 r0))),(.int (gn (tk 6 r0))),(.int (w64 ((gn (tk 7 r0))+1))),(.int (gn (tk 8 r0))),(.int (w64 ((gn (tk 9 r0))+(gn r4)))),(.sl []),(.bool Bool.true)])))else none)else none))))else none)else none)else(bif(inR (gn (tk 7 r0)) (lenI (gl (at' (gl (tk 5 r0)) (tn 1)))))then(bif(fitM (Nat.succ (len (gl (tk 4 r0)))) 24)then(((callI tE Z5O [(.int (gn (at' (gl (at' (gl (tk 5 r0)) (tn 1))) (tn (gn (tk 7 r0)))))),(.int (gn (tk 1 (at' (gl (at' (gl (tk 5 r0)) (tn 1))) (tn (gn (tk 7 r0))))))),(.int (gn (tk 2 (at' (gl (at' (gl (tk 5 r0)) (tn 1))) (tn (gn (tk 7 r0)))))))])).bind (fun r3=>(some [(.sl (gl r0)),(.int (gn (tk 1 r0))),(.sl (gl (tk 2 r0))),(.sl (gl (tk 3 r0))),(.sl (List.append (gl (tk 4 r0)) [[(.int (gn (at' (gl (at' (gl (tk 5 r0)) (tn 1))) (tn (gn (tk 7 r0)))))),(.int (gn (tk 1 (at' (gl (at' (gl (tk 5 r0)) (tn 1))) (tn (gn (tk 7 r0))))))),(.int (gn (tk 2 (at' (gl (at' (gl (tk 5 r0)) (tn 1))) (tn (gn (tk 7 r0)))))))]])),(.sl (gl (tk 5 r0))),(.int (gn (tk 6 r0))),(.int (w64 ((gn (tk 7 r0))+1))),(.int (gn (tk 8 r0))),(.int (w64 ((gn (tk 9 r0))+(gn r3)))),(.sl []),(.bool Bool.true)])))else none)else none))))else none)else none)else(bif(eqI (gn (tk 8 r0)) 3)then(bif(inR 0 (lenI (gl (tk 5 r0))))then(bif(inR (gn (tk 6 r0)) (lenI (gl (at' (gl (tk 5 r0)) (tn 0)))))then(bif(fitM 1 24)then(bif(eqI (w64 ((gn (tk 6 r0))+1)) (lenI (gl r0)))then(some [(.sl (gl r0)),(.int (gn (tk 1 r0))),(.sl (gl (tk 2 r0))),(.sl (gl (tk 3 r0))),(.sl (gl (tk 4 r0))),(.sl (gl (tk 5 r0))),(.int (w64 ((gn (tk 6 r0))+1))),(.int (gn (tk 7 r0))),(.int 4),(.int (gn (tk 9 r0))),(.sl [[(.int (gn (at' (gl (at' (gl (tk 5 r0)) (tn 0))) (tn (gn (tk 6 r0)))))),(.int (gn (tk 1 (at' (gl (at' (gl (tk 5 r0)) (tn 0))) (tn (gn (tk 6 r0))))))),(.int (gn (tk 2 (at' (gl (at' (gl (tk 5 r0)) (tn 0))) (tn (gn (tk 6 r0)))))))]]),(.bool Bool.true)])else(some [(.sl (gl r0)),(.int (gn (tk 1 r0))),(.sl (gl (tk 2 r0))),(.sl (gl (tk 3 r0))),(.sl (gl (tk 4 r0))),(.sl (gl (tk 5 r0))),(.int (w64 ((gn (tk 6 r0))+1))),(.int (gn (tk 7 r0))),(.int (gn (tk 8 r0))),(.int (gn (tk 9 r0))),(.sl [[(.int (gn (at' (gl (at' (gl (tk 5 r0)) (tn 0))) (tn (gn (tk 6 r0)))))),(.int (gn (tk 1 (at' (gl (at' (gl (tk 5 r0)) (tn 0))) (tn (gn (tk 6 r0))))))),(.int (gn (tk 2 (at' (gl (at' (gl (tk 5 r0)) (tn 0))) (tn (gn (tk 6 r0)))))))]]),(.bool Bool.true)]))else none)else none)else none)else(some [(.sl (gl r0)),(.int (gn (tk 1 r0))),(.sl (gl (tk 2 r0))),(.sl (gl (tk 3 r0))),(.sl (gl (tk 4 r0))),(.sl (gl (tk 5 r0))),(.int (gn (tk 6 r0))),(.int (gn (tk 7 r0))),(.int (gn (tk 8 r0))),(.int (gn (tk 9 r0))),(.sl []),(.bool Bool.true)]))))))))))))):=(callI_run rfl (by kernel_rfl)).trans (by kernel_rfl)
theorem ZEC (a0:Rows):callI tE Z94 [.sl a0]=(((callI tE Z5l [(.sl a0)])).bind (fun r0=>(bif(!(gb r0))then(some [(.sl []),(.int 0),(.sl []),(.sl []),(.sl []),(.sl []),(.int 0),(.int 0),(.int 0),(.int 0),(.bool Bool.false)])else(bif(fitM (0+(len a0)) 24)then(some [(.sl a0),(.int 0),(.sl []),(.sl []),(.sl []),(.sl []),(.int 0),(.int 0),(.int 1),(.int 0),(.bool Bool.true)])else none)))):=(callI_run rfl (by kernel_rfl)).trans (by kernel_rfl)
noncomputable def Z8Q (x0:Rows) (x1:Int):Option (List Dat):=loopK tE Z8A 0 ⟨[(0,(.ro 3 Bool.false x0)),(3,(.i .i64 x1))],[]⟩
theorem ZAA (x0:Rows) (x1:Int):Z8Q x0 x1=(bif(ltI x1 (lenI x0))then(bif(inR x1 (lenI x0))then(((callI tE Z6v [(.int (gn (at' x0 (tn x1)))),(.int 8),(.int 60)])).bind (fun r0=>(bif(!(gb r0))then(some [(.bool Bool.false)])else(Z8Q x0 (w64 (x1+1))))))else none)else(some [(.bool (ltI 0 (lenI x0)))])):=(loopK_run (by kernel_rfl)).trans (by kernel_rfl)
theorem ZED (a0:Rows):callI tE Z8A [.sl a0]=(Z8Q a0 0):=(callI_run rfl (by kernel_rfl)).trans (by kernel_rfl)
theorem ZGE (a0:Rows) (a1 a2:Int):callI tE Z6T [.sl a0,.int a1,.int a2]=(bif(ltI a1 (lenI a0))then(bif(inR a1 (lenI a0))then(bif(ltI a2 (lenI (gl (at' a0 (tn a1)))))then(bif(inR a1 (lenI a0))then(bif(inR a2 (lenI (gl (at' a0 (tn a1)))))then(some [(.sl [[(.int (gn (at' (gl (at' a0 (tn a1))) (tn a2)))),(.int (gn (tk 1 (at' (gl (at' a0 (tn a1))) (tn a2))))),(.int (gn (tk 2 (at' (gl (at' a0 (tn a1))) (tn a2)))))]])])else none)else none)else(some [(.sl [])]))else none)else(some [(.sl [])])):=(callI_run rfl (by kernel_rfl)).trans (by kernel_rfl)
theorem ZCg (a0:Rows) (a1:Int) (a2 a3 a4 a5:Rows) (a6 a7 a8 a9:Int):callI tE Z7B [.sl a0,.int a1,.sl a2,.sl a3,.sl a4,.sl a5,.int a6,.int a7,.int a8,.int a9]=(bif(eqI a8 1)then(((callI tE Z6b [(.sl a2)])).bind (fun r0=>(((callI tE Z6b [(.sl a3)])).bind (fun r1=>(some [(.int (w64 ((gn r0)+(gn r1))))])))))else(bif(eqI a8 2)then(bif(ltI a6 0)then(some [(.int 0)])else(bif(ltI a7 0)then(some [(.int 0)])else(((callI tE Z6T [(.sl a5),(.int 0),(.int a6)])).bind (fun r0=>(((callI tE Z6b [(.sl (gl r0))])).bind (fun r1=>(((callI tE Z6T [(.sl a5),(.int 1),(.int a7)])).bind (fun r2=>(((callI tE Z6b [(.sl (gl r2))])).bind (fun r3=>(some [(.int (w64 ((gn r1)+(gn r3))))])))))))))))else(bif(eqI a8 3)then(bif(ltI a6 0)then(some [(.int 0)])else(((callI tE Z6T [(.sl a5),(.int 0),(.int a6)])).bind (fun r0=>(((callI tE Z6b [(.sl (gl r0))])).bind (fun r1=>(some [(.int (gn r1))]))))))else(some [(.int 0)])))):=(callI_run rfl (by kernel_rfl)).trans (by kernel_rfl)
noncomputable def Z7b (x0:Rows) (x1:Int):Option (List Dat):=loopK tE Z82 0 ⟨[(0,(.ro 169 Bool.false x0)),(3,(.i .i64 x1))],[]⟩
theorem Z9F (x0:Rows) (x1:Int):Z7b x0 x1=(bif(ltI x1 (lenI x0))then(bif(inR x1 (lenI x0))then(bif(eqI (lenI (gl (at' x0 (tn x1)))) 0)then(some [(.bool Bool.false)])else(bif(inR x1 (lenI x0))then(((callI tE Z8V [(.sl (gl (at' x0 (tn x1))))])).bind (fun r0=>(bif(!(gb r0))then(some [(.bool Bool.false)])else(bif(inR x1 (lenI x0))then(((callI tE Z5l [(.sl (gl (at' x0 (tn x1))))])).bind (fun r1=>(bif(!(gb r1))then(some [(.bool Bool.false)])else(Z7b x0 (w64 (x1+1))))))else none))))else none))else none)else(some [(.bool Bool.true)])):=(loopK_run (by kernel_rfl)).trans (by kernel_rfl)
theorem ZCh (a0:Rows):callI tE Z82 [.sl a0]=(Z7b a0 0):=(callI_run rfl (by kernel_rfl)).trans (by kernel_rfl)
noncomputable def Z6F (x0:Rows) (x1:Int) (x2:Rows):Option (List Dat):=loopK tE Z6t 0 ⟨[(0,(.ro 169 Bool.false x0)),(3,(.own (500000,0))),(4,(.i .i64 x1))],[((500000,0),(.row 105 x2 Bool.true 0 []))]⟩
theorem Z9V (x0:Rows) (x1:Int) (x2:Rows):Z6F x0 x1 x2=(bif(ltI x1 (lenI x0))then(bif(inR x1 (lenI x0))then(bif(fitM ((len x2)+(len (gl (at' x0 (tn x1))))) 24)then(Z6F x0 (w64 (x1+1)) (List.append x2 (gl (at' x0 (tn x1)))))else none)else none)else(some [(.sl x2)])):=(loopK_run (by kernel_rfl)).trans (by kernel_rfl)
theorem ZD3 (a0:Rows):callI tE Z6t [.sl a0]=(Z6F a0 0 []):=(callI_run rfl (by kernel_rfl)).trans (by kernel_rfl)
noncomputable def Z5f (x0 x1:Rows) (x2 x3:Int) (x4:Rows):Option (List Dat):=loopK tE Z7M 0 ⟨[(0,(.ro 105 Bool.false x0)),(1,(.ro 105 Bool.false x1)),(5,(.own (500000,0))),(6,(.i .i64 x2)),(7,(.i .i64 x3))],[((500000,0),(.row 105 x4 Bool.true 0 []))]⟩
theorem Z72 (x0 x1:Rows) (x2 x3:Int) (x4:Rows):Z5f x0 x1 x2 x3 x4=(bif(ltI x2 (lenI x0))then(bif(eqI x3 (lenI x1))then(bif(inR x2 (lenI x0))then(bif(fitM (Nat.succ (len x4)) 24)then(Z5f x0 x1 (w64 (x2+1)) x3 (List.append x4 [[(.int (gn (at' x0 (tn x2)))),(.int (gn (tk 1 (at' x0 (tn x2))))),(.int (gn (tk 2 (at' x0 (tn x2)))))]]))else none)else none)else(bif(ltI x2 (lenI x0))then(bif(inR x2 (lenI x0))then(bif(inR x3 (lenI x1))then(((callI tE Z5j [(.int (gn (at' x0 (tn x2)))),(.int (gn (tk 1 (at' x0 (tn x2))))),(.int (gn (tk 2 (at' x0 (tn x2))))),(.int (gn (at' x1 (tn x3)))),(.int (gn (tk 1 (at' x1 (tn x3))))),(.int (gn (tk 2 (at' x1 (tn x3)))))])).bind (fun r0=>(bif(leI (gn r0) 0)then(bif(inR x2 (lenI x0))then(bif(fitM (Nat.succ (len x4)) 24)then(Z5f x0 x1 (w64 (x2+1)) x3 (List.append x4 [[(.int (gn (at' x0 (tn x2)))),(.int (gn (tk 1 (at' x0 (tn x2))))),(.int (gn (tk 2 (at' x0 (tn x2)))))]]))else none)else none)else(bif(inR x3 (lenI x1))then(bif(fitM (Nat.succ (len x4)) 24)then(Z5f x0 x1 x2 (w64 (x3+1)) (List.append x4 [[(.int (gn (at' x1 (tn x3)))),(.int (gn (tk 1 (at' x1 (tn x3))))),(.int (gn (tk 2 (at' x1 (tn x3)))))]]))else none)else none))))else none)else none)else(bif(inR x3 (lenI x1))then(bif(fitM (Nat.succ (len x4)) 24)then(Z5f x0 x1 x2 (w64 (x3+1)) (List.append x4 [[(.int (gn (at' x1 (tn x3)))),(.int (gn (tk 1 (at' x1 (tn x3))))),(.int (gn (tk 2 (at' x1 (tn x3)))))]]))else none)else none)))else(bif(ltI x3 (lenI x1))then(bif(eqI x3 (lenI x1))then(bif(inR x2 (lenI x0))then(bif(fitM (Nat.succ (len x4)) 24)then(Z5f x0 x1 (w64 (x2+1)) x3 (List.append x4 [[(.int (gn (at' x0 (tn x2)))),(.int (gn (tk 1 (at' x0 (tn x2))))),(.int (gn (tk 2 (at' x0 (tn x2)))))]]))else none)else none)else(bif(ltI x2 (lenI x0))then(bif(inR x2 (lenI x0))then(bif(inR x3 (lenI x1))then(((callI tE Z5j [(.int (gn (at' x0 (tn x2)))),(.int (gn (tk 1 (at' x0 (tn x2))))),(.int (gn (tk 2 (at' x0 (tn x2))))),(.int (gn (at' x1 (tn x3)))),(.int (gn (tk 1 (at' x1 (tn x3))))),(.int (gn (tk 2 (at' x1 (tn x3)))))])).bind (fun r0=>(bif(leI (gn r0) 0)then(bif(inR x2 (lenI x0))then(bif(fitM (Nat.succ (len x4)) 24)then(Z5f x0 x1 (w64 (x2+1)) x3 (List.append x4 [[(.int (gn (at' x0 (tn x2)))),(.int (gn (tk 1 (at' x0 (tn x2))))),(.int (gn (tk 2 (at' x0 (tn x2)))))]]))else none)else none)else(bif(inR x3 (lenI x1))then(bif(fitM (Nat.succ (len x4)) 24)then(Z5f x0 x1 x2 (w64 (x3+1)) (List.append x4 [[(.int (gn (at' x1 (tn x3)))),(.int (gn (tk 1 (at' x1 (tn x3))))),(.int (gn (tk 2 (at' x1 (tn x3)))))]]))else none)else none))))else none)else none)else(bif(inR x3 (lenI x1))then(bif(fitM (Nat.succ (len x4)) 24)then(Z5f x0 x1 x2 (w64 (x3+1)) (List.append x4 [[(.int (gn (at' x1 (tn x3)))),(.int (gn (tk 1 (at' x1 (tn x3))))),(.int (gn (tk 2 (at' x1 (tn x3)))))]]))else none)else none)))else(some [(.sl x4)]))):=(loopK_run (by kernel_rfl)).trans (by kernel_rfl)
theorem ZD4 (a0 a1:Rows):callI tE Z7M [.sl a0,.sl a1]=(Z5f a0 a1 0 0 []):=(callI_run rfl (by kernel_rfl)).trans (by kernel_rfl)
noncomputable def Z6G (x0 x1 x2:Int) (x3:Rows) (x4:Int) (x5 x6 x7 x8:Rows) (x9 x10 x11 x12:Int):Option (List Dat):=loopK tE Z6C 0 ⟨[(1,(.ptr (500000,0) x0 0)),(3,(.i .i64 x1)),(4,(.i .i64 x2))],[((500000,0),(.box 40 [(.ro 105 Bool.false x3),(.i .i64 x4),(.ro 105 Bool.false x5),(.ro 105 Bool.false x6),(.ro 105 Bool.false x7),(.ro 169 Bool.false x8),(.i .i64 x9),(.i .i64 x10),(.i .i64 x11),(.i .i64 x12)]))]⟩
theorem Z90 (x0 x1 x2:Int) (x3:Rows) (x4:Int) (x5 x6 x7 x8:Rows) (x9 x10 x11 x12:Int):Z6G x0 x1 x2 x3 x4 x5 x6 x7 x8 x9 x10 x11 x12=(bif(ltI x2 (lenI x5))then(bif(leI 0 x1)then(bif(inR x2 (lenI x5))then(bif(inR x1 (lenI x7))then(((callI tE Z5j [(.int (gn (at' x5 (tn x2)))),(.int (gn (tk 1 (at' x5 (tn x2))))),(.int (gn (tk 2 (at' x5 (tn x2))))),(.int (gn (at' x7 (tn x1)))),(.int (gn (tk 1 (at' x7 (tn x1))))),(.int (gn (tk 2 (at' x7 (tn x1)))))])).bind (fun r0=>(bif(ltI (gn r0) 0)then(some [(.bool Bool.false)])else(Z6G x0 x1 (w64 (x2+1)) x3 x4 x5 x6 x7 x8 x9 x10 x11 x12))))else none)else none)else(Z6G x0 x1 (w64 (x2+1)) x3 x4 x5 x6 x7 x8 x9 x10 x11 x12))else(bif(eqI x11 1)then(((callI tE Z6t [(.sl x8)])).bind (fun r0=>(bif(fitM ((len (gl r0))+(len x7)) 24)then(bif(fitM ((len (List.append (gl r0) x7))+(len x5)) 24)then(bif(fitM ((len (List.append (List.append (gl r0) x7) x5))+(len x6)) 24)then(bif(eqI x9 0)then(bif(eqI x10 0)then(bif(eqI (lenI x6) 0)then(((callI tE Z7B [(.sl x3),(.int x4),(.sl x5),(.sl x6),(.sl x7),(.sl x8),(.int x9),(.int x10),(.int x11),(.int x12)])).bind (fun r1=>(bif(leI (gn r1) 60)then(bif((leI 0 x4)&&(leI x4 (lenI x3)))then(((callI tE Z6w [(.sl (List.append (List.append (List.append (gl r0) x7) x5) x6)),(.sl (List.take (tn (x4-0)) (List.drop (tn 0) x3)))])).bind (fun r2=>(some [(.bool (gb r2))])))else none)else(some [(.bool Bool.false)]))))else(bif(leI 0 x1)then(((callI tE Z7B [(.sl x3),(.int x4),(.sl x5),(.sl x6),(.sl x7),(.sl x8),(.int x9),(.int x10),(.int x11),(.int x12)])).bind (fun r1=>(bif(leI (gn r1) 60)then(bif((leI 0 x4)&&(leI x4 (lenI x3)))then(((callI tE Z6w [(.sl (List.append (List.append (List.append (gl r0) x7) x5) x6)),(.sl (List.take (tn (x4-0)) (List.drop (tn 0) x3)))])).bind (fun r2=>(some [(.bool (gb r2))])))else none)else(some [(.bool Bool.false)]))))else(some [(.bool Bool.false)])))else(some [(.bool Bool.false)]))else(some [(.bool Bool.false)]))else none)else none)else none)))else(bif(!(eqI x4 (lenI x3)))then(some [(.bool Bool.false)])else(bif(ltI 0 (w64 ((lenI x5)+(lenI x6))))then(some [(.bool Bool.false)])else(bif(eqI x11 2)then(bif(ltI (lenI x8) 2)then(some [(.bool Bool.false)])else(bif(inR 0 (lenI x8))then(((callI tE Z6v [(.int x9),(.int 0),(.int (lenI (gl (at' x8 (tn 0)))))])).bind (fun r0=>(bif(!(gb r0))then(some [(.bool Bool.false)])else(bif(inR 1 (lenI x8))then(((callI tE Z6v [(.int x10),(.int 0),(.int (lenI (gl (at' x8 (tn 1)))))])).bind (fun r1=>(bif(!(gb r1))then(some [(.bool Bool.false)])else(bif(inR 0 (lenI x8))then(bif((leI 0 x9)&&(leI x9 (lenI (gl (at' x8 (tn 0))))))then(bif(inR 1 (lenI x8))then(bif((leI 0 x10)&&(leI x10 (lenI (gl (at' x8 (tn 1))))))then(((callI tE Z7M [(.sl (List.take (tn (x9-0)) (List.drop (tn 0) (gl (at' x8 (tn 0)))))),(.sl (List.take (tn (x10-0)) (List.drop (tn 0) (gl (at' x8 (tn 1))))))])).bind (fun r2=>(bif(inR 0 (lenI x8))then(bif(inR 1 (lenI x8))then(((callI tE Z7M [(.sl (gl (at' x8 (tn 0)))),(.sl (gl (at' x8 (tn 1))))])).bind (fun r3=>(bif((leI 0 (w64 (x9+x10)))&&(leI (w64 (x9+x10)) (lenI (gl r3))))then(((callI tE Z81 [(.sl x7),(.sl (List.take (tn ((w64 (x9+x10))-0)) (List.drop (tn 0) (gl r3))))])).bind (fun r4=>(bif(gb r4)then(((callI tE Z81 [(.sl (gl r2)),(.sl x7)])).bind (fun r5=>(bif(gb r5)then(((callI tE Z6t [(.sl x8)])).bind (fun r6=>(((callI tE Z6w [(.sl (gl r6)),(.sl x3)])).bind (fun r7=>(some [(.bool (gb r7))])))))else(some [(.bool Bool.false)]))))else(some [(.bool Bool.false)]))))else none)))else none)else none)))else none)else none)else none)else none))))else none))))else none))else(bif(ltI 1 (lenI x8))then(some [(.bool Bool.false)])else(bif(!(eqI x10 0))then(some [(.bool Bool.false)])else(bif(ltI 0 (lenI x7))then(some [(.bool Bool.false)])else(((callI tE Z6t [(.sl x8)])).bind (fun r0=>(((callI tE Z6w [(.sl (gl r0)),(.sl x3)])).bind (fun r1=>(bif(!(gb r1))then(some [(.bool Bool.false)])else(bif(eqI x11 3)then(bif(eqI (lenI x8) 1)then(((callI tE Z6v [(.int x9),(.int 0),(.int (w64 ((lenI x3)-1)))])).bind (fun r2=>(some [(.bool (gb r2))])))else(some [(.bool Bool.false)]))else(bif(eqI x11 4)then(some [(.bool (eqI x9 (lenI x3)))])else(some [(.bool Bool.false)])))))))))))))))):=(loopK_run (by kernel_rfl)).trans (by kernel_rfl)
theorem ZCL (a0:Rows) (a1:Int) (a2 a3 a4 a5:Rows) (a6 a7 a8 a9:Int):callI tE Z6C [.sl a0,.int a1,.sl a2,.sl a3,.sl a4,.sl a5,.int a6,.int a7,.int a8,.int a9]=(((callI tE Z5l [(.sl a0)])).bind (fun r0=>(bif(!(gb r0))then(some [(.bool Bool.false)])else(((callI tE Z6v [(.int a1),(.int 0),(.int (lenI a0))])).bind (fun r1=>(bif(!(gb r1))then(some [(.bool Bool.false)])else(((callI tE Z82 [(.sl a5)])).bind (fun r2=>(bif(!(gb r2))then(some [(.bool Bool.false)])else(bif(ltI a9 0)then(some [(.bool Bool.false)])else(((callI tE Z8V [(.sl a4)])).bind (fun r3=>(bif(!(gb r3))then(some [(.bool Bool.false)])else(Z6G 0 (w64 ((lenI a4)-1)) 0 a0 a1 a2 a3 a4 a5 a6 a7 a8 a9)))))))))))))):=(callI_run rfl (by kernel_rfl)).trans (by kernel_rfl)
theorem ZCM (a0:Rows) (a1:Int) (a2 a3 a4 a5:Rows) (a6 a7 a8 a9:Int):callI tE Z8s [.sl a0,.int a1,.sl a2,.sl a3,.sl a4,.sl a5,.int a6,.int a7,.int a8,.int a9]=(((callI tE Z6C [(.sl a0),(.int a1),(.sl a2),(.sl a3),(.sl a4),(.sl a5),(.int a6),(.int a7),(.int a8),(.int a9)])).bind (fun r0=>(bif(!(gb r0))then(some [(.int 0)])else(bif(eqI a8 3)then(some [(.int (w64 ((lenI a0)-a6)))])else(bif(eqI a8 4)then(some [(.int (w64 ((lenI a0)-a6)))])else(some [(.int (lenI a0))])))))):=(callI_run rfl (by kernel_rfl)).trans (by kernel_rfl)
theorem ZBQ (a0:Rows) (a1:Int) (a2 a3 a4 a5:Rows) (a6 a7 a8 a9:Int) (a10:Rows):callI tE Z7l [.sl a0,.int a1,.sl a2,.sl a3,.sl a4,.sl a5,.int a6,.int a7,.int a8,.int a9,.sl a10]=(((callI tE Z6C [(.sl a0),(.int a1),(.sl a2),(.sl a3),(.sl a4),(.sl a5),(.int a6),(.int a7),(.int a8),(.int a9)])).bind (fun r0=>(bif(!(gb r0))then(some [(.bool Bool.false)])else(((callI tE Z5l [(.sl a10)])).bind (fun r1=>(bif(!(gb r1))then(some [(.bool Bool.false)])else(((callI tE Z8s [(.sl a0),(.int a1),(.sl a2),(.sl a3),(.sl a4),(.sl a5),(.int a6),(.int a7),(.int a8),(.int a9)])).bind (fun r2=>(bif(!(eqI (w64 ((lenI a10)+(gn r2))) (lenI a0)))then(some [(.bool Bool.false)])else(((callI tE Z6J [(.sl a0)])).bind (fun r3=>(bif((leI 0 (lenI a10))&&(leI (lenI a10) (lenI (gl r3))))then(((callI tE Z81 [(.sl a10),(.sl (List.take (tn ((lenI a10)-0)) (List.drop (tn 0) (gl r3))))])).bind (fun r4=>(some [(.bool (gb r4))])))else none)))))))))))):=(callI_run rfl (by kernel_rfl)).trans (by kernel_rfl)
noncomputable def Z62 (x0:Rows) (x1:ByteArray) (x2:Int):Option (List Dat):=loopK tE Z8e 0 ⟨[(0,(.ro 169 Bool.false x0)),(3,(.s x1)),(4,(.i .i64 x2))],[]⟩
theorem Z9f (x0:Rows) (x1:ByteArray) (x2:Int):Z62 x0 x1 x2=(bif(ltI x2 (lenI x0))then(bif(ltI 0 x2)then(bif(fitS x1 (S [124]))then(bif(inR x2 (lenI x0))then(((callI tE Z5s [(.sl (gl (at' x0 (tn x2))))])).bind (fun r0=>(bif(fitS (x1++(S [124])) (gs r0))then(Z62 x0 ((x1++(S [124]))++(gs r0)) (w64 (x2+1)))else none)))else none)else none)else(bif(inR x2 (lenI x0))then(((callI tE Z5s [(.sl (gl (at' x0 (tn x2))))])).bind (fun r0=>(bif(fitS x1 (gs r0))then(Z62 x0 (x1++(gs r0)) (w64 (x2+1)))else none)))else none))else(some [(.str x1)])):=(loopK_run (by kernel_rfl)).trans (by kernel_rfl)
theorem ZDW (a0:Rows):callI tE Z8e [.sl a0]=(Z62 a0 (S []) 0):=(callI_run rfl (by kernel_rfl)).trans (by kernel_rfl)
theorem ZCi (a0:Rows) (a1:Int) (a2 a3 a4 a5:Rows) (a6 a7 a8 a9:Int):callI tE Z6g [.sl a0,.int a1,.sl a2,.sl a3,.sl a4,.sl a5,.int a6,.int a7,.int a8,.int a9]=(((callI tE Z6C [(.sl a0),(.int a1),(.sl a2),(.sl a3),(.sl a4),(.sl a5),(.int a6),(.int a7),(.int a8),(.int a9)])).bind (fun r0=>(bif(!(gb r0))then(some [(.str (S []))])else(((callI tE Z5s [(.sl a0)])).bind (fun r1=>(bif(fitS (gs r1) (S [47]))then(((callI tE Z5N [(.int a1)])).bind (fun r2=>(bif(fitS ((gs r1)++(S [47])) (gs r2))then(bif(fitS (((gs r1)++(S [47]))++(gs r2)) (S [47]))then(((callI tE Z5s [(.sl a2)])).bind (fun r3=>(bif(fitS ((((gs r1)++(S [47]))++(gs r2))++(S [47])) (gs r3))then(bif(fitS (((((gs r1)++(S [47]))++(gs r2))++(S [47]))++(gs r3)) (S [47]))then(((callI tE Z5s [(.sl a3)])).bind (fun r4=>(bif(fitS ((((((gs r1)++(S [47]))++(gs r2))++(S [47]))++(gs r3))++(S [47])) (gs r4))then(bif(fitS (((((((gs r1)++(S [47]))++(gs r2))++(S [47]))++(gs r3))++(S [47]))++(gs r4)) (S [47]))then(((callI tE Z5s [(.sl a4)])).bind (fun r5=>(bif(fitS ((((((((gs r1)++(S [47]))++(gs r2))++(S [47]))++(gs r3))++(S [47]))++(gs r4))++(S [47])) (gs r5))then(bif(fitS (((((((((gs r1)++(S [47]))++(gs r2))++(S [47]))++(gs r3))++(S [47]))++(gs r4))++(S [47]))++(gs r5)) (S [47]))then(((callI tE Z8e [(.sl a5)])).bind (fun r6=>(bif(fitS ((((((((((gs r1)++(S [47]))++(gs r2))++(S [47]))++(gs r3))++(S [47]))++(gs r4))++(S [47]))++(gs r5))++(S [47])) (gs r6))then(bif(fitS (((((((((((gs r1)++(S [47]))++(gs r2))++(S [47]))++(gs r3))++(S [47]))++(gs r4))++(S [47]))++(gs r5))++(S [47]))++(gs r6)) (S [47]))then(((callI tE Z5N [(.int a6)])).bind (fun r7=>(bif(fitS ((((((((((((gs r1)++(S [47]))++(gs r2))++(S [47]))++(gs r3))++(S [47]))++(gs r4))++(S [47]))++(gs r5))++(S [47]))++(gs r6))++(S [47])) (gs r7))then(bif(fitS (((((((((((((gs r1)++(S [47]))++(gs r2))++(S [47]))++(gs r3))++(S [47]))++(gs r4))++(S [47]))++(gs r5))++(S [47]))++(gs r6))++(S [47]))++(gs r7)) (S [47]))then(((callI tE Z5N [(.int a7)])).bind (fun r8=>(bif(fitS ((((((((((((((gs r1)++(S [47]))++(gs r2))++(S [47]))++(gs r3))++(S [47]))++(gs r4))++(S [47]))++(gs r5))++(S [47]))++(gs r6))++(S [47]))++(gs r7))++(S [47])) (gs r8))then(bif(fitS (((((((((((((((gs r1)++(S [47]))++(gs r2))++(S [47]))++(gs r3))++(S [47]))++(gs r4))++(S [47]))++(gs r5))++(S [47]))++(gs r6))++(S [47]))++(gs r7))++(S [47]))++(gs r8)) (S [47]))then(((callI tE Z5N [(.int a8)])).bind (fun r9=>(bif(fitS ((((((((((((((((gs r1)++(S [47]))++(gs r2))++(S [47]))++(gs r3))++(S [47]))++(gs r4))++(S [47]))++(gs r5))++(S [47]))++(gs r6))++(S [47]))++(gs r7))++(S [47]))++(gs r8))++(S [47])) (gs r9))then(bif(fitS (((((((((((((((((gs r1)++(S [47]))++(gs r2))++(S [47]))++(gs r3))++(S [47]))++(gs r4))++(S [47]))++(gs r5))++(S [47]))++(gs r6))++(S [47]))++(gs r7))++(S [47]))++(gs r8))++(S [47]))++(gs r9)) (S [47]))then(((callI tE Z5N [(.int a9)])).bind (fun r10=>(bif(fitS ((((((((((((((((((gs r1)++(S [47]))++(gs r2))++(S [47]))++(gs r3))++(S [47]))++(gs r4))++(S [47]))++(gs r5))++(S [47]))++(gs r6))++(S [47]))++(gs r7))++(S [47]))++(gs r8))++(S [47]))++(gs r9))++(S [47])) (gs r10))then(some [(.str (((((((((((((((((((gs r1)++(S [47]))++(gs r2))++(S [47]))++(gs r3))++(S [47]))++(gs r4))++(S [47]))++(gs r5))++(S [47]))++(gs r6))++(S [47]))++(gs r7))++(S [47]))++(gs r8))++(S [47]))++(gs r9))++(S [47]))++(gs r10)))])else none)))else none)else none)))else none)else none)))else none)else none)))else none)else none)))else none)else none)))else none)else none)))else none)else none)))else none)else none)))else none)))))):=(callI_run rfl (by kernel_rfl)).trans (by kernel_rfl)
theorem ZBi (a0:Rows) (a1:Int) (a2 a3 a4 a5:Rows) (a6 a7 a8 a9:Int) (a10:Rows):callI tE Z6U [.sl a0,.int a1,.sl a2,.sl a3,.sl a4,.sl a5,.int a6,.int a7,.int a8,.int a9,.sl a10]=(((callI tE Z7l [(.sl a0),(.int a1),(.sl a2),(.sl a3),(.sl a4),(.sl a5),(.int a6),(.int a7),(.int a8),(.int a9),(.sl a10)])).bind (fun r0=>(bif(!(gb r0))then(some [(.str (S []))])else(((callI tE Z6g [(.sl a0),(.int a1),(.sl a2),(.sl a3),(.sl a4),(.sl a5),(.int a6),(.int a7),(.int a8),(.int a9)])).bind (fun r1=>(bif(fitS (gs r1) (S [33]))then(((callI tE Z5s [(.sl a10)])).bind (fun r2=>(bif(fitS ((gs r1)++(S [33])) (gs r2))then(some [(.str (((gs r1)++(S [33]))++(gs r2)))])else none)))else none)))))):=(callI_run rfl (by kernel_rfl)).trans (by kernel_rfl)
noncomputable def Z6y (x0:Rows) (x1:Int) (x2:Rows):Option (List Dat):=loopK tE Z9w 0 ⟨[(0,(.ro 169 Bool.false x0)),(3,(.own (500000,0))),(4,(.i .i64 x1))],[((500000,0),(.row 169 x2 Bool.true 0 []))]⟩
theorem ZAm (x0:Rows) (x1:Int) (x2:Rows):Z6y x0 x1 x2=(bif(ltI x1 (lenI x0))then(bif(inR x1 (lenI x0))then(bif(fitM (0+(len (gl (at' x0 (tn x1))))) 24)then(bif(fitM (Nat.succ (len x2)) 24)then(Z6y x0 (w64 (x1+1)) (List.append x2 [[(.sl (gl (at' x0 (tn x1))))]]))else none)else none)else none)else(some [(.sl x2)])):=(loopK_run (by kernel_rfl)).trans (by kernel_rfl)
theorem ZFV (a0:Rows):callI tE Z9w [.sl a0]=(Z6y a0 0 []):=(callI_run rfl (by kernel_rfl)).trans (by kernel_rfl)
theorem ZFW (a0:Rows) (a1:Int) (a2 a3 a4 a5:Rows) (a6 a7 a8 a9:Int):callI tE ZB9 [.sl a0,.int a1,.sl a2,.sl a3,.sl a4,.sl a5,.int a6,.int a7,.int a8,.int a9]=(bif(fitM (0+(len a0)) 24)then(bif(fitM (0+(len a2)) 24)then(bif(fitM (0+(len a3)) 24)then(bif(fitM (0+(len a4)) 24)then(((callI tE Z9w [(.sl a5)])).bind (fun r0=>(some [(.sl a0),(.int a1),(.sl a2),(.sl a3),(.sl a4),(.sl (gl r0)),(.int a6),(.int a7),(.int a8),(.int a9)])))else none)else none)else none)else none):=(callI_run rfl (by kernel_rfl)).trans (by kernel_rfl)
noncomputable def Z6m (x0:Rows) (x1 x2:Int):Option (List Dat):=loopK tE Z8f 0 ⟨[(0,(.ro 105 Bool.false x0)),(3,(.i .i64 x1)),(4,(.i .i64 x2))],[]⟩
theorem Z8K (x0:Rows) (x1 x2:Int):Z6m x0 x1 x2=(bif(ltI x2 (lenI x0))then(bif(ltI x1 0)then(Z6m x0 x2 (w64 (x2+1)))else(bif(inR x2 (lenI x0))then(bif(inR x1 (lenI x0))then(((callI tE Z5j [(.int (gn (at' x0 (tn x2)))),(.int (gn (tk 1 (at' x0 (tn x2))))),(.int (gn (tk 2 (at' x0 (tn x2))))),(.int (gn (at' x0 (tn x1)))),(.int (gn (tk 1 (at' x0 (tn x1))))),(.int (gn (tk 2 (at' x0 (tn x1)))))])).bind (fun r0=>(bif(ltI (gn r0) 0)then(Z6m x0 x2 (w64 (x2+1)))else(Z6m x0 x1 (w64 (x2+1))))))else none)else none))else(some [(.int x1)])):=(loopK_run (by kernel_rfl)).trans (by kernel_rfl)
theorem ZDX (a0:Rows):callI tE Z8f [.sl a0]=(Z6m a0 (-1) 0):=(callI_run rfl (by kernel_rfl)).trans (by kernel_rfl)
theorem ZFX (a0:Rows) (a1:Int):callI tE ZBA [.sl a0,.int a1]=(bif((leI 0 a1)&&(leI a1 (lenI a0)))then(bif(fitM (0+(len (List.take (tn (a1-0)) (List.drop (tn 0) a0)))) 24)then(bif((leI 0 (w64 (a1+1)))&&(leI (w64 (a1+1)) (lenI a0)))then(bif(fitM ((len (List.take (tn (a1-0)) (List.drop (tn 0) a0)))+(len (List.take (tn ((lenI a0)-(w64 (a1+1)))) (List.drop (tn (w64 (a1+1))) a0)))) 24)then(some [(.sl (List.append (List.take (tn (a1-0)) (List.drop (tn 0) a0)) (List.take (tn ((lenI a0)-(w64 (a1+1)))) (List.drop (tn (w64 (a1+1))) a0))))])else none)else none)else none)else none):=(callI_run rfl (by kernel_rfl)).trans (by kernel_rfl)
theorem ZD5 (a0:Rows) (a1:Int) (a2 a3 a4 a5:Rows) (a6 a7 a8 a9:Int):callI tE ZAW [.sl a0,.int a1,.sl a2,.sl a3,.sl a4,.sl a5,.int a6,.int a7,.int a8,.int a9]=(bif(eqI (lenI a2) 0)then(bif(fitM (Nat.succ (len a5)) 24)then(some [(.sl a0),(.int a1),(.sl a3),(.sl []),(.sl []),(.sl (List.append a5 [[(.sl a4)]])),(.int a6),(.int a7),(.int a8),(.int a9)])else none)else(((callI tE Z8f [(.sl a2)])).bind (fun r0=>(bif(inR (gn r0) (lenI a2))then(((callI tE Z5r [(.int (gn (at' a2 (tn (gn r0))))),(.int (gn (tk 1 (at' a2 (tn (gn r0)))))),(.int (gn (tk 2 (at' a2 (tn (gn r0))))))])).bind (fun r1=>(bif(inR (gn r0) (lenI a2))then(bif(fitM (Nat.succ (len a4)) 24)then(((callI tE ZBA [(.sl a2),(.int (gn r0))])).bind (fun r2=>(some [(.sl a0),(.int a1),(.sl (gl r2)),(.sl a3),(.sl (List.append a4 [[(.int (gn (at' a2 (tn (gn r0))))),(.int (gn (tk 1 (at' a2 (tn (gn r0)))))),(.int (gn (tk 2 (at' a2 (tn (gn r0))))))]])),(.sl a5),(.int a6),(.int a7),(.int a8),(.int (w64 (a9+(gn r1))))])))else none)else none)))else none)))):=(callI_run rfl (by kernel_rfl)).trans (by kernel_rfl)
theorem ZFY (a0:Rows) (a1:Int) (a2 a3 a4 a5:Rows) (a6 a7 a8 a9:Int):callI tE Z6R [.sl a0,.int a1,.sl a2,.sl a3,.sl a4,.sl a5,.int a6,.int a7,.int a8,.int a9]=(bif(eqI (lenI a5) 1)then(bif(eqI (lenI a5) 0)then(some [(.sl a0),(.int a1),(.sl a2),(.sl a3),(.sl a4),(.sl a5),(.int 0),(.int 0),(.int 4),(.int a9)])else(some [(.sl a0),(.int a1),(.sl a2),(.sl a3),(.sl a4),(.sl a5),(.int 0),(.int 0),(.int 3),(.int a9)]))else(bif(eqI (lenI a5) 0)then(some [(.sl a0),(.int a1),(.sl a2),(.sl a3),(.sl a4),(.sl a5),(.int 0),(.int 0),(.int 4),(.int a9)])else(some [(.sl a0),(.int a1),(.sl a2),(.sl a3),(.sl a4),(.sl a5),(.int 0),(.int 0),(.int 2),(.int a9)]))):=(callI_run rfl (by kernel_rfl)).trans (by kernel_rfl)
theorem ZDY (a0:Rows) (a1:Int) (a2 a3 a4 a5:Rows) (a6 a7 a8 a9 a10:Int):callI tE Z8g [.sl a0,.int a1,.sl a2,.sl a3,.sl a4,.sl a5,.int a6,.int a7,.int a8,.int a9,.int a10]=(((callI tE ZB9 [(.sl a0),(.int a1),(.sl a2),(.sl a3),(.sl a4),(.sl a5),(.int a6),(.int a7),(.int a8),(.int a9)])).bind (fun r0=>(((callI tE Z6C [(.sl a0),(.int a1),(.sl a2),(.sl a3),(.sl a4),(.sl a5),(.int a6),(.int a7),(.int a8),(.int a9)])).bind (fun r1=>(bif(!(gb r1))then(some [(.sl (gl r0)),(.int (gn (tk 1 r0))),(.sl (gl (tk 2 r0))),(.sl (gl (tk 3 r0))),(.sl (gl (tk 4 r0))),(.sl (gl (tk 5 r0))),(.int (gn (tk 6 r0))),(.int (gn (tk 7 r0))),(.int (gn (tk 8 r0))),(.int (gn (tk 9 r0))),(.sl []),(.bool Bool.false)])else(((callI tE Z6v [(.int a10),(.int 8),(.int 60)])).bind (fun r2=>(bif(!(gb r2))then(some [(.sl (gl r0)),(.int (gn (tk 1 r0))),(.sl (gl (tk 2 r0))),(.sl (gl (tk 3 r0))),(.sl (gl (tk 4 r0))),(.sl (gl (tk 5 r0))),(.int (gn (tk 6 r0))),(.int (gn (tk 7 r0))),(.int (gn (tk 8 r0))),(.int (gn (tk 9 r0))),(.sl []),(.bool Bool.false)])else(bif(eqI a8 4)then(some [(.sl (gl r0)),(.int (gn (tk 1 r0))),(.sl (gl (tk 2 r0))),(.sl (gl (tk 3 r0))),(.sl (gl (tk 4 r0))),(.sl (gl (tk 5 r0))),(.int (gn (tk 6 r0))),(.int (gn (tk 7 r0))),(.int (gn (tk 8 r0))),(.int (gn (tk 9 r0))),(.sl []),(.bool Bool.false)])else(bif(eqI a8 1)then(bif(ltI a1 (lenI a0))then(((callI tE Z7B [(.sl a0),(.int a1),(.sl a2),(.sl a3),(.sl a4),(.sl a5),(.int a6),(.int a7),(.int a8),(.int a9)])).bind (fun r3=>(bif(inR a1 (lenI a0))then(((callI tE Z5r [(.int (gn (at' a0 (tn a1)))),(.int (gn (tk 1 (at' a0 (tn a1))))),(.int (gn (tk 2 (at' a0 (tn a1)))))])).bind (fun r4=>(bif(leI (w64 ((gn r3)+(gn r4))) a10)then(bif(inR a1 (lenI a0))then(bif(ltI 0 (lenI a4))then(bif(inR (w64 ((lenI a4)-1)) (lenI a4))then(((callI tE Z5j [(.int (gn (at' a0 (tn a1)))),(.int (gn (tk 1 (at' a0 (tn a1))))),(.int (gn (tk 2 (at' a0 (tn a1))))),(.int (gn (at' a4 (tn (w64 ((lenI a4)-1)))))),(.int (gn (tk 1 (at' a4 (tn (w64 ((lenI a4)-1))))))),(.int (gn (tk 2 (at' a4 (tn (w64 ((lenI a4)-1)))))))])).bind (fun r5=>(bif(ltI (gn r5) 0)then(bif(fitM (Nat.succ (len (gl (tk 3 r0)))) 24)then(some [(.sl (gl r0)),(.int (w64 (a1+1))),(.sl (gl (tk 2 r0))),(.sl (List.append (gl (tk 3 r0)) [[(.int (gn (at' a0 (tn a1)))),(.int (gn (tk 1 (at' a0 (tn a1))))),(.int (gn (tk 2 (at' a0 (tn a1)))))]])),(.sl (gl (tk 4 r0))),(.sl (gl (tk 5 r0))),(.int (gn (tk 6 r0))),(.int (gn (tk 7 r0))),(.int (gn (tk 8 r0))),(.int (gn (tk 9 r0))),(.sl []),(.bool Bool.true)])else none)else(bif(fitM (Nat.succ (len (gl (tk 2 r0)))) 24)then(some [(.sl (gl r0)),(.int (w64 (a1+1))),(.sl (List.append (gl (tk 2 r0)) [[(.int (gn (at' a0 (tn a1)))),(.int (gn (tk 1 (at' a0 (tn a1))))),(.int (gn (tk 2 (at' a0 (tn a1)))))]])),(.sl (gl (tk 3 r0))),(.sl (gl (tk 4 r0))),(.sl (gl (tk 5 r0))),(.int (gn (tk 6 r0))),(.int (gn (tk 7 r0))),(.int (gn (tk 8 r0))),(.int (gn (tk 9 r0))),(.sl []),(.bool Bool.true)])else none))))else none)else(bif(fitM (Nat.succ (len (gl (tk 2 r0)))) 24)then(some [(.sl (gl r0)),(.int (w64 (a1+1))),(.sl (List.append (gl (tk 2 r0)) [[(.int (gn (at' a0 (tn a1)))),(.int (gn (tk 1 (at' a0 (tn a1))))),(.int (gn (tk 2 (at' a0 (tn a1)))))]])),(.sl (gl (tk 3 r0))),(.sl (gl (tk 4 r0))),(.sl (gl (tk 5 r0))),(.int (gn (tk 6 r0))),(.int (gn (tk 7 r0))),(.int (gn (tk 8 r0))),(.int (gn (tk 9 r0))),(.sl []),(.bool Bool.true)])else none))else none)else(bif(ltI 0 (w64 ((lenI a2)+(lenI a3))))then(((callI tE ZAW [(.sl (gl r0)),(.int (gn (tk 1 r0))),(.sl (gl (tk 2 r0))),(.sl (gl (tk 3 r0))),(.sl (gl (tk 4 r0))),(.sl (gl (tk 5 r0))),(.int (gn (tk 6 r0))),(.int (gn (tk 7 r0))),(.int (gn (tk 8 r0))),(.int (gn (tk 9 r0)))])).bind (fun r5=>(some [(.sl (gl r5)),(.int (gn (tk 1 r5))),(.sl (gl (tk 2 r5))),(.sl (gl (tk 3 r5))),(.sl (gl (tk 4 r5))),(.sl (gl (tk 5 r5))),(.int (gn (tk 6 r5))),(.int (gn (tk 7 r5))),(.int (gn (tk 8 r5))),(.int (gn (tk 9 r5))),(.sl []),(.bool Bool.true)])))else(bif(ltI 0 (lenI a4))then(bif(fitM (Nat.succ (len (gl (tk 5 r0)))) 24)then(((callI tE Z6R [(.sl (gl r0)),(.int (gn (tk 1 r0))),(.sl (gl (tk 2 r0))),(.sl (gl (tk 3 r0))),(.sl []),(.sl (List.append (gl (tk 5 r0)) [[(.sl (gl (tk 4 r0)))]])),(.int (gn (tk 6 r0))),(.int (gn (tk 7 r0))),(.int (gn (tk 8 r0))),(.int (gn (tk 9 r0)))])).bind (fun r5=>(some [(.sl (gl r5)),(.int (gn (tk 1 r5))),(.sl (gl (tk 2 r5))),(.sl (gl (tk 3 r5))),(.sl (gl (tk 4 r5))),(.sl (gl (tk 5 r5))),(.int (gn (tk 6 r5))),(.int (gn (tk 7 r5))),(.int (gn (tk 8 r5))),(.int (gn (tk 9 r5))),(.sl []),(.bool Bool.true)])))else none)else(((callI tE Z6R [(.sl (gl r0)),(.int (gn (tk 1 r0))),(.sl (gl (tk 2 r0))),(.sl (gl (tk 3 r0))),(.sl (gl (tk 4 r0))),(.sl (gl (tk 5 r0))),(.int (gn (tk 6 r0))),(.int (gn (tk 7 r0))),(.int (gn (tk 8 r0))),(.int (gn (tk 9 r0)))])).bind (fun r5=>(some [(.sl (gl r5)),(.int (gn (tk 1 r5))),(.sl (gl (tk 2 r5))),(.sl (gl (tk 3 r5))),(.sl (gl (tk 4 r5))),(.sl (gl (tk 5 r5))),(.int (gn (tk 6 r5))),(.int (gn (tk 7 r5))),(.int (gn (tk 8 r5))),(.int (gn (tk 9 r5))),(.sl []),(.bool Bool.true)]))))))))else none)))else(bif(ltI 0 (w64 ((lenI a2)+(lenI a3))))then(((callI tE ZAW [(.sl (gl r0)),(.int (gn (tk 1 r0))),(.sl (gl (tk 2 r0))),(.sl (gl (tk 3 r0))),(.sl (gl (tk 4 r0))),(.sl (gl (tk 5 r0))),(.int (gn (tk 6 r0))),(.int (gn (tk 7 r0))),(.int (gn (tk 8 r0))),(.int (gn (tk 9 r0)))])).bind (fun r3=>(some [(.sl (gl r3)),(.int (gn (tk 1 r3))),(.sl (gl (tk 2 r3))),(.sl (gl (tk 3 r3))),(.sl (gl (tk 4 r3))),(.sl (gl (tk 5 r3))),(.int (gn (tk 6 r3))),(.int (gn (tk 7 r3))),(.int (gn (tk 8 r3))),(.int (gn (tk 9 r3))),(.sl []),(.bool Bool.true)])))else(bif(ltI 0 (lenI a4))then(bif(fitM (Nat.succ (len (gl (tk 5 r0)))) 24)then(((callI tE Z6R [(.sl (gl r0)),(.int (gn (tk 1 r0))),(.sl (gl (tk 2 r0))),(.sl (gl (tk 3 r0))),(.sl []),(.sl (List.append (gl (tk 5 r0)) [[(.sl (gl (tk 4 r0)))]])),(.int (gn (tk 6 r0))),(.int (gn (tk 7 r0))),(.int (gn (tk 8 r0))),(.int (gn (tk 9 r0)))])).bind (fun r3=>(some [(.sl (gl r3)),(.int (gn (tk 1 r3))),(.sl (gl (tk 2 r3))),(.sl (gl (tk 3 r3))),(.sl (gl (tk 4 r3))),(.sl (gl (tk 5 r3))),(.int (gn (tk 6 r3))),(.int (gn (tk 7 r3))),(.int (gn (tk 8 r3))),(.int (gn (tk 9 r3))),(.sl []),(.bool Bool.true)])))else none)else(((callI tE Z6R [(.sl (gl r0)),(.int (gn (tk 1 r0))),(.sl (gl (tk 2 r0))),(.sl (gl (tk 3 r0))),(.sl (gl (tk 4 r0))),(.sl (gl (tk 5 r0))),(.int (gn (tk 6 r0))),(.int (gn (tk 7 r0))),(.int (gn (tk 8 r0))),(.int (gn (tk 9 r0)))])).bind (fun r3=>(some [(.sl (gl r3)),(.int (gn (tk 1 r3))),(.sl (gl (tk 2 r3))),(.sl (gl (tk 3 r3))),(.sl (gl (tk 4 r3))),(.sl (gl (tk 5 r3))),(.int (gn (tk 6 r3))),(.int (gn (tk 7 r3))),(.int (gn (tk 8 r3))),(.int (gn (tk 9 r3))),(.sl []),(.bool Bool.true)]))))))else(bif(eqI a8 2)then(((callI tE Z6T [(.sl a5),(.int 0),(.int a6)])).bind (fun r3=>(((callI tE Z6T [(.sl a5),(.int 1),(.int a7)])).bind (fun r4=>(bif(eqI (w64 ((lenI (gl r3))+(lenI (gl r4)))) 0)then(bif((leI 0 2)&&(leI 2 (lenI (gl (tk 5 r0)))))then(bif(fitM (Nat.succ (len (List.take (tn ((lenI (gl (tk 5 r0)))-2)) (List.drop (tn 2) (gl (tk 5 r0)))))) 24)then(((callI tE Z6R [(.sl (gl r0)),(.int (gn (tk 1 r0))),(.sl (gl (tk 2 r0))),(.sl (gl (tk 3 r0))),(.sl []),(.sl (List.append (List.take (tn ((lenI (gl (tk 5 r0)))-2)) (List.drop (tn 2) (gl (tk 5 r0)))) [[(.sl (gl (tk 4 r0)))]])),(.int (gn (tk 6 r0))),(.int (gn (tk 7 r0))),(.int (gn (tk 8 r0))),(.int (gn (tk 9 r0)))])).bind (fun r5=>(some [(.sl (gl r5)),(.int (gn (tk 1 r5))),(.sl (gl (tk 2 r5))),(.sl (gl (tk 3 r5))),(.sl (gl (tk 4 r5))),(.sl (gl (tk 5 r5))),(.int (gn (tk 6 r5))),(.int (gn (tk 7 r5))),(.int (gn (tk 8 r5))),(.int (gn (tk 9 r5))),(.sl []),(.bool Bool.true)])))else none)else none)else(bif(eqI (lenI (gl r4)) 0)then(bif(inR 0 (lenI (gl r3)))then(bif(fitM (Nat.succ (len (gl (tk 4 r0)))) 24)then(bif(inR 0 (lenI (gl r3)))then(((callI tE Z5r [(.int (gn (at' (gl r3) (tn 0)))),(.int (gn (tk 1 (at' (gl r3) (tn 0))))),(.int (gn (tk 2 (at' (gl r3) (tn 0)))))])).bind (fun r5=>(some [(.sl (gl r0)),(.int (gn (tk 1 r0))),(.sl (gl (tk 2 r0))),(.sl (gl (tk 3 r0))),(.sl (List.append (gl (tk 4 r0)) [[(.int (gn (at' (gl r3) (tn 0)))),(.int (gn (tk 1 (at' (gl r3) (tn 0))))),(.int (gn (tk 2 (at' (gl r3) (tn 0)))))]])),(.sl (gl (tk 5 r0))),(.int (w64 (a6+1))),(.int (gn (tk 7 r0))),(.int (gn (tk 8 r0))),(.int (w64 ((gn (tk 9 r0))+(gn r5)))),(.sl []),(.bool Bool.true)])))else none)else none)else none)else(bif(ltI 0 (lenI (gl r3)))then(bif(inR 0 (lenI (gl r3)))then(bif(inR 0 (lenI (gl r4)))then(((callI tE Z5j [(.int (gn (at' (gl r3) (tn 0)))),(.int (gn (tk 1 (at' (gl r3) (tn 0))))),(.int (gn (tk 2 (at' (gl r3) (tn 0))))),(.int (gn (at' (gl r4) (tn 0)))),(.int (gn (tk 1 (at' (gl r4) (tn 0))))),(.int (gn (tk 2 (at' (gl r4) (tn 0)))))])).bind (fun r5=>(bif(leI (gn r5) 0)then(bif(inR 0 (lenI (gl r3)))then(bif(fitM (Nat.succ (len (gl (tk 4 r0)))) 24)then(bif(inR 0 (lenI (gl r3)))then(((callI tE Z5r [(.int (gn (at' (gl r3) (tn 0)))),(.int (gn (tk 1 (at' (gl r3) (tn 0))))),(.int (gn (tk 2 (at' (gl r3) (tn 0)))))])).bind (fun r6=>(some [(.sl (gl r0)),(.int (gn (tk 1 r0))),(.sl (gl (tk 2 r0))),(.sl (gl (tk 3 r0))),(.sl (List.append (gl (tk 4 r0)) [[(.int (gn (at' (gl r3) (tn 0)))),(.int (gn (tk 1 (at' (gl r3) (tn 0))))),(.int (gn (tk 2 (at' (gl r3) (tn 0)))))]])),(.sl (gl (tk 5 r0))),(.int (w64 (a6+1))),(.int (gn (tk 7 r0))),(.int (gn (tk 8 r0))),(.int (w64 ((gn (tk 9 r0))+(gn r6)))),(.sl []),(.bool Bool.true)])))else none)else none)else none)else(bif(inR 0 (lenI (gl r4)))then(bif(fitM (Nat.succ (len (gl (tk 4 r0)))) 24)then(bif(inR 0 (lenI (gl r4)))then(((callI tE Z5r [(.int (gn (at' (gl r4) (tn 0)))),(.int (gn (tk 1 (at' (gl r4) (tn 0))))),(.int (gn (tk 2 (at' (gl r4) (tn 0)))))])).bind (fun r6=>(some [(.sl (gl r0)),(.int (gn (tk 1 r0))),(.sl (gl (tk 2 r0))),(.sl (gl (tk 3 r0))),(.sl (List.append (gl (tk 4 r0)) [[(.int (gn (at' (gl r4) (tn 0)))),(.int (gn (tk 1 (at' (gl r4) (tn 0))))),(.int (gn (tk 2 (at' (gl r4) (tn 0)))))]])),(.sl (gl (tk 5 r0))),(.int (gn (tk 6 r0))),(.int (w64 (a7+1))),(.int (gn (tk 8 r0))),(.int (w64 ((gn (tk 9 r0))+(gn r6)))),(.sl []),(.bool Bool.true)])))else none)else none)else none))))else none)else none)else(bif(inR 0 (lenI (gl r4)))then(bif(fitM (Nat.succ (len (gl (tk 4 r0)))) 24)then(bif(inR 0 (lenI (gl r4)))then(((callI tE Z5r [(.int (gn (at' (gl r4) (tn 0)))),(.int (gn (tk 1 (at' (gl r4) (tn 0))))),(.int (gn (tk 2 (at' (gl r4) (tn 0)))))])).bind (fun r5=>(some [(.sl (gl r0)),(.int (gn (tk 1 r0))),(.sl (gl (tk 2 r0))),(.sl (gl (tk 3 r0))),(.sl (List.append (gl (tk 4 r0)) [[(.int (gn (at' (gl r4) (tn 0)))),(.int (gn (tk 1 (at' (gl r4) (tn 0))))),(.int (gn (tk 2 (at' (gl r4) (tn 0)))))]])),(.sl (gl (tk 5 r0))),(.int (gn (tk 6 r0))),(.int (w64 (a7+1))),(.int (gn (tk 8 r0))),(.int (w64 ((gn (tk 9 r0))+(gn r5)))),(.sl []),(.bool Bool.true)])))else none)else none)else none))))))))else(bif(eqI (w64 (a6+1)) (lenI a0))then(bif(inR 0 (lenI a5))then(bif(inR a6 (lenI (gl (at' a5 (tn 0)))))then(some [(.sl (gl r0)),(.int (gn (tk 1 r0))),(.sl (gl (tk 2 r0))),(.sl (gl (tk 3 r0))),(.sl (gl (tk 4 r0))),(.sl (gl (tk 5 r0))),(.int (w64 (a6+1))),(.int (gn (tk 7 r0))),(.int 4),(.int (gn (tk 9 r0))),(.sl [[(.int (gn (at' (gl (at' a5 (tn 0))) (tn a6)))),(.int (gn (tk 1 (at' (gl (at' a5 (tn 0))) (tn a6))))),(.int (gn (tk 2 (at' (gl (at' a5 (tn 0))) (tn a6)))))]]),(.bool Bool.true)])else none)else none)else(bif(inR 0 (lenI a5))then(bif(inR a6 (lenI (gl (at' a5 (tn 0)))))then(some [(.sl (gl r0)),(.int (gn (tk 1 r0))),(.sl (gl (tk 2 r0))),(.sl (gl (tk 3 r0))),(.sl (gl (tk 4 r0))),(.sl (gl (tk 5 r0))),(.int (w64 (a6+1))),(.int (gn (tk 7 r0))),(.int (gn (tk 8 r0))),(.int (gn (tk 9 r0))),(.sl [[(.int (gn (at' (gl (at' a5 (tn 0))) (tn a6)))),(.int (gn (tk 1 (at' (gl (at' a5 (tn 0))) (tn a6))))),(.int (gn (tk 2 (at' (gl (at' a5 (tn 0))) (tn a6)))))]]),(.bool Bool.true)])else none)else none))))))))))))):=(callI_run rfl (by kernel_rfl)).trans (by kernel_rfl)
noncomputable def Z63 (x0:Rows) (x1 x2:Int) (x3:ByteArray) (x4:Bool) (x5 x6 x7 x8 x9 x10:Int) (x11 x12 x13 x14 x15 x16:Rows):Option (List Dat):=loopK tE Z6K 0 ⟨[(1,(.ro 3 Bool.false x0)),(2,(.i .i64 x1)),(10,(.ptr (500000,0) x2 0)),(11,(.s x3)),(12,(.b x4)),(13,(.i .i64 x5))],[((500000,0),(.box 42 [(.own (500001,0)),(.i .i64 x6),(.own (500002,0)),(.own (500003,0)),(.own (500004,0)),(.own (500005,0)),(.i .i64 x7),(.i .i64 x8),(.i .i64 x9),(.i .i64 x10),(.own (500006,0))])),((500001,0),(.row 105 x11 Bool.true 0 [])),((500002,0),(.row 105 x12 Bool.true 0 [])),((500003,0),(.row 105 x13 Bool.true 0 [])),((500004,0),(.row 105 x14 Bool.true 0 [])),((500005,0),(.row 169 x15 Bool.true 0 [])),((500006,0),(.row 105 x16 Bool.true 0 []))]⟩
theorem Z5q (x0:Rows) (x1 x2:Int) (x3:ByteArray) (x4:Bool) (x5 x6 x7 x8 x9 x10:Int) (x11 x12 x13 x14 x15 x16:Rows):Z63 x0 x1 x2 x3 x4 x5 x6 x7 x8 x9 x10 x11 x12 x13 x14 x15 x16=(bif(!(eqI x9 4))then(bif x4 then(bif(!(eqI (lenI x0) 0))then(bif(inR (Int.tmod x5 (lenI x0)) (lenI x0))then(((callI tE Z8g [(.sl x11),(.int x6),(.sl x12),(.sl x13),(.sl x14),(.sl x15),(.int x7),(.int x8),(.int x9),(.int x10),(.int (gn (at' x0 (tn (Int.tmod x5 (lenI x0))))))])).bind (fun r0=>(bif(fitM ((len x16)+(len (gl (tk 10 r0)))) 24)then(bif(!(eqI x1 0))then(bif(eqI (Int.tmod x5 x1) (w64 (x1-1)))then(((callI tE Z6U [(.sl (gl r0)),(.int (gn (tk 1 r0))),(.sl (gl (tk 2 r0))),(.sl (gl (tk 3 r0))),(.sl (gl (tk 4 r0))),(.sl (gl (tk 5 r0))),(.int (gn (tk 6 r0))),(.int (gn (tk 7 r0))),(.int (gn (tk 8 r0))),(.int (gn (tk 9 r0))),(.sl (List.append x16 (gl (tk 10 r0))))])).bind (fun r1=>(((callI tE Z80 [(.str x3),(.str (gs r1))])).bind (fun r2=>(Z63 x0 x1 x2 (gs r2) (gb (tk 1 r2)) (w64 (x5+1)) (gn (tk 1 r0)) (gn (tk 6 r0)) (gn (tk 7 r0)) (gn (tk 8 r0)) (gn (tk 9 r0)) (gl r0) (gl (tk 2 r0)) (gl (tk 3 r0)) (gl (tk 4 r0)) (gl (tk 5 r0)) (List.append x16 (gl (tk 10 r0))))))))else(Z63 x0 x1 x2 x3 x4 (w64 (x5+1)) (gn (tk 1 r0)) (gn (tk 6 r0)) (gn (tk 7 r0)) (gn (tk 8 r0)) (gn (tk 9 r0)) (gl r0) (gl (tk 2 r0)) (gl (tk 3 r0)) (gl (tk 4 r0)) (gl (tk 5 r0)) (List.append x16 (gl (tk 10 r0)))))else none)else none)))else none)else none)else(some [(.str x3),(.bool x4)]))else(some [(.str x3),(.bool x4)])):=(loopK_run (by kernel_rfl)).trans (by kernel_rfl)
theorem ZBC (a0 a1:Rows) (a2:Int):callI tE Z6K [.sl a0,.sl a1,.int a2]=(((callI tE Z94 [(.sl a0)])).bind (fun r0=>(bif(!(gb (tk 10 r0)))then(some [(.str (S [])),(.bool Bool.false)])else(((callI tE Z8A [(.sl a1)])).bind (fun r1=>(bif(!(gb r1))then(some [(.str (S [])),(.bool Bool.false)])else(((callI tE Z6v [(.int a2),(.int 1),(.int 100)])).bind (fun r2=>(bif(!(gb r2))then(some [(.str (S [])),(.bool Bool.false)])else(((callI tE Z6U [(.sl (gl r0)),(.int (gn (tk 1 r0))),(.sl (gl (tk 2 r0))),(.sl (gl (tk 3 r0))),(.sl (gl (tk 4 r0))),(.sl (gl (tk 5 r0))),(.int (gn (tk 6 r0))),(.int (gn (tk 7 r0))),(.int (gn (tk 8 r0))),(.int (gn (tk 9 r0))),(.sl [])])).bind (fun r3=>(((callI tE Z80 [(.str (S [])),(.str (gs r3))])).bind (fun r4=>(Z63 a1 a2 0 (gs r4) (gb (tk 1 r4)) 0 (gn (tk 1 r0)) (gn (tk 6 r0)) (gn (tk 7 r0)) (gn (tk 8 r0)) (gn (tk 9 r0)) (gl r0) (gl (tk 2 r0)) (gl (tk 3 r0)) (gl (tk 4 r0)) (gl (tk 5 r0)) [])))))))))))))):=(callI_run rfl (by kernel_rfl)).trans (by kernel_rfl)
noncomputable def Z8R (x0 x1:Int) (x2 x3:Rows):Option (List Dat):=loopK tE Z95 0 ⟨[(4,(.own (500000,0))),(13,(.own (500001,0))),(14,(.i .i64 x0)),(15,(.i .i64 x1))],[((500000,0),(.row 169 x2 Bool.true 0 [])),((500001,0),(.row 9 x3 Bool.true 0 []))]⟩
theorem ZAB (x0 x1:Int) (x2 x3:Rows):Z8R x0 x1 x2 x3=(bif(ltI x1 x0)then(bif(inR x1 (lenI x3))then(((callI tE Z7H [(.str (gs (at' x3 (tn x1))))])).bind (fun r0=>(bif(!(gb (tk 1 r0)))then(some [(.sl []),(.bool Bool.false)])else(bif(fitM (Nat.succ (len x2)) 24)then(Z8R x0 (w64 (x1+1)) (List.append x2 [[(.sl (gl r0))]]) x3)else none))))else none)else(some [(.sl x2),(.bool Bool.true)])):=(loopK_run (by kernel_rfl)).trans (by kernel_rfl)
theorem ZEE (a0:ByteArray):callI tE Z95 [.str a0]=(bif(eqS a0 (S []))then(some [(.sl []),(.bool Bool.true)])else(((callI tE Z9B [(.str a0),(.int 124)])).bind (fun r0=>(Z8R (lenI (gl r0)) 0 [] (gl r0))))):=(callI_run rfl (by kernel_rfl)).trans (by kernel_rfl)
theorem ZD6 (a0:ByteArray):callI tE Z9N [.str a0]=(((callI tE Z9B [(.str a0),(.int 47)])).bind (fun r0=>(bif(!(eqI (lenI (gl r0)) 10))then(some [(.sl []),(.int 0),(.sl []),(.sl []),(.sl []),(.sl []),(.int 0),(.int 0),(.int 0),(.int 0),(.bool Bool.false)])else(bif(inR 0 (lenI (gl r0)))then(((callI tE Z6Y [(.bool Bool.true),(.str (gs (at' (gl r0) (tn 0))))])).bind (fun r1=>(bif(inR 1 (lenI (gl r0)))then(((callI tE Z6D [(.bool (gb (List.drop 1 r1))),(.str (gs (at' (gl r0) (tn 1))))])).bind (fun r2=>(bif(inR 2 (lenI (gl r0)))then(((callI tE Z6Y [(.bool (gb (List.drop 1 r2))),(.str (gs (at' (gl r0) (tn 2))))])).bind (fun r3=>(bif(inR 3 (lenI (gl r0)))then(((callI tE Z6Y [(.bool (gb (List.drop 1 r3))),(.str (gs (at' (gl r0) (tn 3))))])).bind (fun r4=>(bif(inR 4 (lenI (gl r0)))then(((callI tE Z6Y [(.bool (gb (List.drop 1 r4))),(.str (gs (at' (gl r0) (tn 4))))])).bind (fun r5=>(bif(inR 5 (lenI (gl r0)))then(((callI tE Z95 [(.str (gs (at' (gl r0) (tn 5))))])).bind (fun r6=>(bif(inR 6 (lenI (gl r0)))then(((callI tE Z6D [(.bool (gb (List.drop 1 r5))),(.str (gs (at' (gl r0) (tn 6))))])).bind (fun r7=>(bif(inR 7 (lenI (gl r0)))then(((callI tE Z6D [(.bool (gb (List.drop 1 r7))),(.str (gs (at' (gl r0) (tn 7))))])).bind (fun r8=>(bif(inR 8 (lenI (gl r0)))then(((callI tE Z6D [(.bool (gb (List.drop 1 r8))),(.str (gs (at' (gl r0) (tn 8))))])).bind (fun r9=>(bif(inR 9 (lenI (gl r0)))then(((callI tE Z6D [(.bool (gb (List.drop 1 r9))),(.str (gs (at' (gl r0) (tn 9))))])).bind (fun r10=>(bif(!(gb (List.drop 1 r10)))then(some [(.sl []),(.int 0),(.sl []),(.sl []),(.sl []),(.sl []),(.int 0),(.int 0),(.int 0),(.int 0),(.bool Bool.false)])else(bif(!(gb (tk 1 r6)))then(some [(.sl []),(.int 0),(.sl []),(.sl []),(.sl []),(.sl []),(.int 0),(.int 0),(.int 0),(.int 0),(.bool Bool.false)])else(((callI tE Z5t [(.sl (gl r1)),(.int (gn r2)),(.sl (gl r3)),(.sl (gl r4)),(.sl (gl r5)),(.sl (gl r6)),(.int (gn r7)),(.int (gn r8)),(.int (gn r9)),(.int (gn r10))])).bind (fun r11=>(bif(!(gb r11))then(some [(.sl []),(.int 0),(.sl []),(.sl []),(.sl []),(.sl []),(.int 0),(.int 0),(.int 0),(.int 0),(.bool Bool.false)])else(((callI tE Z7y [(.sl (gl r1)),(.int (gn r2)),(.sl (gl r3)),(.sl (gl r4)),(.sl (gl r5)),(.sl (gl r6)),(.int (gn r7)),(.int (gn r8)),(.int (gn r9)),(.int (gn r10))])).bind (fun r12=>(bif(!(eqS (gs r12) a0))then(some [(.sl []),(.int 0),(.sl []),(.sl []),(.sl []),(.sl []),(.int 0),(.int 0),(.int 0),(.int 0),(.bool Bool.false)])else(some [(.sl (gl r1)),(.int (gn r2)),(.sl (gl r3)),(.sl (gl r4)),(.sl (gl r5)),(.sl (gl r6)),(.int (gn r7)),(.int (gn r8)),(.int (gn r9)),(.int (gn r10)),(.bool Bool.true)])))))))))))else none)))else none)))else none)))else none)))else none)))else none)))else none)))else none)))else none)))else none)))):=(callI_run rfl (by kernel_rfl)).trans (by kernel_rfl)
theorem ZBr (a0:ByteArray):callI tE Z8F [.str a0]=(((callI tE Z9B [(.str a0),(.int 33)])).bind (fun r0=>(bif(!(eqI (lenI (gl r0)) 2))then(some [(.sl []),(.int 0),(.sl []),(.sl []),(.sl []),(.sl []),(.int 0),(.int 0),(.int 0),(.int 0),(.sl []),(.bool Bool.false)])else(bif(inR 0 (lenI (gl r0)))then(((callI tE Z9N [(.str (gs (at' (gl r0) (tn 0))))])).bind (fun r1=>(bif(inR 1 (lenI (gl r0)))then(((callI tE Z7H [(.str (gs (at' (gl r0) (tn 1))))])).bind (fun r2=>(bif(!(gb (tk 10 r1)))then(some [(.sl []),(.int 0),(.sl []),(.sl []),(.sl []),(.sl []),(.int 0),(.int 0),(.int 0),(.int 0),(.sl []),(.bool Bool.false)])else(bif(!(gb (tk 1 r2)))then(some [(.sl []),(.int 0),(.sl []),(.sl []),(.sl []),(.sl []),(.int 0),(.int 0),(.int 0),(.int 0),(.sl []),(.bool Bool.false)])else(((callI tE Z6s [(.sl (gl r1)),(.int (gn (tk 1 r1))),(.sl (gl (tk 2 r1))),(.sl (gl (tk 3 r1))),(.sl (gl (tk 4 r1))),(.sl (gl (tk 5 r1))),(.int (gn (tk 6 r1))),(.int (gn (tk 7 r1))),(.int (gn (tk 8 r1))),(.int (gn (tk 9 r1))),(.sl (gl r2))])).bind (fun r3=>(bif(!(gb r3))then(some [(.sl []),(.int 0),(.sl []),(.sl []),(.sl []),(.sl []),(.int 0),(.int 0),(.int 0),(.int 0),(.sl []),(.bool Bool.false)])else(some [(.sl (gl r1)),(.int (gn (tk 1 r1))),(.sl (gl (tk 2 r1))),(.sl (gl (tk 3 r1))),(.sl (gl (tk 4 r1))),(.sl (gl (tk 5 r1))),(.int (gn (tk 6 r1))),(.int (gn (tk 7 r1))),(.int (gn (tk 8 r1))),(.int (gn (tk 9 r1))),(.sl (gl r2)),(.bool Bool.true)]))))))))else none)))else none)))):=(callI_run rfl (by kernel_rfl)).trans (by kernel_rfl)
noncomputable def Z5m (x0:ByteArray) (x1 x2 x3 x4 x5 x6 x7 x8:Int) (x9:Rows) (x10 x11 x12 x13 x14:Int) (x15 x16 x17 x18 x19 x20 x21 x22 x23 x24 x25:Rows):Option (List Dat):=loopK tE Z8N 0 ⟨[(0,(.s x0)),(2,(.ptr (500000,0) x1 0)),(4,(.own (500001,0))),(5,(.ptr (500002,0) x2 0)),(6,(.own (500003,0))),(7,(.i .i64 x3))],[((500000,0),(.box 40 [(.own (500004,0)),(.i .i64 x4),(.own (500005,0)),(.own (500006,0)),(.own (500007,0)),(.own (500008,0)),(.i .i64 x5),(.i .i64 x6),(.i .i64 x7),(.i .i64 x8)])),((500001,0),(.row 9 x9 Bool.true 0 [])),((500002,0),(.box 40 [(.own (500009,0)),(.i .i64 x10),(.own (500010,0)),(.own (500011,0)),(.own (500012,0)),(.own (500013,0)),(.i .i64 x11),(.i .i64 x12),(.i .i64 x13),(.i .i64 x14)])),((500003,0),(.row 9 x15 Bool.true 0 [])),((500004,0),(.row 105 x16 Bool.true 0 [])),((500005,0),(.row 105 x17 Bool.true 0 [])),((500006,0),(.row 105 x18 Bool.true 0 [])),((500007,0),(.row 105 x19 Bool.true 0 [])),((500008,0),(.row 169 x20 Bool.true 0 [])),((500009,0),(.row 105 x21 Bool.true 0 [])),((500010,0),(.row 105 x22 Bool.true 0 [])),((500011,0),(.row 105 x23 Bool.true 0 [])),((500012,0),(.row 105 x24 Bool.true 0 [])),((500013,0),(.row 169 x25 Bool.true 0 []))]⟩
theorem Z9W (x0:ByteArray) (x1 x2 x3 x4 x5 x6 x7 x8:Int) (x9:Rows) (x10 x11 x12 x13 x14:Int) (x15 x16 x17 x18 x19 x20 x21 x22 x23 x24 x25:Rows):Z5m x0 x1 x2 x3 x4 x5 x6 x7 x8 x9 x10 x11 x12 x13 x14 x15 x16 x17 x18 x19 x20 x21 x22 x23 x24 x25=(bif(ltI x3 (lenI x15))then(bif(inR 5 (lenI x9))then(bif(!(eqS (gs (at' x9 (tn 5))) (S [])))then(bif(inR x3 (lenI x15))then(((callI tE Z65 [(.str (gs (at' x15 (tn x3))))])).bind (fun r0=>(bif(fitM (Nat.succ (len x25)) 24)then(Z5m x0 x1 x2 (w64 (x3+1)) x4 x5 x6 x7 x8 x9 x10 x11 x12 x13 x14 x15 x16 x17 x18 x19 x20 x21 x22 x23 x24 (List.append x25 [[(.sl (gl r0))]]))else none)))else none)else(bif(inR 6 (lenI x9))then(((callI tE Z5W [(.str (gs (at' x9 (tn 6))))])).bind (fun r0=>(bif(inR 7 (lenI x9))then(((callI tE Z5W [(.str (gs (at' x9 (tn 7))))])).bind (fun r1=>(bif(inR 8 (lenI x9))then(((callI tE Z5W [(.str (gs (at' x9 (tn 8))))])).bind (fun r2=>(bif(inR 9 (lenI x9))then(((callI tE Z5W [(.str (gs (at' x9 (tn 9))))])).bind (fun r3=>(((callI tE Z6g [(.sl x21),(.int x10),(.sl x22),(.sl x23),(.sl x24),(.sl x25),(.int (gn r0)),(.int (gn r1)),(.int (gn r2)),(.int (gn r3))])).bind (fun r4=>(bif(!(eqS (gs r4) x0))then(some [(.sl []),(.int 0),(.sl []),(.sl []),(.sl []),(.sl []),(.int 0),(.int 0),(.int 0),(.int 0),(.bool Bool.false)])else(some [(.sl x21),(.int x10),(.sl x22),(.sl x23),(.sl x24),(.sl x25),(.int (gn r0)),(.int (gn r1)),(.int (gn r2)),(.int (gn r3)),(.bool Bool.true)]))))))else none)))else none)))else none)))else none))else none)else(bif(inR 6 (lenI x9))then(((callI tE Z5W [(.str (gs (at' x9 (tn 6))))])).bind (fun r0=>(bif(inR 7 (lenI x9))then(((callI tE Z5W [(.str (gs (at' x9 (tn 7))))])).bind (fun r1=>(bif(inR 8 (lenI x9))then(((callI tE Z5W [(.str (gs (at' x9 (tn 8))))])).bind (fun r2=>(bif(inR 9 (lenI x9))then(((callI tE Z5W [(.str (gs (at' x9 (tn 9))))])).bind (fun r3=>(((callI tE Z6g [(.sl x21),(.int x10),(.sl x22),(.sl x23),(.sl x24),(.sl x25),(.int (gn r0)),(.int (gn r1)),(.int (gn r2)),(.int (gn r3))])).bind (fun r4=>(bif(!(eqS (gs r4) x0))then(some [(.sl []),(.int 0),(.sl []),(.sl []),(.sl []),(.sl []),(.int 0),(.int 0),(.int 0),(.int 0),(.bool Bool.false)])else(some [(.sl x21),(.int x10),(.sl x22),(.sl x23),(.sl x24),(.sl x25),(.int (gn r0)),(.int (gn r1)),(.int (gn r2)),(.int (gn r3)),(.bool Bool.true)]))))))else none)))else none)))else none)))else none)):=(loopK_run (by kernel_rfl)).trans (by kernel_rfl)
theorem ZD7 (a0:ByteArray):callI tE Z8N [.str a0]=(((callI tE Z7N [(.str a0),(.int 47)])).bind (fun r0=>(bif(!(eqI (lenI (gl r0)) 10))then(some [(.sl []),(.int 0),(.sl []),(.sl []),(.sl []),(.sl []),(.int 0),(.int 0),(.int 0),(.int 0),(.bool Bool.false)])else(bif(inR 0 (lenI (gl r0)))then(((callI tE Z65 [(.str (gs (at' (gl r0) (tn 0))))])).bind (fun r1=>(bif(inR 1 (lenI (gl r0)))then(((callI tE Z5W [(.str (gs (at' (gl r0) (tn 1))))])).bind (fun r2=>(bif(inR 2 (lenI (gl r0)))then(((callI tE Z65 [(.str (gs (at' (gl r0) (tn 2))))])).bind (fun r3=>(bif(inR 3 (lenI (gl r0)))then(((callI tE Z65 [(.str (gs (at' (gl r0) (tn 3))))])).bind (fun r4=>(bif(inR 4 (lenI (gl r0)))then(((callI tE Z65 [(.str (gs (at' (gl r0) (tn 4))))])).bind (fun r5=>(bif(inR 5 (lenI (gl r0)))then(((callI tE Z7N [(.str (gs (at' (gl r0) (tn 5)))),(.int 124)])).bind (fun r6=>(Z5m a0 0 0 0 0 0 0 0 0 (gl r0) (gn r2) 0 0 0 0 (gl r6) [] [] [] [] [] (gl r1) (gl r3) (gl r4) (gl r5) [])))else none)))else none)))else none)))else none)))else none)))else none)))):=(callI_run rfl (by kernel_rfl)).trans (by kernel_rfl)
theorem ZBs (a0:ByteArray):callI tE Z8G [.str a0]=(((callI tE Z7N [(.str a0),(.int 33)])).bind (fun r0=>(bif(!(eqI (lenI (gl r0)) 2))then(some [(.sl []),(.int 0),(.sl []),(.sl []),(.sl []),(.sl []),(.int 0),(.int 0),(.int 0),(.int 0),(.sl []),(.bool Bool.false)])else(bif(inR 0 (lenI (gl r0)))then(((callI tE Z8N [(.str (gs (at' (gl r0) (tn 0))))])).bind (fun r1=>(bif(inR 1 (lenI (gl r0)))then(((callI tE Z65 [(.str (gs (at' (gl r0) (tn 1))))])).bind (fun r2=>(((callI tE Z6U [(.sl (gl r1)),(.int (gn (tk 1 r1))),(.sl (gl (tk 2 r1))),(.sl (gl (tk 3 r1))),(.sl (gl (tk 4 r1))),(.sl (gl (tk 5 r1))),(.int (gn (tk 6 r1))),(.int (gn (tk 7 r1))),(.int (gn (tk 8 r1))),(.int (gn (tk 9 r1))),(.sl (gl r2))])).bind (fun r3=>(bif(!(eqS (gs r3) a0))then(some [(.sl []),(.int 0),(.sl []),(.sl []),(.sl []),(.sl []),(.int 0),(.int 0),(.int 0),(.int 0),(.sl []),(.bool Bool.false)])else(some [(.sl (gl r1)),(.int (gn (tk 1 r1))),(.sl (gl (tk 2 r1))),(.sl (gl (tk 3 r1))),(.sl (gl (tk 4 r1))),(.sl (gl (tk 5 r1))),(.int (gn (tk 6 r1))),(.int (gn (tk 7 r1))),(.int (gn (tk 8 r1))),(.int (gn (tk 9 r1))),(.sl (gl r2)),(.bool Bool.true)]))))))else none)))else none)))):=(callI_run rfl (by kernel_rfl)).trans (by kernel_rfl)
noncomputable def Z6n (x0:Rows) (x1 x2 x3 x4 x5 x6 x7:Int) (x8 x9 x10 x11 x12 x13 x14:Rows):Option (List Dat):=loopK tE Z8i 0 ⟨[(2,(.ro 3 Bool.false x0)),(10,(.ptr (500000,0) x1 0)),(15,(.own (500001,0))),(16,(.i .i64 x2))],[((500000,0),(.box 42 [(.own (500002,0)),(.i .i64 x3),(.own (500003,0)),(.own (500004,0)),(.own (500005,0)),(.own (500006,0)),(.i .i64 x4),(.i .i64 x5),(.i .i64 x6),(.i .i64 x7),(.own (500007,0))])),((500001,0),(.row 105 x8 Bool.true 0 [])),((500002,0),(.row 105 x9 Bool.true 0 [])),((500003,0),(.row 105 x10 Bool.true 0 [])),((500004,0),(.row 105 x11 Bool.true 0 [])),((500005,0),(.row 105 x12 Bool.true 0 [])),((500006,0),(.row 169 x13 Bool.true 0 [])),((500007,0),(.row 105 x14 Bool.true 0 []))]⟩
theorem Z8L (x0:Rows) (x1 x2 x3 x4 x5 x6 x7:Int) (x8 x9 x10 x11 x12 x13 x14:Rows):Z6n x0 x1 x2 x3 x4 x5 x6 x7 x8 x9 x10 x11 x12 x13 x14=(bif(!(eqI x6 4))then(bif(!(eqI (lenI x0) 0))then(bif(inR (Int.tmod x2 (lenI x0)) (lenI x0))then(((callI tE Z8g [(.sl x9),(.int x3),(.sl x10),(.sl x11),(.sl x12),(.sl x13),(.int x4),(.int x5),(.int x6),(.int x7),(.int (gn (at' x0 (tn (Int.tmod x2 (lenI x0))))))])).bind (fun r0=>(bif(fitM ((len x8)+(len (gl (tk 10 r0)))) 24)then(Z6n x0 x1 (w64 (x2+1)) (gn (tk 1 r0)) (gn (tk 6 r0)) (gn (tk 7 r0)) (gn (tk 8 r0)) (gn (tk 9 r0)) (List.append x8 (gl (tk 10 r0))) (gl r0) (gl (tk 2 r0)) (gl (tk 3 r0)) (gl (tk 4 r0)) (gl (tk 5 r0)) x14)else none)))else none)else none)else(some [(.sl x8),(.bool Bool.true)])):=(loopK_run (by kernel_rfl)).trans (by kernel_rfl)
theorem ZDZ (a0:ByteArray) (a1 a2:Rows):callI tE Z8i [.str a0,.sl a1,.sl a2]=(((callI tE Z94 [(.sl a1)])).bind (fun r0=>(bif(!(gb (tk 10 r0)))then(some [(.sl []),(.bool Bool.false)])else(((callI tE Z8A [(.sl a2)])).bind (fun r1=>(bif(!(gb r1))then(some [(.sl []),(.bool Bool.false)])else(((callI tE Z9i [(.str a0)])).bind (fun r2=>(bif(gb (tk 1 r2))then(((callI tE Z8G [(.str (gs r2))])).bind (fun r3=>(bif(!(gb (tk 11 r3)))then(some [(.sl []),(.bool Bool.false)])else(((callI tE Z81 [(.sl (gl r3)),(.sl a1)])).bind (fun r4=>(bif(!(gb r4))then(some [(.sl []),(.bool Bool.false)])else(bif(fitM (0+(len (gl (tk 10 r3)))) 24)then(Z6n a2 0 0 (gn (tk 1 r3)) (gn (tk 6 r3)) (gn (tk 7 r3)) (gn (tk 8 r3)) (gn (tk 9 r3)) (gl (tk 10 r3)) (gl r3) (gl (tk 2 r3)) (gl (tk 3 r3)) (gl (tk 4 r3)) (gl (tk 5 r3)) (gl (tk 10 r3)))else none)))))))else(Z6n a2 0 0 (gn (tk 1 r0)) (gn (tk 6 r0)) (gn (tk 7 r0)) (gn (tk 8 r0)) (gn (tk 9 r0)) [] (gl r0) (gl (tk 2 r0)) (gl (tk 3 r0)) (gl (tk 4 r0)) (gl (tk 5 r0)) [])))))))))):=(callI_run rfl (by kernel_rfl)).trans (by kernel_rfl)
theorem ZAn (a0:Rows) (a1:Int) (a2 a3 a4 a5:Rows) (a6 a7 a8 a9:Int) (a10:Rows) (a11:Int) (a12:Rows) (a13:Int) (a14:ByteArray):callI tE Z8X [.sl a0,.int a1,.sl a2,.sl a3,.sl a4,.sl a5,.int a6,.int a7,.int a8,.int a9,.sl a10,.int a11,.sl a12,.int a13,.str a14]=(bif(fitM ((len a12)+(len a10)) 24)then(bif(!(eqI a13 0))then(bif(eqI (Int.tmod a11 a13) 0)then(((callI tE Z70 [(.sl a0),(.int a1),(.sl a2),(.sl a3),(.sl a4),(.sl a5),(.int a6),(.int a7),(.int a8),(.int a9),(.sl (List.append a12 a10))])).bind (fun r0=>(((callI tE Z7z [(.str a14),(.str (gs r0))])).bind (fun r1=>(some [(.bool (gb (tk 1 r1))),(.sl (List.append a12 a10)),(.int a13),(.str (gs r1))])))))else(some [(.bool Bool.true),(.sl (List.append a12 a10)),(.int a13),(.str a14)]))else none)else none):=(callI_run rfl (by kernel_rfl)).trans (by kernel_rfl)
theorem ZCj (a0:Rows) (a1:Int) (a2 a3 a4 a5:Rows) (a6 a7 a8 a9:Int) (a10:Rows) (a11:Int) (a12:Rows):callI tE ZAi [.sl a0,.int a1,.sl a2,.sl a3,.sl a4,.sl a5,.int a6,.int a7,.int a8,.int a9,.sl a10,.int a11,.sl a12]=(bif(fitM ((len a12)+(len a10)) 24)then(some [(.bool Bool.true),(.sl (List.append a12 a10))])else none):=(callI_run rfl (by kernel_rfl)).trans (by kernel_rfl)
theorem ZCN (a0:Bool) (a1:ByteArray):callI tE Z6Y [.bool a0,.str a1]=(((callI tE Z7H [(.str a1)])).bind (fun r0=>(bif a0 then(some [(.sl (gl r0)),(.bool (gb (tk 1 r0)))])else(some [(.sl (gl r0)),(.bool Bool.false)])))):=(callI_run rfl (by kernel_rfl)).trans (by kernel_rfl)
theorem ZCO (a0:Bool) (a1:ByteArray):callI tE Z6D [.bool a0,.str a1]=(((callI tE Z6I [(.str a1)])).bind (fun r0=>(bif a0 then(some [(.int (gn r0)),(.bool (gb (tk 1 r0)))])else(some [(.int (gn r0)),(.bool Bool.false)])))):=(callI_run rfl (by kernel_rfl)).trans (by kernel_rfl)
noncomputable def Z9X (x0:Rows) (x1 x2 x3 x4 x5 x6 x7:Int) (x8:ByteArray) (x9 x10 x11 x12 x13 x14 x15 x16 x17 x18:Int) (x19 x20 x21 x22 x23 x24 x25 x26 x27 x28 x29:Rows):Option (List Dat):=loopK tE Z7K 0 ⟨[(1,(.ro 3 Bool.false x0)),(2,(.fn 68 [(.ptr (2000003,0) x1 0),(.ptr (2000004,0) x2 0),(.ptr (2000005,0) x3 0)])),(3,(.ptr (500003,0) x4 0)),(6,(.ptr (500004,0) x5 0)),(8,(.i .i64 x6))],[((2000003,0),(.box 24 [(.own (500005,0))])),((2000004,0),(.box 3 [(.i .i64 x7)])),((2000005,0),(.box 9 [(.s x8)])),((500003,0),(.box 40 [(.own (500006,0)),(.i .i64 x9),(.own (500007,0)),(.own (500008,0)),(.own (500009,0)),(.own (500010,0)),(.i .i64 x10),(.i .i64 x11),(.i .i64 x12),(.i .i64 x13)])),((500004,0),(.box 40 [(.own (500011,0)),(.i .i64 x14),(.own (500012,0)),(.own (500013,0)),(.own (500014,0)),(.own (500015,0)),(.i .i64 x15),(.i .i64 x16),(.i .i64 x17),(.i .i64 x18)])),((500005,0),(.row 105 x19 Bool.true 0 [])),((500006,0),(.row 105 x20 Bool.true 0 [])),((500007,0),(.row 105 x21 Bool.true 0 [])),((500008,0),(.row 105 x22 Bool.true 0 [])),((500009,0),(.row 105 x23 Bool.true 0 [])),((500010,0),(.row 169 x24 Bool.true 0 [])),((500011,0),(.row 105 x25 Bool.true 0 [])),((500012,0),(.row 105 x26 Bool.true 0 [])),((500013,0),(.row 105 x27 Bool.true 0 [])),((500014,0),(.row 105 x28 Bool.true 0 [])),((500015,0),(.row 169 x29 Bool.true 0 []))]⟩
noncomputable def Z9Y (x0:Rows) (x1 x2 x3 x4 x5 x6 x7 x8 x9 x10 x11 x12 x13 x14:Int) (x15 x16 x17 x18 x19 x20 x21 x22 x23 x24 x25:Rows):Option (List Dat):=loopK tE Z7K 0 ⟨[(1,(.ro 3 Bool.false x0)),(2,(.fn 81 [(.ptr (2001003,0) x1 0)])),(3,(.ptr (500001,0) x2 0)),(6,(.ptr (500002,0) x3 0)),(8,(.i .i64 x4))],[((2001003,0),(.box 24 [(.own (500003,0))])),((500001,0),(.box 40 [(.own (500004,0)),(.i .i64 x5),(.own (500005,0)),(.own (500006,0)),(.own (500007,0)),(.own (500008,0)),(.i .i64 x6),(.i .i64 x7),(.i .i64 x8),(.i .i64 x9)])),((500002,0),(.box 40 [(.own (500009,0)),(.i .i64 x10),(.own (500010,0)),(.own (500011,0)),(.own (500012,0)),(.own (500013,0)),(.i .i64 x11),(.i .i64 x12),(.i .i64 x13),(.i .i64 x14)])),((500003,0),(.row 105 x15 Bool.true 0 [])),((500004,0),(.row 105 x16 Bool.true 0 [])),((500005,0),(.row 105 x17 Bool.true 0 [])),((500006,0),(.row 105 x18 Bool.true 0 [])),((500007,0),(.row 105 x19 Bool.true 0 [])),((500008,0),(.row 169 x20 Bool.true 0 [])),((500009,0),(.row 105 x21 Bool.true 0 [])),((500010,0),(.row 105 x22 Bool.true 0 [])),((500011,0),(.row 105 x23 Bool.true 0 [])),((500012,0),(.row 105 x24 Bool.true 0 [])),((500013,0),(.row 169 x25 Bool.true 0 []))]⟩
theorem Z9Z (x0:Rows) (x1 x2 x3 x4 x5 x6 x7:Int) (x8:ByteArray) (x9 x10 x11 x12 x13 x14 x15 x16 x17 x18:Int) (x19 x20 x21 x22 x23 x24 x25 x26 x27 x28 x29:Rows):Z9X x0 x1 x2 x3 x4 x5 x6 x7 x8 x9 x10 x11 x12 x13 x14 x15 x16 x17 x18 x19 x20 x21 x22 x23 x24 x25 x26 x27 x28 x29=(bif(!(eqI x12 4))then(bif(!(eqI (lenI x0) 0))then(bif(inR (Int.tmod x6 (lenI x0)) (lenI x0))then(((callI tE Z8b [(.sl x20),(.int x9),(.sl x21),(.sl x22),(.sl x23),(.sl x24),(.int x10),(.int x11),(.int x12),(.int x13),(.int (gn (at' x0 (tn (Int.tmod x6 (lenI x0))))))])).bind (fun r0=>(bif(!(gb (tk 11 r0)))then(some [(.sl x20),(.int x9),(.sl x21),(.sl x22),(.sl x23),(.sl x24),(.int x10),(.int x11),(.int x12),(.int x13),(.bool Bool.false),(.sl x19),(.int x7),(.str x8)])else(((callI tE Z8X [(.sl (gl r0)),(.int (gn (tk 1 r0))),(.sl (gl (tk 2 r0))),(.sl (gl (tk 3 r0))),(.sl (gl (tk 4 r0))),(.sl (gl (tk 5 r0))),(.int (gn (tk 6 r0))),(.int (gn (tk 7 r0))),(.int (gn (tk 8 r0))),(.int (gn (tk 9 r0))),(.sl (gl (tk 10 r0))),(.int (w64 (x6+1))),(.sl x19),(.int x7),(.str x8)])).bind (fun r1=>(bif(!(gb r1))then(some [(.sl (gl r0)),(.int (gn (tk 1 r0))),(.sl (gl (tk 2 r0))),(.sl (gl (tk 3 r0))),(.sl (gl (tk 4 r0))),(.sl (gl (tk 5 r0))),(.int (gn (tk 6 r0))),(.int (gn (tk 7 r0))),(.int (gn (tk 8 r0))),(.int (gn (tk 9 r0))),(.bool Bool.false),(.sl (gl (List.drop 1 r1))),(.int (gn (List.drop 1 (List.drop 1 r1)))),(.str (gs (List.drop 1 (List.drop 1 (List.drop 1 r1)))))])else(Z9X x0 x1 x2 x3 x4 x5 (w64 (x6+1)) (gn (List.drop 1 (List.drop 1 r1))) (gs (List.drop 1 (List.drop 1 (List.drop 1 r1)))) (gn (tk 1 r0)) (gn (tk 6 r0)) (gn (tk 7 r0)) (gn (tk 8 r0)) (gn (tk 9 r0)) x14 x15 x16 x17 x18 (gl (List.drop 1 r1)) (gl r0) (gl (tk 2 r0)) (gl (tk 3 r0)) (gl (tk 4 r0)) (gl (tk 5 r0)) x25 x26 x27 x28 x29)))))))else none)else none)else(some [(.sl x20),(.int x9),(.sl x21),(.sl x22),(.sl x23),(.sl x24),(.int x10),(.int x11),(.int x12),(.int x13),(.bool Bool.true),(.sl x19),(.int x7),(.str x8)])):=(loopK_run (by kernel_rfl)).trans (by kernel_rfl)
theorem Z9a (x0:Rows) (x1 x2 x3 x4 x5 x6 x7 x8 x9 x10 x11 x12 x13 x14:Int) (x15 x16 x17 x18 x19 x20 x21 x22 x23 x24 x25:Rows):Z9Y x0 x1 x2 x3 x4 x5 x6 x7 x8 x9 x10 x11 x12 x13 x14 x15 x16 x17 x18 x19 x20 x21 x22 x23 x24 x25=(bif(!(eqI x8 4))then(bif(!(eqI (lenI x0) 0))then(bif(inR (Int.tmod x4 (lenI x0)) (lenI x0))then(((callI tE Z8b [(.sl x16),(.int x5),(.sl x17),(.sl x18),(.sl x19),(.sl x20),(.int x6),(.int x7),(.int x8),(.int x9),(.int (gn (at' x0 (tn (Int.tmod x4 (lenI x0))))))])).bind (fun r0=>(bif(!(gb (tk 11 r0)))then(some [(.sl x16),(.int x5),(.sl x17),(.sl x18),(.sl x19),(.sl x20),(.int x6),(.int x7),(.int x8),(.int x9),(.bool Bool.false),(.sl x15)])else(((callI tE ZAi [(.sl (gl r0)),(.int (gn (tk 1 r0))),(.sl (gl (tk 2 r0))),(.sl (gl (tk 3 r0))),(.sl (gl (tk 4 r0))),(.sl (gl (tk 5 r0))),(.int (gn (tk 6 r0))),(.int (gn (tk 7 r0))),(.int (gn (tk 8 r0))),(.int (gn (tk 9 r0))),(.sl (gl (tk 10 r0))),(.int (w64 (x4+1))),(.sl x15)])).bind (fun r1=>(bif(!(gb r1))then(some [(.sl (gl r0)),(.int (gn (tk 1 r0))),(.sl (gl (tk 2 r0))),(.sl (gl (tk 3 r0))),(.sl (gl (tk 4 r0))),(.sl (gl (tk 5 r0))),(.int (gn (tk 6 r0))),(.int (gn (tk 7 r0))),(.int (gn (tk 8 r0))),(.int (gn (tk 9 r0))),(.bool Bool.false),(.sl (gl (List.drop 1 r1)))])else(Z9Y x0 x1 x2 x3 (w64 (x4+1)) (gn (tk 1 r0)) (gn (tk 6 r0)) (gn (tk 7 r0)) (gn (tk 8 r0)) (gn (tk 9 r0)) x10 x11 x12 x13 x14 (gl (List.drop 1 r1)) (gl r0) (gl (tk 2 r0)) (gl (tk 3 r0)) (gl (tk 4 r0)) (gl (tk 5 r0)) x21 x22 x23 x24 x25)))))))else none)else none)else(some [(.sl x16),(.int x5),(.sl x17),(.sl x18),(.sl x19),(.sl x20),(.int x6),(.int x7),(.int x8),(.int x9),(.bool Bool.true),(.sl x15)])):=(loopK_run (by kernel_rfl)).trans (by kernel_rfl)
theorem ZF9 (a0:Rows) (a1:Int) (a2 a3 a4 a5:Rows) (a6 a7 a8 a9:Int) (a10 a11:Rows) (a12:Int) (a13:ByteArray):callI tE Z7K [.int 0,.sl a0,.int a1,.sl a2,.sl a3,.sl a4,.sl a5,.int a6,.int a7,.int a8,.int a9,.sl a10,.sl a11,.int a12,.str a13]=(Z9X a10 0 0 0 0 0 0 a12 a13 a1 a6 a7 a8 a9 0 0 0 0 0 a11 a0 a2 a3 a4 a5 [] [] [] [] []):=(callI_run rfl (by kernel_rfl)).trans (by kernel_rfl)
theorem ZFA (a0:Rows) (a1:Int) (a2 a3 a4 a5:Rows) (a6 a7 a8 a9:Int) (a10 a11:Rows):callI tE Z7K [.int 1,.sl a0,.int a1,.sl a2,.sl a3,.sl a4,.sl a5,.int a6,.int a7,.int a8,.int a9,.sl a10,.sl a11]=(Z9Y a10 0 0 0 0 a1 a6 a7 a8 a9 0 0 0 0 0 a11 a0 a2 a3 a4 a5 [] [] [] [] []):=(callI_run rfl (by kernel_rfl)).trans (by kernel_rfl)
theorem ZBD (a0 a1:Rows) (a2:Int):callI tE Z7d [.sl a0,.sl a1,.int a2]=(((callI tE Z92 [(.sl a0)])).bind (fun r0=>(bif(!(gb (tk 10 r0)))then(some [(.str (S [])),(.bool Bool.false)])else(((callI tE Z89 [(.sl a1)])).bind (fun r1=>(bif(!(gb r1))then(some [(.str (S [])),(.bool Bool.false)])else(((callI tE Z6S [(.int a2),(.int 1),(.int 100)])).bind (fun r2=>(bif(!(gb r2))then(some [(.str (S [])),(.bool Bool.false)])else(((callI tE Z70 [(.sl (gl r0)),(.int (gn (tk 1 r0))),(.sl (gl (tk 2 r0))),(.sl (gl (tk 3 r0))),(.sl (gl (tk 4 r0))),(.sl (gl (tk 5 r0))),(.int (gn (tk 6 r0))),(.int (gn (tk 7 r0))),(.int (gn (tk 8 r0))),(.int (gn (tk 9 r0))),(.sl [])])).bind (fun r3=>(((callI tE Z7z [(.str (S [])),(.str (gs r3))])).bind (fun r4=>(bif(!(gb (tk 1 r4)))then(some [(.str (gs r4)),(.bool Bool.false)])else(((callI tE Z7K [(.int 0),(.sl (gl r0)),(.int (gn (tk 1 r0))),(.sl (gl (tk 2 r0))),(.sl (gl (tk 3 r0))),(.sl (gl (tk 4 r0))),(.sl (gl (tk 5 r0))),(.int (gn (tk 6 r0))),(.int (gn (tk 7 r0))),(.int (gn (tk 8 r0))),(.int (gn (tk 9 r0))),(.sl a1),(.sl []),(.int a2),(.str (gs r4))])).bind (fun r5=>(some [(.str (gs (List.drop 1 (List.drop 1 (List.drop 11 r5))))),(.bool (gb (tk 10 r5)))]))))))))))))))))):=(callI_run rfl (by kernel_rfl)).trans (by kernel_rfl)
theorem ZDa (a0:ByteArray) (a1 a2:Rows):callI tE Z8h [.str a0,.sl a1,.sl a2]=(((callI tE Z92 [(.sl a1)])).bind (fun r0=>(bif(!(gb (tk 10 r0)))then(some [(.sl []),(.bool Bool.false)])else(((callI tE Z89 [(.sl a2)])).bind (fun r1=>(bif(!(gb r1))then(some [(.sl []),(.bool Bool.false)])else(((callI tE Z9h [(.str a0)])).bind (fun r2=>(bif(gb (tk 1 r2))then(((callI tE Z8F [(.str (gs r2))])).bind (fun r3=>(bif(!(gb (tk 11 r3)))then(some [(.sl []),(.bool Bool.false)])else(((callI tE Z7q [(.sl (gl r3)),(.sl a1)])).bind (fun r4=>(bif(!(gb r4))then(some [(.sl []),(.bool Bool.false)])else(((callI tE Z7K [(.int 1),(.sl (gl r3)),(.int (gn (tk 1 r3))),(.sl (gl (tk 2 r3))),(.sl (gl (tk 3 r3))),(.sl (gl (tk 4 r3))),(.sl (gl (tk 5 r3))),(.int (gn (tk 6 r3))),(.int (gn (tk 7 r3))),(.int (gn (tk 8 r3))),(.int (gn (tk 9 r3))),(.sl a2),(.sl (gl (tk 10 r3)))])).bind (fun r5=>(bif(!(gb (tk 10 r5)))then(some [(.sl []),(.bool Bool.false)])else(some [(.sl (gl (List.drop 11 r5))),(.bool Bool.true)]))))))))))else(((callI tE Z7K [(.int 1),(.sl (gl r0)),(.int (gn (tk 1 r0))),(.sl (gl (tk 2 r0))),(.sl (gl (tk 3 r0))),(.sl (gl (tk 4 r0))),(.sl (gl (tk 5 r0))),(.int (gn (tk 6 r0))),(.int (gn (tk 7 r0))),(.int (gn (tk 8 r0))),(.int (gn (tk 9 r0))),(.sl a2),(.sl [])])).bind (fun r3=>(bif(!(gb (tk 10 r3)))then(some [(.sl []),(.bool Bool.false)])else(some [(.sl (gl (List.drop 11 r3))),(.bool Bool.true)]))))))))))))):=(callI_run rfl (by kernel_rfl)).trans (by kernel_rfl)
set_option maxRecDepth 10000
theorem ZJL (x:List Rw) (hx:x.length≤1099511627776):∃y,y.Perm x∧Srt y∧callI tE Z79 [.sl (x.map Rw.e)]=some [.sl (y.map Rw.e)]:=by
 obtain⟨y,y1,y2,y3⟩:=ZIS x (by omega)
 refine⟨y,y1,y2,?_⟩
 rw[ZEV,ZDm x hx]
 simp only[gA,y3]
theorem ZKR (l u v w1 w2:List Rw) (c:Rw) (i k:Nat) (hl:l=u++c::v) (hi:u.length=i) (hk:w1.length=k) (hw:(w1++w2).length≤1099511627776) (hi2:i<1152921504606846976):
  (bif(inR (i:Int) (lenI (l.map Rw.e)))then(bif((leI 0 (k:Int))&&(leI (k:Int) (lenI ((w1++w2).map Rw.e))))then(bif(fitM (1+(len (List.take (tn ((lenI ((w1++w2).map Rw.e))-(k:Int))) (List.drop (tn (k:Int)) ((w1++w2).map Rw.e))))) 24)then(bif((leI 0 (k:Int))&&(leI (k:Int) (lenI ((w1++w2).map Rw.e))))then(bif(fitM (0+(len (List.take (tn ((k:Int)-0)) (List.drop (tn 0) ((w1++w2).map Rw.e))))) 24)then(bif(fitM (Nat.succ ((len (List.take (tn ((k:Int)-0)) (List.drop (tn 0) ((w1++w2).map Rw.e))))+(len (List.take (tn ((lenI ((w1++w2).map Rw.e))-(k:Int))) (List.drop (tn (k:Int)) ((w1++w2).map Rw.e)))))) 24)then
   (Z6O (l.map Rw.e) (w64 ((i:Int)+1)) (List.append (List.take (tn ((k:Int)-0)) (List.drop (tn 0) ((w1++w2).map Rw.e))) ([(.int (gn (at' (l.map Rw.e) (tn (i:Int))))),(.int (gn (tk 1 (at' (l.map Rw.e) (tn (i:Int)))))),(.int (gn (tk 2 (at' (l.map Rw.e) (tn (i:Int))))))]::(List.take (tn ((lenI ((w1++w2).map Rw.e))-(k:Int))) (List.drop (tn (k:Int)) ((w1++w2).map Rw.e))))))else none)else none)else none)else none)else none)else none)=
  Z6O (l.map Rw.e) ((i+1:Nat):Int) ((w1++c::w2).map Rw.e):=by
 have hc:at' (l.map Rw.e) i=c.e:=ZDs hl hi
 have hll:i<l.length:=by rw[hl,←hi];simp
 simp only[List.length_append]at hw
 have e1:List.take (tn ((k:Int)-0)) (List.drop (tn 0) ((w1++w2).map Rw.e))=w1.map Rw.e:=by
  show List.take ((k:Int)-0).toNat (List.drop 0 ((w1++w2).map Rw.e))=_
  rw[show((k:Int)-0).toNat=k by omega,List.drop_zero,List.map_append,←hk]
  simp
 have e2:List.take (tn ((lenI ((w1++w2).map Rw.e))-(k:Int))) (List.drop (tn (k:Int)) ((w1++w2).map Rw.e))=w2.map Rw.e:=by
  rw[Z5L]
  show List.take (((w1++w2).length:Int)-(k:Int)).toNat (List.drop k ((w1++w2).map Rw.e))=_
  rw[show(((w1++w2).length:Int)-(k:Int)).toNat=w2.length by simp;omega,List.map_append,←hk]
  simp[List.take_of_length_le]
 rw[ZBq hll,e1,e2,Z5b,Z5b,show leI (k:Int) (lenI ((w1++w2).map Rw.e))=true by rw[Z5L];exact leT (by simp;omega),leT (show(0:Int)≤(k:Int)by omega),show fitM (1+w2.length) 24=true from Z97 (by omega),show fitM (0+w1.length) 24=true from Z97 (by omega),show fitM (Nat.succ (w1.length+w2.length)) 24=true from Z97 (by omega),Z7n (by omega)]
 simp only[cond_true,Bool.and_self,Z86,hc,gk,gv,gw]
 congr 1
 simp[ZM1]
theorem ss1 (l u v:List Rw) (c:Rw) (i:Nat) (hl:l=u++c::v) (hi:u.length=i) (hi2:i<1152921504606846976):∀(n:Nat) (w1 w2:List Rw) (k:Nat),w1.length=n→k=n→Srt (w1++w2)→(∀y∈w2,Rw.le c y)→(w1++w2).length≤1099511627776→
  ∃w,w.Perm ((w1++w2)++[c])∧Srt w∧Z8m (l.map Rw.e) (i:Nat) (k:Nat) ((w1++w2).map Rw.e)=Z6O (l.map Rw.e) ((i+1:Nat):Int) (w.map Rw.e):=by
 have hll:i<l.length:=by rw[hl,←hi];simp
 have hc:nth l i=c:=by rw[hl,←hi,Z6e _ _ (Nat.le_refl _)];simp[nth]
 have pm:∀w1 w2:List Rw,(w1++c::w2).Perm ((w1++w2)++[c]):=fun w1 w2=>List.perm_middle.trans (by simpa using(List.perm_append_comm (l₁:=[c]) (l₂:=w1++w2)))
 intro n
 induction n with
 |zero=>
  intro w1 w2 k hn hk hs hw hlen
  have:w1=[]:=List.length_eq_zero_iff.mp hn
  subst this
  refine⟨c::w2,pm [] w2,List.pairwise_cons.mpr ⟨hw,by simpa using hs⟩,?_⟩
  rw[ZAT,ltF (by omega),cond_false]
  exact ZKR l u v [] w2 c i k hl hi (by simp;omega) hlen hi2
 |succ n ih=>
  intro w1 w2 k hn hk hs hw hlen
  obtain⟨w1,d,rfl⟩:=snoc_of (n:=n) (l:=w1) hn
  have hlen':=hlen
  simp only[List.length_append,List.length_cons,List.length_nil]at hlen' hn
  have i1:inR ((k-1:Nat):Int) (lenI ((w1++[d]++w2).map Rw.e))=true:=ZBq (by simp;omega)
  have i2:inR (i:Int) (lenI (l.map Rw.e))=true:=ZBq hll
  have hd:nth (w1++[d]++w2) (k-1)=d:=by
   rw[Z8P (w1++[d]) w2 (by simp;omega),Z6e w1 _ (by omega),show k-1-w1.length=0 by omega]
   simp[nth]
  have a1:at' ((w1++[d]++w2).map Rw.e) (k-1)=d.e:=by rw[ZHy (by simp;omega),hd]
  have a2:at' (l.map Rw.e) i=c.e:=by rw[ZHy hll,hc]
  rw[ZAT,ltT (by omega),cond_true,ZB4 (by omega) (by omega),i1,cond_true]
  rw[show(bif inR (i:Int) (lenI (l.map Rw.e))then _ else none:Option (List Dat))=_ from by rw[i2,cond_true]]
  simp only[Z86,a1,a2,gk,gv,gw]
  rw[ZBa]
  simp only[gA]
  rw[ZHh]
  by_cases hcd:Rw.lt c d
  ·rw[decide_eq_true hcd,cond_true]
   have hs':Srt (w1++d::w2):=by simpa using hs
   obtain⟨w,q1,q2,q3⟩:=ih w1 (d::w2) (k-1) (by omega) (by omega) hs' (fun y hy=>by
    rcases List.mem_cons.mp hy with rfl|hy
    ·exact Rw.lt_le hcd
    ·exact hw y hy) (by simp;omega)
   refine⟨w,by simpa using q1,q2,?_⟩
   rw[←q3]
   simp
  ·rw[decide_eq_false hcd,cond_false]
   refine⟨(w1++[d])++c::w2,pm _ _,?_,?_⟩
   ·obtain⟨s1,s2,s3⟩:=List.pairwise_append.mp hs
    refine List.pairwise_append.mpr ⟨s1,List.pairwise_cons.mpr ⟨hw,s2⟩,fun x hx y hy=>?_⟩
    rcases List.mem_cons.mp hy with rfl|hy
    ·obtain⟨t1,t2,t3⟩:=List.pairwise_append.mp s1
     rcases List.mem_append.mp hx with hx|hx
     ·exact Rw.le_tr (t3 x hx d (by simp)) hcd
     ·simp at hx;subst hx;exact hcd
    ·exact s3 x hx y hy
   ·have:=ZKR l u v (w1++[d]) w2 c i k hl hi (by simp;omega) hlen hi2
    simp only[Z86,a2,gk,gv,gw,i2,cond_true]at this⊢
    exact this
theorem ss0 (l:List Rw) (hll:l.length≤1099511627770):∀(v u w:List Rw) (i:Nat),l=u++v→u.length=i→w.Perm u→Srt w→∃y,y.Perm l∧Srt y∧Z6O (l.map Rw.e) (i:Nat) (w.map Rw.e)=some [.sl (y.map Rw.e)]
 |[],u,w,i,hl,hi,hw,hs=>by
  rw[List.append_nil]at hl
  refine⟨w,hl▸hw,hs,?_⟩
  rw[ZAS,Z5L,ltF (by rw[hl];omega),cond_false]
 |c::v,u,w,i,hl,hi,hw,hs=>by
  have hwl:=hw.length_eq
  have hlen:l.length=u.length+(v.length+1):=by rw[hl];simp
  obtain⟨w',q1,q2,q3⟩:=ss1 l u v c i hl hi (by omega) w.length w [] w.length rfl rfl (by simpa using hs) (fun y hy=>by cases hy) (by simp;omega)
  simp only[List.append_nil]at q1 q3
  obtain⟨y,y1,y2,y3⟩:=ss0 l hll v (u++[c]) w' (i+1) (by simpa using hl) (by simp;omega) (q1.trans (List.Perm.append_right [c] hw)) q2
  refine⟨y,y1,y2,?_⟩
  rw[ZAS,Z5L,ltT (by omega),cond_true,Z5L,q3]
  exact y3
theorem ZHz (x:List Rw) (hx:x.length≤1099511627770):∃y,y.Perm x∧Srt y∧callI tE Z79 [.sl (x.map Rw.e)]=some [.sl (y.map Rw.e)]∧callI tE Z6J [.sl (x.map Rw.e)]=some [.sl (y.map Rw.e)]:=by
 obtain⟨y,y1,y2,y3⟩:=ZJL x (by omega)
 obtain⟨z,z1,z2,z3⟩:=ss0 x hx x [] [] 0 rfl rfl (List.Perm.refl _) List.Pairwise.nil
 have:z=y:=Z8p (z1.trans y1.symm) z2 y2
 subst this
 refine⟨z,y1,y2,y3,?_⟩
 rw[ZEZ]
 exact z3
def ins (c:Rw):List Rw→List Rw
 |[]=>[c]
 |d::l=>if Rw.lt c d then c::d::l else d::ins c l
def Z9J:List Rw→List Rw
 |[]=>[]
 |c::l=>ins c (Z9J l)
theorem ZGF (c:Rw):∀l,(ins c l).Perm (c::l)
 |[]=>List.Perm.refl _
 |d::l=>by
  unfold ins
  split
  ·exact List.Perm.refl _
  ·exact((ZGF c l).cons d).trans (List.Perm.swap c d l)
theorem ZJM (c:Rw):∀{l:List Rw},Srt l→Srt (ins c l)
 |[],_=>List.pairwise_singleton _ _
 |d::l,h=>by
  unfold ins
  obtain⟨h1,h2⟩:=List.pairwise_cons.mp h
  split
  ·rename_i hc
   refine List.pairwise_cons.mpr ⟨fun y hy=>?_,h⟩
   rcases List.mem_cons.mp hy with rfl|hy
   ·exact Rw.lt_le hc
   ·exact Rw.le_tr (Rw.lt_le hc) (h1 y hy)
  ·rename_i hc
   refine List.pairwise_cons.mpr ⟨fun y hy=>?_,ZJM c h2⟩
   rcases List.mem_cons.mp ((ZGF c l).mem_iff.mp hy)with rfl|hy
   ·exact hc
   ·exact h1 y hy
theorem Z6o:∀l,(Z9J l).Perm l
 |[]=>List.Perm.refl _
 |c::l=>(ZGF c _).trans ((Z6o l).cons c)
theorem ZBR:∀l,Srt (Z9J l)
 |[]=>List.Pairwise.nil
 |c::l=>ZJM c (ZBR l)
theorem ZKy (x:List Rw) (hx:x.length≤1099511627770):callI tE Z79 [.sl (x.map Rw.e)]=some [.sl ((Z9J x).map Rw.e)]:=by
 obtain⟨y,y1,y2,y3,_⟩:=ZHz x hx
 rw[y3,Z8p (y1.trans (Z6o x).symm) y2 (ZBR x)]
theorem ZJN (x:List Rw) (hx:x.length≤1099511627770):callI tE Z6J [.sl (x.map Rw.e)]=some [.sl ((Z9J x).map Rw.e)]:=by
 obtain⟨y,y1,y2,_,y3⟩:=ZHz x hx
 rw[y3,Z8p (y1.trans (Z6o x).symm) y2 (ZBR x)]
theorem Z91 (l:List Rw):(Z9J l).length=l.length:=(Z6o l).length_eq
theorem ZKS (l:List Rw) (n:Nat):List.take (tn ((n:Int)-0)) (List.drop (tn 0) (l.map Rw.e))=(l.take n).map Rw.e:=by
 show List.take ((n:Int)-0).toNat (List.drop 0 (l.map Rw.e))=_
 rw[show((n:Int)-0).toNat=n by omega,List.drop_zero,List.map_take]
theorem ZD8 {α:Type} {l:List α} {n:Nat} (h:n<l.length):∃u a v,l=u++a::v∧u.length=n:=
 ⟨l.take n,l[n],l.drop (n+1),by
  have:=List.take_append_drop n l
  rw[List.drop_eq_getElem_cons h]at this
  exact this.symm,by simp;omega⟩
theorem ZLa {α:Type} (u v:List α) (a d:α):(u++a::v).getD u.length d=a:=by simp[List.getD_eq_getElem?_getD]
theorem ZGG (r:Rw) (p:List Rw):List.take (tn (lenI ((r::p).map Rw.e)-1)) (List.drop (tn 1) ((r::p).map Rw.e))=p.map Rw.e:=by
 rw[Z5L]
 show List.take ((((r::p).length:Nat):Int)-1).toNat (List.drop 1 (Rw.e r::p.map Rw.e))=_
 simp[List.take_of_length_le]
theorem Z9b {l:List (List Rw)} {a:List Rw} (h:a∈l):a.length≤szL List.length l:=ZIm h
theorem ZDu (l:List (List Rw)) (a:List Rw):List.append (l.map rsE) [[Dat.sl (a.map Rw.e)]]=(l++[a]).map rsE:=by simp[rsE]
def Xc.B (x:Xc):Prop:=x.sz≤1073741824
theorem Xc.B.p {x:Xc} (h:x.B):szL List.length x.pend≤1073741824∧szL List.length x.que≤1073741824∧szL List.length x.got≤1073741824:=by
 simp only[Xc.B,Xc.sz]at h;omega
theorem ZJO (l:List (List Rw)) (h:szL List.length l≤1073741824):callI tE Z7h [.sl (l.map rsE)]=some [.sl (l.flatten.map Rw.e)]:=by
 have hl:=Z8I List.length l
 have hfl:∀m:List (List Rw),m.flatten.length≤szL List.length m:=fun m=>by
  induction m with
  |nil=>simp
  |cons a m ih=>simp only[List.flatten_cons,List.length_append,szL];omega
 rw[ZF8]
 have:=Z6d (l:=l) (L:=fun(s:List Rw) i=>Z6k (l.map rsE) (lenI (l.map rsE)) i (s.map Rw.e)) (F:=fun _ _=>some [.sl (l.flatten.map Rw.e)]) (I:=fun s u _=>s=u.flatten) (by omega) (fun u a v s e hI=>by
  have h1:=hfl (u++[a])
  have h2:szL List.length (u++[a])≤szL List.length l:=by have:=ZEe List.length (u++[a]) v;rw[e,show u++a::v=(u++[a])++v by simp,this];omega
  refine .inl ⟨(u++[a]).flatten,?_,rfl,rfl⟩
  show Z6k _ _ _ _=Z6k _ _ _ _
  subst e
  rw[ZAU,hI]
  simp only[ZFO,ZFP,Z86,ZEG,cond_true,rsE,gA,Z5b,Z9z]
  have h3:(u++[a]).flatten.length=u.flatten.length+a.length:=by rw[List.flatten_append,List.length_append];simp
  rw[show fitM (u.flatten.length+a.length) 24=true from Z97 (by omega)]
  simp) (fun s hs=>by
  show Z6k _ _ _ _=_
  rw[ZAU,ZEd,cond_false,hs]) [] rfl
 exact this
def Xc.B2 (x:Xc):Prop:=x.sz≤1073741800
theorem Xc.B2.b {x:Xc} (h:x.B2):x.B:=by simp only[Xc.B2,Xc.B]at*;omega
theorem ZJP {i:Int} {n:Nat} (hn:n≤1073741824):win i 0 (w64 ((n:Int)-1))=decide (0≤i∧i<n):=by
 rw[Z5Q ⟨by omega,by omega⟩,Bool.eq_iff_iff,Z98,decide_eq_true_eq]
 constructor<;>(intro h;omega)
theorem ZDb (r:Rw) (p:List Rw):at' ((r::p).map Rw.e) (tn 0)=r.e:=rfl
theorem ZLE (r:Rw) (p:List Rw):inR 0 (lenI ((r::p).map Rw.e))=true:=by rw[Z5L];exact ZDl (by omega) (by(first|omega|(simp only[List.length_append,List.length_cons,List.length_nil,List.length_map,List.length_take,List.length_drop,List.length_replicate,Z5z]at* <;>omega)))
theorem ZM2 (r:Rw) (p:List Rw):leI 1 (lenI ((r::p).map Rw.e))=true:=by rw[Z5L];exact leT (by(first|omega|(simp only[List.length_append,List.length_cons,List.length_nil,List.length_map,List.length_take,List.length_drop,List.length_replicate,Z5z]at* <;>omega)))
theorem ZLF (r:Rw) (p:List Rw):eqI (lenI ((r::p).map Rw.e)) 0=false:=by rw[Z5L];exact eqF (by(first|omega|(simp only[List.length_append,List.length_cons,List.length_nil,List.length_map,List.length_take,List.length_drop,List.length_replicate,Z5z]at* <;>omega)))
theorem ZKz (q:List Rw) (r:Rw):List.append (q.map Rw.e) [[Dat.int r.k,.int r.v,.int r.w]]=(q++[r]).map Rw.e:=by simp[Rw.e]
def isS:List Rw→Bool
 |[]=>true
 |a::l=>(match l with
  |[]=>true
  |b::_=> !decide (Rw.lt b a))&&isS l
theorem ZJQ (a b:Rw) (l:List Rw):isS (a::b::l)=(!decide (Rw.lt b a)&&isS (b::l)):=rfl
theorem ZLb (a:Rw):isS [a]=true:=rfl
theorem ZFB:∀{l:List Rw},isS l=true↔Srt l
 |[]=>by simp[isS]
 |[a]=>by simp[isS]
 |a::b::l=>by
  rw[ZJQ,Bool.and_eq_true,ZFB (l:=b::l)]
  unfold Srt
  rw[List.pairwise_cons (a:=a)]
  simp only[Bool.not_eq_true',decide_eq_false_iff_not]
  constructor
  ·rintro ⟨h1,h2⟩
   refine⟨fun y hy=>?_,h2⟩
   rcases List.mem_cons.mp hy with rfl|hy
   ·exact h1
   ·exact Rw.le_tr h1 ((List.pairwise_cons.mp h2).1 y hy)
  ·rintro ⟨h1,h2⟩
   exact⟨h1 b (by simp),h2⟩
theorem ZGs (l:List Rw) (hl:l.length<4611686018427387904):∀(v u:List Rw) (a:Rw),l=u++a::v→Z8l (l.map Rw.e) ((u.length+1:Nat):Int)=some [.bool (isS (a::v))]
 |[],u,a,h=>by
  rw[Z8t,Z5L,ltF (by rw[h];simp),cond_false,ZLb]
 |b::v,u,a,h=>by
  have hlen:l.length=u.length+1+1+v.length:=by rw[h];simp;omega
  have a1:at' (l.map Rw.e) u.length=a.e:=ZDs h rfl
  have a2:at' (l.map Rw.e) (u.length+1)=b.e:=ZDs (u:=u++[a]) (v:=v) (by rw[h];simp) (by simp)
  have i1:inR ((u.length+1:Nat):Int) (lenI (l.map Rw.e))=true:=ZBq (by omega)
  have i2:inR ((u.length:Nat):Int) (lenI (l.map Rw.e))=true:=ZBq (by omega)
  have e1:w64 (((u.length+1:Nat):Int)-1)=(u.length:Int):=by rw[Z5Q ⟨by omega,by omega⟩];omega
  have ih:=ZGs l hl v (u++[a]) b (by rw[h];simp)
  rw[List.length_append,List.length_singleton]at ih
  rw[Z8t,show ltI ((u.length+1:Nat):Int) (lenI (l.map Rw.e))=true by rw[Z5L];exact ltT (by omega),i1,e1,i2,Z7n (by omega),ih]
  simp only[cond_true,Z86,a1,a2,gk,gv,gw,ZCE,gA,ZAk,ZJQ]
  cases decide (Rw.lt b a)<;>rfl
theorem ZGt (l:List Rw) (hl:l.length<4611686018427387904):callI tE Z8U [.sl (l.map Rw.e)]=some [.bool (isS l)]:=by
 rw[ZEU]
 cases l with
 |nil=>rw[Z8t];rfl
 |cons a v=>exact ZGs (a::v) hl v [] a rfl
theorem ZGu (l:List Rw) (hl:l.length<4611686018427387904):∀(v u:List Rw) (a:Rw),l=u++a::v→Z8n (l.map Rw.e) ((u.length+1:Nat):Int)=some [.bool (isS (a::v))]
 |[],u,a,h=>by
  rw[Z8u,Z5L,ltF (by rw[h];simp),cond_false,ZLb]
 |b::v,u,a,h=>by
  have hlen:l.length=u.length+1+1+v.length:=by rw[h];simp;omega
  have a1:at' (l.map Rw.e) u.length=a.e:=ZDs h rfl
  have a2:at' (l.map Rw.e) (u.length+1)=b.e:=ZDs (u:=u++[a]) (v:=v) (by rw[h];simp) (by simp)
  have i1:inR ((u.length+1:Nat):Int) (lenI (l.map Rw.e))=true:=ZBq (by omega)
  have i2:inR ((u.length:Nat):Int) (lenI (l.map Rw.e))=true:=ZBq (by omega)
  have e1:w64 (((u.length+1:Nat):Int)-1)=(u.length:Int):=by rw[Z5Q ⟨by omega,by omega⟩];omega
  have ih:=ZGu l hl v (u++[a]) b (by rw[h];simp)
  rw[List.length_append,List.length_singleton]at ih
  rw[Z8u,show ltI ((u.length+1:Nat):Int) (lenI (l.map Rw.e))=true by rw[Z5L];exact ltT (by omega),i1,e1,i2,Z7n (by omega),ih]
  simp only[cond_true,Z86,a1,a2,gk,gv,gw,ZBa,gA,ZHh,ZJQ]
  cases decide (Rw.lt b a)<;>rfl
theorem ZGv (l:List Rw) (hl:l.length<4611686018427387904):callI tE Z8V [.sl (l.map Rw.e)]=some [.bool (isS l)]:=by
 rw[ZEa]
 cases l with
 |nil=>rw[Z8u];rfl
 |cons a v=>exact ZGu (a::v) hl v [] a rfl
def ZAC (r:Rw) (l:List Rw):Bool:=match l.getLast? with
 |none=>false
 |some x=>decide (Rw.lt r x)
theorem ZCG (r:Rw):ZAC r []=false:=rfl
theorem ZAo (r:Rw) (u:List Rw) (x:Rw):ZAC r (u++[x])=decide (Rw.lt r x):=by simp[ZAC]
theorem ZGH (l:List Rw):l=[]∨∃u x,l=u++[x]:=by
 cases l.eq_nil_or_concat with
 |inl h=>exact .inl h
 |inr h=>obtain⟨u,x,h⟩:=h;exact .inr ⟨u,x,by simpa using h⟩
theorem ZKT (r:Rw) (l:List Rw) (hl:l.length<4611686018427387904):callI tE ZAz [.int r.k,.int r.v,.int r.w,.sl (l.map Rw.e)]=some [.bool (ZAC r l)]:=by
 rw[ZGq]
 rcases ZGH l with rfl|⟨u,x,rfl⟩
 ·rfl
 ·simp only[List.length_append,List.length_cons,List.length_nil]at hl
  have a1:at' ((u++[x]).map Rw.e) u.length=x.e:=ZDs (u:=u) (v:=[]) (by simp) rfl
  have e1:w64 (lenI ((u++[x]).map Rw.e)-1)=(u.length:Int):=by rw[Z5L,Z5Q ⟨by(first|omega|(simp only[List.length_append,List.length_cons,List.length_nil,List.length_map,List.length_take,List.length_drop,List.length_replicate,Z5z]at* <;>omega)),by(first|omega|(simp only[List.length_append,List.length_cons,List.length_nil,List.length_map,List.length_take,List.length_drop,List.length_replicate,Z5z]at* <;>omega))⟩];simp
  rw[show ltI 0 (lenI ((u++[x]).map Rw.e))=true by rw[Z5L];exact ltT (by(first|omega|(simp only[List.length_append,List.length_cons,List.length_nil,List.length_map,List.length_take,List.length_drop,List.length_replicate,Z5z]at* <;>omega))),e1,ZBq (by simp)]
  simp only[cond_true,Z86,a1,gk,gv,gw,ZCE,gA,ZAk,ZAo]
def ZBS (r:List Rw):Bool:=decide (0<r.length)&&(isS r&&aok r)
def ZAp (l:List (List Rw)):Prop:=szL List.length l≤1073741824
theorem ZIT (l:List (List Rw)) (h:ZAp l):callI tE Z7x [.sl (l.map rsE)]=some [.bool (l.all ZBS)]:=by
 have hl:=Z8I List.length l
 unfold ZAp at h
 rw[ZCe]
 have:=ZCC (l:=l) (L:=Z7a (l.map rsE) (lenI (l.map rsE))) (p:=ZBS) (no:=some [.bool false]) (yes:=some [.bool true]) (by omega) (fun u a v e=>by
  have ha:a.length≤1073741824:=Nat.le_trans (Z9b (by rw[e];simp)) h
  subst e
  rw[Z9E]
  simp only[ZFO,ZFP,Z86,ZEG,cond_true,rsE,gA,ZGt a (show a.length<4611686018427387904 by omega),ZBJ]
  rw[Z5L Rw.e a]
  unfold ZBS
  by_cases h0:a.length=0
  ·rw[eqT (by omega),h0];rfl
  ·rw[eqF (by omega),decide_eq_true (show 0<a.length by omega)]
   cases isS a
   ·rfl
   ·cases aok a<;>rfl) (by rw[Z9E,ZEd,cond_false])
 exact this.trans (ZIn _)
theorem ZIU (l:List (List Rw)) (h:ZAp l):callI tE Z82 [.sl (l.map rsE)]=some [.bool (l.all ZBS)]:=by
 have hl:=Z8I List.length l
 unfold ZAp at h
 rw[ZCh]
 have:=ZCC (l:=l) (L:=Z7b (l.map rsE)) (p:=ZBS) (no:=some [.bool false]) (yes:=some [.bool true]) (by omega) (fun u a v e=>by
  have ha:a.length≤1073741824:=Nat.le_trans (Z9b (by rw[e];simp)) h
  subst e
  rw[Z9F]
  simp only[ZFO,ZFP,Z86,ZEG,cond_true,rsE,gA,ZGv a (show a.length<4611686018427387904 by omega),ZA7 a (show a.length<4611686018427387904 by omega)]
  rw[Z5L Rw.e a]
  unfold ZBS
  by_cases h0:a.length=0
  ·rw[eqT (by omega),h0];rfl
  ·rw[eqF (by omega),decide_eq_true (show 0<a.length by omega)]
   cases isS a
   ·rfl
   ·cases aok a<;>rfl) (by rw[Z9F,ZEd,cond_false])
 exact this.trans (ZIn _)
theorem ZGI (m:List (List Rw)):m.flatten.length≤szL List.length m:=by
 induction m with
 |nil=>simp
 |cons a m ih=>simp only[List.flatten_cons,List.length_append,szL];omega
theorem ZK4 (l:List (List Rw)) (h:ZAp l):callI tE Z8M [.sl (l.map rsE)]=some [.sl (l.flatten.map Rw.e)]:=by
 have hl:=Z8I List.length l
 unfold ZAp at h
 rw[ZD0]
 have:=Z6d (l:=l) (L:=fun(s:List Rw) i=>Z6E (l.map rsE) (lenI (l.map rsE)) i (s.map Rw.e)) (F:=fun _ _=>some [.sl (l.flatten.map Rw.e)]) (I:=fun s u _=>s=u.flatten) (by omega) (fun u a v s e hI=>by
  have h1:=ZGI (u++[a])
  have h2:szL List.length (u++[a])≤szL List.length l:=by have:=ZEe List.length (u++[a]) v;rw[e,show u++a::v=(u++[a])++v by simp,this];omega
  refine .inl ⟨(u++[a]).flatten,?_,rfl,rfl⟩
  show Z6E _ _ _ _=Z6E _ _ _ _
  subst e
  rw[Z9U,hI]
  simp only[ZFO,ZFP,Z86,ZEG,cond_true,rsE,gA,Z5b,Z9z]
  have h3:(u++[a]).flatten.length=u.flatten.length+a.length:=by rw[List.flatten_append,List.length_append];simp
  rw[show fitM (u.flatten.length+a.length) 24=true from Z97 (by omega)]
  simp) (fun s hs=>by
  show Z6E _ _ _ _=_
  rw[Z9U,ZEd,cond_false,hs]) [] rfl
 exact this
theorem ZK5 (l:List (List Rw)) (h:ZAp l):callI tE Z6t [.sl (l.map rsE)]=some [.sl (l.flatten.map Rw.e)]:=by
 have hl:=Z8I List.length l
 unfold ZAp at h
 rw[ZD3]
 have:=Z6d (l:=l) (L:=fun(s:List Rw) i=>Z6F (l.map rsE) i (s.map Rw.e)) (F:=fun _ _=>some [.sl (l.flatten.map Rw.e)]) (I:=fun s u _=>s=u.flatten) (by omega) (fun u a v s e hI=>by
  have h1:=ZGI (u++[a])
  have h2:szL List.length (u++[a])≤szL List.length l:=by have:=ZEe List.length (u++[a]) v;rw[e,show u++a::v=(u++[a])++v by simp,this];omega
  refine .inl ⟨(u++[a]).flatten,?_,rfl,rfl⟩
  show Z6F _ _ _=Z6F _ _ _
  subst e
  rw[Z9V,hI]
  simp only[ZFO,ZFP,Z86,ZEG,cond_true,rsE,gA,Z5b,Z9z]
  have h3:(u++[a]).flatten.length=u.flatten.length+a.length:=by rw[List.flatten_append,List.length_append];simp
  rw[show fitM (u.flatten.length+a.length) 24=true from Z97 (by omega)]
  simp) (fun s hs=>by
  show Z6F _ _ _=_
  rw[Z9V,ZEd,cond_false,hs]) [] rfl
 exact this
def ZL0:Nat→List Rw→List Rw→List Rw
 |0,_,_=>[]
 |_+1,[],b=>b
 |_+1,a,[]=>a
 |n+1,x::a,y::b=>if Rw.le x y then x::ZL0 n a (y::b)else y::ZL0 n (x::a) b
def mrg (a b:List Rw):List Rw:=ZL0 (a.length+b.length) a b
theorem ZBj:∀(n m:Nat) (a b:List Rw),a.length+b.length≤n→a.length+b.length≤m→ZL0 n a b=ZL0 m a b
 |0,0,_,_,_,_=>rfl
 |0,m+1,a,b,h,_=>by
  have h1:a=[]:=List.length_eq_zero_iff.mp (by omega)
  have h2:b=[]:=List.length_eq_zero_iff.mp (by omega)
  subst h1;subst h2;rfl
 |n+1,0,a,b,_,h=>by
  have h1:a=[]:=List.length_eq_zero_iff.mp (by omega)
  have h2:b=[]:=List.length_eq_zero_iff.mp (by omega)
  subst h1;subst h2;rfl
 |n+1,m+1,[],b,_,_=>rfl
 |n+1,m+1,x::a,[],_,_=>rfl
 |n+1,m+1,x::a,y::b,h,h2=>by
  simp only[List.length_cons]at h h2
  simp only[ZL0]
  rw[ZBj n m a (y::b) (by simp;omega) (by simp;omega),ZBj n m (x::a) b (by simp;omega) (by simp;omega)]
theorem Z9r (b:List Rw):mrg [] b=b:=by
 cases b<;>rfl
theorem ZAa (a:List Rw):mrg a []=a:=by
 cases a<;>rfl
theorem ZFC (x y:Rw) (a b:List Rw):mrg (x::a) (y::b)=if Rw.le x y then x::mrg a (y::b)else y::mrg (x::a) b:=by
 unfold mrg
 rw[show(x::a).length+(y::b).length=(a.length+b.length+1)+1 by simp;omega]
 simp only[ZL0]
 rw[ZBj _ (a.length+(y::b).length) a (y::b) (by simp;omega) (by simp),ZBj _ ((x::a).length+b.length) (x::a) b (by simp;omega) (by simp)]
theorem ZHM:∀(n:Nat) (a b:List Rw),a.length+b.length=n→(mrg a b).length=n
 |_,[],b,h=>by rw[Z9r];simpa using h
 |_,x::a,[],h=>by rw[ZAa];simpa using h
 |0,x::a,y::b,h=>by simp at h
 |n+1,x::a,y::b,h=>by
  simp only[List.length_cons]at h
  rw[ZFC]
  split
  ·rw[List.length_cons,ZHM n a (y::b) (by simp;omega)]
  ·rw[List.length_cons,ZHM n (x::a) b (by simp;omega)]
theorem Z9G (a b:List Rw):(mrg a b).length=a.length+b.length:=ZHM _ a b rfl
theorem ZDc (r:Rw) (p:List Rw):ltI 0 (lenI ((r::p).map Rw.e))=true:=by rw[Z5L];exact ltT (by(first|omega|(simp only[List.length_append,List.length_cons,List.length_nil,List.length_map,List.length_take,List.length_drop,List.length_replicate,Z5z]at* <;>omega)))
theorem ZC5:∀(n:Nat) (a b acc:List Rw),a.length+b.length=n→acc.length+n≤2147483648→Z5e (a.map Rw.e) (b.map Rw.e) (acc.map Rw.e)=some [.sl ((acc++mrg a b).map Rw.e)]
 |0,a,b,acc,h,_=>by
  have h1:a=[]:=List.length_eq_zero_iff.mp (by omega)
  have h2:b=[]:=List.length_eq_zero_iff.mp (by omega)
  subst h1;subst h2
  rw[Z71]
  rw[Z9r,List.append_nil];rfl
 |n+1,[],y::b,acc,h,hl=>by
  have ih:=ZC5 n [] b (acc++[y]) (by simp at h⊢;omega) (by simp;omega)
  have f1:fitM (Nat.succ (len (acc.map Rw.e))) 24=true:=by rw[Z5b];exact Z97 (by omega)
  have a1:([[Dat.int y.k,.int y.v,.int y.w]]:Rows)=[y.e]:=rfl
  have z1:lenI (([]:List Rw).map Rw.e)=0:=rfl
  have le01:leI 0 1=true:=rfl
  rw[Z71,z1,ltF (show(0:Int)≤0 by omega)]
  simp only[cond_false,cond_true,ZDc,ZLF,ZLE,ZDb,gk,gv,gw,f1,ZM2,le01,Bool.and_self,ZGG,a1,ZBz]
  rw[ih,Z9r,Z9r]
  simp
 |n+1,x::a,[],acc,h,hl=>by
  have ih:=ZC5 n a [] (acc++[x]) (by simp at h⊢;omega) (by simp;omega)
  have f1:fitM (Nat.succ (len (acc.map Rw.e))) 24=true:=by rw[Z5b];exact Z97 (by omega)
  have a1:([[Dat.int x.k,.int x.v,.int x.w]]:Rows)=[x.e]:=rfl
  have z1:lenI (([]:List Rw).map Rw.e)=0:=rfl
  have le01:leI 0 1=true:=rfl
  rw[Z71,z1,eqT (show(0:Int)=0 by omega)]
  simp only[cond_false,cond_true,ZDc,ZLF,ZLE,ZDb,gk,gv,gw,f1,ZM2,le01,Bool.and_self,ZGG,a1,ZBz]
  rw[ih,ZAa,ZAa]
  simp
 |n+1,x::a,y::b,acc,h,hl=>by
  have f1:fitM (Nat.succ (len (acc.map Rw.e))) 24=true:=by rw[Z5b];exact Z97 (by omega)
  have a1:([[Dat.int x.k,.int x.v,.int x.w]]:Rows)=[x.e]:=rfl
  have a2:([[Dat.int y.k,.int y.v,.int y.w]]:Rows)=[y.e]:=rfl
  have le01:leI 0 1=true:=rfl
  rw[Z71]
  simp only[cond_false,cond_true,ZDc,ZLF,ZLE,ZDb,gk,gv,gw,f1,ZM2,le01,Bool.and_self,ZGG,a1,a2,ZBz,ZCE,gA,ZG6]
  rw[ZFC]
  by_cases hxy:Rw.le x y
  ·rw[decide_eq_true hxy,if_pos hxy,cond_true,ZC5 n a (y::b) (acc++[x]) (by simp at h⊢;omega) (by simp;omega)]
   simp
  ·rw[decide_eq_false hxy,if_neg hxy,cond_false,ZC5 n (x::a) b (acc++[y]) (by simp at h⊢;omega) (by simp;omega)]
   simp
theorem ZMM (a b:List Rw) (h:a.length+b.length≤2147483648):callI tE Z7I [.sl (a.map Rw.e),.sl (b.map Rw.e)]=some [.sl ((mrg a b).map Rw.e)]:=by
 rw[ZD1]
 have:=ZC5 _ a b [] rfl (by simpa using h)
 simpa using this
theorem ZC6 (A B:List Rw) (hA:A.length+B.length≤2147483648):∀(n:Nat) (a b ua ub acc:List Rw),A=ua++a→B=ub++b→a.length+b.length=n→acc.length+n≤2147483648→
  Z5f (A.map Rw.e) (B.map Rw.e) (ua.length:Nat) (ub.length:Nat) (acc.map Rw.e)=some [.sl ((acc++mrg a b).map Rw.e)]
 |0,a,b,ua,ub,acc,ha,hb,h,_=>by
  have h1:a=[]:=List.length_eq_zero_iff.mp (by omega)
  have h2:b=[]:=List.length_eq_zero_iff.mp (by omega)
  subst h1;subst h2
  rw[List.append_nil]at ha hb
  rw[Z72,Z5L,Z5L,ltF (by rw[ha];omega),ltF (by rw[hb];omega),Z9r,List.append_nil];rfl
 |n+1,[],y::b,ua,ub,acc,ha,hb,h,hl=>by
  rw[List.append_nil]at ha
  have hBl:B.length=ub.length+(b.length+1):=by rw[hb];simp
  have ih:=ZC6 A B hA n [] b ua (ub++[y]) (acc++[y]) (by simpa using ha) (by rw[hb];simp) (by simp at h⊢;omega) (by simp;omega)
  rw[List.length_append,List.length_singleton]at ih
  have f1:fitM (Nat.succ (len (acc.map Rw.e))) 24=true:=by rw[Z5b];exact Z97 (by omega)
  have a1:([[Dat.int y.k,.int y.v,.int y.w]]:Rows)=[y.e]:=rfl
  have b1:at' (B.map Rw.e) ub.length=y.e:=ZDs hb rfl
  have b2:inR (ub.length:Int) (lenI (B.map Rw.e))=true:=ZBq (by omega)
  rw[Z72,b2]
  simp only[Z5L,Z86,b1,gk,gv,gw,a1,ZBz,f1]
  rw[ltF (show(A.length:Int)≤(ua.length:Int)by rw[ha];omega),ltT (show(ub.length:Int)<(B.length:Int)by omega),eqF (show(ub.length:Int)≠(B.length:Int)by omega),Z7n (show ub.length<9223372036854775807 by omega)]
  simp only[cond_true,cond_false]
  rw[ih,Z9r,Z9r]
  simp
 |n+1,x::a,[],ua,ub,acc,ha,hb,h,hl=>by
  rw[List.append_nil]at hb
  have hAl:A.length=ua.length+(a.length+1):=by rw[ha];simp
  have ih:=ZC6 A B hA n a [] (ua++[x]) ub (acc++[x]) (by rw[ha];simp) (by simpa using hb) (by simp at h⊢;omega) (by simp;omega)
  rw[List.length_append,List.length_singleton]at ih
  have f1:fitM (Nat.succ (len (acc.map Rw.e))) 24=true:=by rw[Z5b];exact Z97 (by omega)
  have a1:([[Dat.int x.k,.int x.v,.int x.w]]:Rows)=[x.e]:=rfl
  have b1:at' (A.map Rw.e) ua.length=x.e:=ZDs ha rfl
  have b2:inR (ua.length:Int) (lenI (A.map Rw.e))=true:=ZBq (by omega)
  rw[Z72,b2]
  simp only[Z5L,Z86,b1,gk,gv,gw,a1,ZBz,f1]
  rw[ltT (show(ua.length:Int)<(A.length:Int)by omega),eqT (show(ub.length:Int)=(B.length:Int)by rw[hb]),Z7n (show ua.length<9223372036854775807 by omega)]
  simp only[cond_true,cond_false]
  rw[ih,ZAa,ZAa]
  simp
 |n+1,x::a,y::b,ua,ub,acc,ha,hb,h,hl=>by
  have hAl:A.length=ua.length+(a.length+1):=by rw[ha];simp
  have hBl:B.length=ub.length+(b.length+1):=by rw[hb];simp
  have f1:fitM (Nat.succ (len (acc.map Rw.e))) 24=true:=by rw[Z5b];exact Z97 (by omega)
  have a1:([[Dat.int x.k,.int x.v,.int x.w]]:Rows)=[x.e]:=rfl
  have a2:([[Dat.int y.k,.int y.v,.int y.w]]:Rows)=[y.e]:=rfl
  have b1:at' (A.map Rw.e) ua.length=x.e:=ZDs ha rfl
  have b2:inR (ua.length:Int) (lenI (A.map Rw.e))=true:=ZBq (by omega)
  have b3:at' (B.map Rw.e) ub.length=y.e:=ZDs hb rfl
  have b4:inR (ub.length:Int) (lenI (B.map Rw.e))=true:=ZBq (by omega)
  rw[Z72,b2,b4]
  simp only[Z5L,Z86,b1,b3,gk,gv,gw,a1,a2,ZBz,f1,ZBa,gA,ZG6]
  rw[ltT (show(ua.length:Int)<(A.length:Int)by omega),eqF (show(ub.length:Int)≠(B.length:Int)by omega),Z7n (show ua.length<9223372036854775807 by omega),Z7n (show ub.length<9223372036854775807 by omega)]
  simp only[cond_true,cond_false]
  rw[ZFC]
  by_cases hxy:Rw.le x y
  ·have ih:=ZC6 A B hA n a (y::b) (ua++[x]) ub (acc++[x]) (by rw[ha];simp) hb (by simp at h⊢;omega) (by simp;omega)
   rw[List.length_append,List.length_singleton]at ih
   rw[decide_eq_true hxy,if_pos hxy,cond_true,ih]
   simp
  ·have ih:=ZC6 A B hA n (x::a) b ua (ub++[y]) (acc++[y]) ha (by rw[hb];simp) (by simp at h⊢;omega) (by simp;omega)
   rw[List.length_append,List.length_singleton]at ih
   rw[decide_eq_false hxy,if_neg hxy,cond_false,ih]
   simp
theorem ZMN (a b:List Rw) (h:a.length+b.length≤2147483648):callI tE Z7M [.sl (a.map Rw.e),.sl (b.map Rw.e)]=some [.sl ((mrg a b).map Rw.e)]:=by
 rw[ZD4]
 have:=ZC6 a b h _ a b [] [] [] rfl rfl rfl (by simpa using h)
 simpa using this
def ZFZ (a b:List Rw):Bool:=decide (Z9J a=Z9J b)
theorem ZC7 {a b:List Rw}:ZFZ a b=true↔a.Perm b:=by
 simp only[ZFZ,decide_eq_true_eq]
 constructor
 ·intro h
  exact(Z6o a).symm.trans (h▸Z6o b)
 ·intro h
  exact Z8p ((Z6o a).trans (h.trans (Z6o b).symm)) (ZBR a) (ZBR b)
theorem ZGw {a b:List Rw} (h:¬a.length=b.length):ZFZ a b=false:=by
 rw[←Bool.not_eq_true,ZC7]
 exact fun hh=>h hh.length_eq
theorem ZLc (a b:List Rw) (ha:a.length≤1099511627770) (hb:b.length≤1099511627770):callI tE Z88 [.sl (a.map Rw.e),.sl (b.map Rw.e)]=some [.bool (ZFZ a b)]:=by
 rw[ZDz]
 by_cases h:a.length=b.length
 ·rw[ZGb h,cond_true]
  simp only[ZKy a ha,ZKy b hb,gA]
  rw[ZGe _ _ (by rw[Z91];omega)]
  rfl
 ·rw[ZGc h,cond_false,ZGw h]
theorem ZLd (a b:List Rw) (ha:a.length≤1099511627770) (hb:b.length≤1099511627770):callI tE Z6w [.sl (a.map Rw.e),.sl (b.map Rw.e)]=some [.bool (ZFZ a b)]:=by
 rw[ZE4]
 simp only[ZJN a ha,ZJN b hb,gA]
 by_cases h:a.length=b.length
 ·rw[ZGb (by rw[Z91,Z91,h]),Bool.not_true,cond_false]
  have:=ZEf (L:=fun x y i=>Z8O i x y) (e:=Rw.e) (P:=fun _=>True) (fun p q p' q' a b _ hpl hlt=>by
   rw[ZA5]
   simp only[ZHe,ZGa,Z86,ZFe,cond_true,cond_false,gA,ZG4 hpl,ZG5 hpl,Rw.e,ZHi,ZIl]) (fun p p' hpl=>by
   rw[ZA5,ZHf,cond_false]) (Z9J a) (Z9J b) [] [] rfl (by rw[Z91,Z91,h]) (fun a ha=>trivial) (by simp[Z91];omega)
  simpa[ZFZ]using this
 ·rw[ZGc (by rw[Z91,Z91];exact h),Bool.not_false,cond_true,ZGw h]
def rc (l:List (List Rw)) (n:Nat) (p:Int):Nat:=match l[n]? with
 |none=>0
 |some r=>if p<0 then 0 else match r[p.toNat]? with
  |none=>0
  |some x=>x.cost
theorem ZK6 (l:List (List Rw)) (n:Nat) (p:Int):rc l n p≤4:=by
 unfold rc
 split
 ·omega
 ·split
  ·omega
  ·split
   ·omega
   ·exact ZBY _
def ZDd (s:So):Nat:=if s.ph=1 then Z8v s.heap+Z8v s.dfd else if s.ph=2 then(if s.lp<0∨s.rp<0 then 0 else rc s.runs 0 s.lp+rc s.runs 1 s.rp)else if s.ph=3 then rc s.runs 0 s.lp else 0
def So.B (s:So):Prop:=s.sz≤1073741824
theorem So.B.p {s:So} (h:s.B):s.inp.length≤1073741824∧s.heap.length≤1073741824∧s.dfd.length≤1073741824∧s.out.length≤1073741824∧ZAp s.runs:=by
 simp only[So.B,So.sz]at h
 unfold ZAp
 omega
theorem ZI0 (s:So) (n:Nat) (p:Int) (h:s.B):callI tE Z8w [.sl (s.inp.map Rw.e),.int s.pos,.sl (s.heap.map Rw.e),.sl (s.dfd.map Rw.e),.sl (s.out.map Rw.e),.sl (s.runs.map rsE),.int s.lp,.int s.rp,.int s.ph,.int s.wr,.int (n:Int),.int p]=some [.int (rc s.runs n p:Nat)]:=by
 have hl:=Z8I List.length s.runs
 have hb:=h.p.2.2.2.2
 unfold ZAp at hb
 rw[ZFU,Z5L]
 unfold rc
 by_cases hn:n<s.runs.length
 ·obtain⟨u,a,v,hr,rfl⟩:=ZD8 hn
  have ha:a.length≤1073741824:=Nat.le_trans (Z9b (by rw[hr];simp)) hb
  have e1:s.runs[u.length]?=some a:=by rw[hr];simp
  have e2:at' (s.runs.map rsE) u.length=rsE a:=ZDs hr rfl
  rw[leF (by omega),cond_false,e1]
  simp only[Z86,e2,rsE,gA,Z5L]
  by_cases hp:p<0
  ·rw[ltT hp,cond_true,if_pos hp];rfl
  ·rw[ltF (by omega),cond_false,if_neg hp,ZDl (by omega) (by omega),cond_true]
   by_cases hpa:p.toNat<a.length
   ·obtain⟨u2,x,v2,hx,hu2⟩:=ZD8 hpa
    have e3:a[p.toNat]?=some x:=by rw[hx,←hu2];simp
    have e4:at' (a.map Rw.e) (tn p)=x.e:=ZDs hx hu2
    rw[leF (by omega),cond_false,e3,ZDl (by omega) (by omega),cond_true,cond_true]
    simp only[e4,gk,gv,gw,ZBZ,gA]
   ·rw[leT (by omega),cond_true,List.getElem?_eq_none (by omega)];rfl
 ·rw[leT (by omega),cond_true,List.getElem?_eq_none (by omega)];rfl
theorem ZGx (l:List (List Rw)) (n:Nat) (p:Int) (h:ZAp l) (hp:0≤p):∃q:List Rw,callI tE Z6T [.sl (l.map rsE),.int (n:Int),.int p]=some [.sl (q.map Rw.e)]∧Z8v q=rc l n p∧q.length≤1∧q=(match l[n]? with
  |none=>[]
  |some r=>(match r[p.toNat]? with
   |none=>[]
   |some x=>[x])):=by
 have hl:=Z8I List.length l
 unfold ZAp at h
 rw[ZGE,Z5L]
 unfold rc
 by_cases hn:n<l.length
 ·obtain⟨u,a,v,hr,rfl⟩:=ZD8 hn
  have ha:a.length≤1073741824:=Nat.le_trans (Z9b (by rw[hr];simp)) h
  have e1:l[u.length]?=some a:=by rw[hr];simp
  have e2:at' (l.map rsE) u.length=rsE a:=ZDs hr rfl
  rw[ltT (by omega),cond_true,ZDl (by omega) (by omega),e1]
  simp only[Z86,e2,rsE,gA,Z5L,cond_true]
  rw[if_neg (by omega)]
  by_cases hpa:p.toNat<a.length
  ·obtain⟨u2,x,v2,hx,hu2⟩:=ZD8 hpa
   have e3:a[p.toNat]?=some x:=by rw[hx,←hu2];simp
   have e4:at' (a.map Rw.e) (tn p)=x.e:=ZDs hx hu2
   rw[ltT (by omega),cond_true,e3,ZDl (by omega) (by omega),cond_true]
   exact⟨[x],by simp only[e4,gk,gv,gw];rfl,by simp[Z8v],by simp,rfl⟩
  ·rw[ltF (by omega),cond_false,List.getElem?_eq_none (by omega)]
   exact⟨[],rfl,rfl,by simp,rfl⟩
 ·rw[ltF (by omega),cond_false,List.getElem?_eq_none (by omega)]
  exact⟨[],rfl,rfl,by simp,rfl⟩
theorem ZMO (s:So) (h:s.B):callI tE Z77 [.sl (s.inp.map Rw.e),.int s.pos,.sl (s.heap.map Rw.e),.sl (s.dfd.map Rw.e),.sl (s.out.map Rw.e),.sl (s.runs.map rsE),.int s.lp,.int s.rp,.int s.ph,.int s.wr]=some [.int (ZDd s:Nat)]:=by
 obtain⟨h1,h2,h3,h4,h5⟩:=h.p
 have r0:=ZI0 s 0 s.lp h
 have r1:=ZI0 s 1 s.rp h
 have e0:((0:Nat):Int)=0:=rfl
 have e1:((1:Nat):Int)=1:=rfl
 rw[e0]at r0
 rw[e1]at r1
 have t1:=ZCp s.heap
 have t2:=ZCp s.dfd
 have q1:=ZK6 s.runs 0 s.lp
 have q2:=ZK6 s.runs 1 s.rp
 rw[ZCd]
 simp only[ZFf s.heap (by omega),ZFf s.dfd (by omega),r0,r1,gA]
 unfold ZDd
 by_cases p1:s.ph=1
 ·rw[eqT p1,cond_true,if_pos p1,Z5Q ⟨by omega,by omega⟩]
  simp
 ·rw[eqF p1,cond_false,if_neg p1]
  by_cases p2:s.ph=2
  ·rw[eqT p2,cond_true,if_pos p2]
   by_cases p3:s.lp<0
   ·rw[ltT p3,if_pos (.inl p3)];rfl
   ·rw[ltF (by omega),cond_false]
    by_cases p4:s.rp<0
    ·rw[ltT p4,if_pos (.inr p4)];rfl
    ·rw[ltF (by omega),cond_false,if_neg (by omega),Z5Q ⟨by omega,by omega⟩]
     simp
  ·rw[eqF p2,cond_false,if_neg p2]
   by_cases p3:s.ph=3
   ·rw[eqT p3,cond_true,if_pos p3]
   ·rw[eqF p3,cond_false,if_neg p3];rfl
theorem ZMP (s:So) (h:s.B):callI tE Z7B [.sl (s.inp.map Rw.e),.int s.pos,.sl (s.heap.map Rw.e),.sl (s.dfd.map Rw.e),.sl (s.out.map Rw.e),.sl (s.runs.map rsE),.int s.lp,.int s.rp,.int s.ph,.int s.wr]=some [.int (ZDd s:Nat)]:=by
 obtain⟨h1,h2,h3,h4,h5⟩:=h.p
 have t1:=ZCp s.heap
 have t2:=ZCp s.dfd
 have q1:=ZK6 s.runs 0 s.lp
 have q2:=ZK6 s.runs 1 s.rp
 rw[ZCg]
 simp only[ZBM s.heap (by omega),ZBM s.dfd (by omega),gA]
 unfold ZDd
 by_cases p1:s.ph=1
 ·rw[eqT p1,cond_true,if_pos p1,Z5Q ⟨by omega,by omega⟩]
  simp
 ·rw[eqF p1,cond_false,if_neg p1]
  by_cases p2:s.ph=2
  ·rw[eqT p2,cond_true,if_pos p2]
   by_cases p3:s.lp<0
   ·rw[ltT p3,if_pos (.inl p3)];rfl
   ·rw[ltF (by omega),cond_false]
    by_cases p4:s.rp<0
    ·rw[ltT p4,if_pos (.inr p4)];rfl
    ·obtain⟨a,a1,a2,a3,_⟩:=ZGx s.runs 0 s.lp h5 (by omega)
     obtain⟨b,b1,b2,b3,_⟩:=ZGx s.runs 1 s.rp h5 (by omega)
     rw[show((0:Nat):Int)=0 from rfl]at a1
     rw[show((1:Nat):Int)=1 from rfl]at b1
     rw[ltF (by omega),cond_false,if_neg (by omega)]
     simp only[a1,b1,gA,ZBM a (by omega),ZBM b (by omega),a2,b2]
     rw[Z5Q ⟨by omega,by omega⟩]
     simp
  ·rw[eqF p2,cond_false,if_neg p2]
   by_cases p3:s.ph=3
   ·rw[eqT p3,cond_true,if_pos p3]
    by_cases p4:s.lp<0
    ·rw[ltT p4,cond_true]
     unfold rc
     cases s.runs[0]?<;>simp[p4]
    ·obtain⟨a,a1,a2,a3,_⟩:=ZGx s.runs 0 s.lp h5 (by omega)
     rw[show((0:Nat):Int)=0 from rfl]at a1
     rw[ltF (by omega),cond_false]
     simp only[a1,gA,ZBM a (by omega),a2]
   ·rw[eqF p3,cond_false,if_neg p3];rfl
def ZFD (s:So):Bool:=match s.runs with
 |a::b::_=>win s.lp 0 a.length&&(win s.rp 0 b.length&&(decide (s.out=mrg (a.take s.lp.toNat) (b.take s.rp.toNat))&&decide (s.out=(mrg a b).take (s.lp.toNat+s.rp.toNat))))
 |_=>false
def Z9H (s:So):Bool:=
 if s.ph=2 then ZFD s
 else if s.ph=3 then decide (s.runs.length=1)&&(decide (0≤s.lp∧s.lp<s.inp.length)&&(decide (s.rp=0)&&decide (s.out=[])))
 else if s.ph=4 then decide (s.runs.length≤1)&&(decide (s.lp=s.inp.length)&&(decide (s.rp=0)&&decide (s.out=[])))
 else false
def Z9g (s:So):Bool:=
 if s.ph=1 then decide (s.lp=0)&&(decide (s.rp=0)&&(decide (s.out≠[]∨s.dfd=[])&&(decide (ZDd s≤60)&&ZFZ (s.runs.flatten++(s.out++(s.heap++s.dfd))) (s.inp.take s.pos.toNat))))
 else decide (s.pos=s.inp.length)&&(decide (s.heap=[])&&(decide (s.dfd=[])&&(ZFZ s.runs.flatten s.inp&&Z9H s)))
def Z9s (s:So):Bool:=aok s.inp&&(win s.pos 0 s.inp.length&&(s.runs.all ZBS&&(decide (0≤s.wr)&&(isS s.out&&((s.heap.all fun r=> !ZAC r s.out)&&Z9g s)))))
def So.B2 (s:So):Prop:=s.sz≤1073741800
theorem So.B2.b {s:So} (h:s.B2):s.B:=by simp only[So.B2,So.B]at*;omega
theorem ZI1 (l:List Rw) (p:Int):List.take (tn (p-0)) (List.drop (tn 0) (l.map Rw.e))=(l.take p.toNat).map Rw.e:=by
 show List.take (p-0).toNat (List.drop 0 (l.map Rw.e))=_
 rw[Int.sub_zero,List.drop_zero,List.map_take]
theorem ZAK {α:Type} (l:List α):decide (l=[])=decide (l.length=0):=by
 cases l<;>simp
theorem ZI2 (n:Nat):leI (n:Int) 60=decide (n≤60):=by
 unfold leI;congr 1;apply propext;omega
theorem ZM3 (s:So) (h:s.B2) (hp:win s.pos 0 s.inp.length=true) (x0:Int) (x1:Rows) (n:Int):
  Z6f x0 x1 n n (s.inp.map Rw.e) s.pos (s.heap.map Rw.e) (s.dfd.map Rw.e) (s.out.map Rw.e) (s.runs.map rsE) s.lp s.rp s.ph s.wr=some [.bool (Z9g s)]:=by
 obtain⟨h1,h2,h3,h4,h5⟩:=h.b.p
 have hpp:=Z98.mp hp
 have hfl:=ZGI s.runs
 have hsz:s.inp.length+(s.heap.length+(s.dfd.length+(s.out.length+s.runs.flatten.length)))≤1073741800:=by
  simp only[So.B2,So.sz]at h;omega
 have ht:callI tE Z7h [.sl [[.sl (s.runs.flatten.map Rw.e)],[.sl (s.out.map Rw.e)],[.sl (s.heap.map Rw.e)],[.sl (s.dfd.map Rw.e)]]]=some [.sl ((s.runs.flatten++(s.out++(s.heap++s.dfd))).map Rw.e)]:=by
  have:=ZJO [s.runs.flatten,s.out,s.heap,s.dfd] (by simp only[szL];omega)
  simpa[rsE]using this
 have hb1:=ZLc (s.runs.flatten++(s.out++(s.heap++s.dfd))) (s.inp.take s.pos.toNat) (by(first|omega|(simp only[List.length_append,List.length_cons,List.length_nil,List.length_map,List.length_take,List.length_drop,List.length_replicate,Z5z]at* <;>omega))) (by(first|omega|(simp only[List.length_append,List.length_cons,List.length_nil,List.length_map,List.length_take,List.length_drop,List.length_replicate,Z5z]at* <;>omega)))
 have hb2:=ZLc s.runs.flatten s.inp (by omega) (by omega)
 rw[Z8z,ltF (Int.le_refl n),cond_false]
 simp only[ZK4 s.runs h5,ZMO s h.b,gA,ht,hb2,ZI1,hb1]
 unfold Z9g
 by_cases p1:s.ph=1
 ·rw[eqT p1,cond_true,if_pos p1]
  by_cases q1:s.lp=0
  ·rw[eqT q1,cond_true,decide_eq_true q1]
   by_cases q2:s.rp=0
   ·rw[eqT q2,cond_true,decide_eq_true q2,leT (show 0≤s.pos by omega),show leI s.pos (lenI (s.inp.map Rw.e))=true by rw[Z5L];exact leT (by omega)]
    simp only[Bool.and_self,cond_true,ZI2,Z5L]
    by_cases q3:0<s.out.length
    ·rw[ltT (by omega),cond_true,decide_eq_true (show s.out≠[]∨s.dfd=[]from .inl (fun e=>by rw[e]at q3;simp at q3))]
     cases decide (ZDd s≤60)<;>rfl
    ·rw[ltF (by omega),cond_false]
     have qo:s.out=[]:=List.length_eq_zero_iff.mp (by omega)
     by_cases q4:s.dfd.length=0
     ·rw[eqT (by omega),cond_true,decide_eq_true (show s.out≠[]∨s.dfd=[]from .inr (List.length_eq_zero_iff.mp q4))]
      cases decide (ZDd s≤60)<;>rfl
     ·rw[eqF (by omega),cond_false,decide_eq_false (show¬(s.out≠[]∨s.dfd=[])from fun e=>e.elim (fun e=>e qo) (fun e=>q4 (by rw[e];rfl)))]
      rfl
   ·rw[eqF q2,decide_eq_false q2];rfl
  ·rw[eqF q1,decide_eq_false q1];rfl
 ·rw[eqF p1,cond_false,if_neg p1]
  simp only[Z5L]
  by_cases q1:s.pos=s.inp.length
  ·rw[eqT q1,Bool.not_true,cond_false,decide_eq_true q1]
   by_cases q2:s.heap.length=0
   ·rw[ltF (by omega),cond_false,ZAK s.heap,decide_eq_true q2]
    by_cases q3:s.dfd.length=0
    ·rw[ltF (by omega),cond_false,ZAK s.dfd,decide_eq_true q3]
     simp only[Bool.true_and]
     cases ZFZ s.runs.flatten s.inp
     ·rfl
     ·simp only[Bool.not_true,cond_false,Bool.true_and]
      unfold Z9H
      by_cases p2:s.ph=2
      ·rw[eqT p2,cond_true,if_pos p2]
       unfold ZFD
       cases hr:s.runs with
       |nil=>rfl
       |cons a r=>
        cases r with
        |nil=>rfl
        |cons b r=>
         have ha:a.length≤1073741824:=Nat.le_trans (Z9b (by rw[hr];simp)) h5
         have hb:b.length≤1073741824:=Nat.le_trans (Z9b (by rw[hr];simp)) h5
         have g0:at' ((a::b::r).map rsE) (tn 0)=rsE a:=rfl
         have g1:at' ((a::b::r).map rsE) (tn 1)=rsE b:=rfl
         have l0:ltI ((a::b::r).length:Int) 2=false:=ltF (by simp;omega)
         have l1:inR 0 ((a::b::r).length:Int)=true:=ZDl (by omega) (by simp;omega)
         have l2:inR 1 ((a::b::r).length:Int)=true:=ZDl (by omega) (by simp;omega)
         simp only[l0,l1,l2,cond_true,cond_false,g0,g1,rsE,gA,Z5L,ZBI]
         by_cases w1:win s.lp 0 a.length=true
         ·by_cases w2:win s.rp 0 b.length=true
          ·have w3:=Z98.mp w1
           have w4:=Z98.mp w2
           have m1:=ZMM (a.take s.lp.toNat) (b.take s.rp.toNat) (by simp;omega)
           have m2:=ZMM a b (by omega)
           have ml:=Z9G a b
           have e1:=ZGe s.out (mrg (a.take s.lp.toNat) (b.take s.rp.toNat)) (by omega)
           have e2:=ZGe s.out ((mrg a b).take (s.lp.toNat+s.rp.toNat)) (by omega)
           have e3:w64 (s.lp+s.rp)=s.lp+s.rp:=Z5Q ⟨by omega,by omega⟩
           have e4:(s.lp+s.rp).toNat=s.lp.toNat+s.rp.toNat:=by omega
           rw[w1,w2,leT w3.1,leT w3.2,leT w4.1,leT w4.2]
           simp only[Bool.not_true,cond_false,Bool.and_self,cond_true,ZI1,m1,m2,e1,gA,e3,e4,Z5L,e2]
           rw[leT (by omega),leT (by rw[ml];omega)]
           simp only[Bool.and_self,cond_true,Bool.true_and]
           cases decide (s.out=mrg (a.take s.lp.toNat) (b.take s.rp.toNat))<;>rfl
          ·rw[w1,(Bool.not_eq_true _).mp w2];rfl
         ·rw[(Bool.not_eq_true _).mp w1];rfl
      ·rw[eqF p2,cond_false,if_neg p2]
       by_cases p3:s.ph=3
       ·rw[eqT p3,cond_true,if_pos p3]
        by_cases w1:s.runs.length=1
        ·rw[eqT (by omega),cond_true,decide_eq_true w1]
         simp only[ZBI,ZJP (show s.inp.length≤1073741824 by omega),gA,Bool.true_and]
         by_cases w2:0≤s.lp∧s.lp<s.inp.length
         ·rw[decide_eq_true w2,cond_true]
          by_cases w3:s.rp=0
          ·rw[eqT w3,cond_true,decide_eq_true w3,ZAK]
           unfold eqI
           simp
          ·rw[eqF w3,decide_eq_false w3];rfl
         ·rw[decide_eq_false w2];rfl
        ·rw[eqF (by omega),decide_eq_false w1];rfl
       ·rw[eqF p3,cond_false,if_neg p3]
        by_cases p4:s.ph=4
        ·rw[eqT p4,cond_true,if_pos p4]
         by_cases w1:s.runs.length≤1
         ·rw[leT (by omega),cond_true,decide_eq_true w1]
          by_cases w2:s.lp=s.inp.length
          ·rw[eqT w2,cond_true,decide_eq_true w2]
           by_cases w3:s.rp=0
           ·rw[eqT w3,cond_true,decide_eq_true w3,ZAK]
            unfold eqI
            simp
           ·rw[eqF w3,decide_eq_false w3];rfl
          ·rw[eqF w2,decide_eq_false w2];rfl
         ·rw[leF (by omega),decide_eq_false w1];rfl
        ·rw[eqF p4,if_neg p4];rfl
    ·rw[ltT (by omega),ZAK s.dfd,decide_eq_false q3];simp
   ·rw[ltT (by omega),ZAK s.heap,decide_eq_false q2];rfl
  ·rw[eqF q1,decide_eq_false q1];rfl
theorem ZD9 (s:So) (h:s.B2):callI tE Z5t [.sl (s.inp.map Rw.e),.int s.pos,.sl (s.heap.map Rw.e),.sl (s.dfd.map Rw.e),.sl (s.out.map Rw.e),.sl (s.runs.map rsE),.int s.lp,.int s.rp,.int s.ph,.int s.wr]=some [.bool (Z9s s)]:=by
 obtain⟨h1,h2,h3,h4,h5⟩:=h.b.p
 rw[ZCJ]
 simp only[ZBJ,ZBI,Z5L,ZIT s.runs h5,ZGt s.out (by omega),gA]
 unfold Z9s
 cases aok s.inp
 ·rfl
 ·by_cases hp:win s.pos 0 s.inp.length=true
  ·rw[hp]
   cases s.runs.all ZBS
   ·rfl
   ·by_cases hw:0≤s.wr
    ·rw[ltF hw,decide_eq_true hw]
     cases isS s.out
     ·rfl
     ·have:=ZCC (l:=s.heap) (L:=fun i=>Z6f 0 (s.heap.map Rw.e) (s.heap.length:Nat) i (s.inp.map Rw.e) s.pos (s.heap.map Rw.e) (s.dfd.map Rw.e) (s.out.map Rw.e) (s.runs.map rsE) s.lp s.rp s.ph s.wr) (p:=fun r=> !ZAC r s.out) (no:=some [.bool false]) (yes:=some [.bool (Z9g s)]) (by omega) (fun u a v e=>by
       have hu:u.length<s.heap.length:=by rw[e];simp
       have ha:at' (s.heap.map Rw.e) u.length=a.e:=ZDs e rfl
       rw[Z8z,ltT (by omega),cond_true,ZBq hu,cond_true]
       simp only[Z86,ha,gk,gv,gw,ZKT a s.out (by omega),gA]
       cases ZAC a s.out<;>rfl) (ZM3 s h hp 0 _ _)
      refine this.trans ?_
      cases s.heap.all fun r=> !ZAC r s.out<;>rfl
    ·rw[ltT (by omega),decide_eq_false hw];rfl
  ·rw[(Bool.not_eq_true _).mp hp];rfl
theorem ZM4 (s:So) (h:s.B2) (hp:win s.pos 0 s.inp.length=true) (x0:Int):
  Z6G x0 (w64 ((s.out.length:Int)-1)) (s.heap.length:Nat) (s.inp.map Rw.e) s.pos (s.heap.map Rw.e) (s.dfd.map Rw.e) (s.out.map Rw.e) (s.runs.map rsE) s.lp s.rp s.ph s.wr=some [.bool (Z9g s)]:=by
 obtain⟨h1,h2,h3,h4,h5⟩:=h.b.p
 have hpp:=Z98.mp hp
 have hfl:=ZGI s.runs
 have hsz:s.inp.length+(s.heap.length+(s.dfd.length+(s.out.length+s.runs.flatten.length)))≤1073741800:=by
  simp only[So.B2,So.sz]at h;omega
 have hb1:=ZLd (s.runs.flatten++(s.out++(s.heap++s.dfd))) (s.inp.take s.pos.toNat) (by(first|omega|(simp only[List.length_append,List.length_cons,List.length_nil,List.length_map,List.length_take,List.length_drop,List.length_replicate,Z5z]at* <;>omega))) (by(first|omega|(simp only[List.length_append,List.length_cons,List.length_nil,List.length_map,List.length_take,List.length_drop,List.length_replicate,Z5z]at* <;>omega)))
 have hb2:=ZLd s.runs.flatten s.inp (by omega) (by omega)
 have f1:fitM (s.runs.flatten.length+s.out.length) 24=true:=Z97 (by omega)
 have f2:fitM ((s.runs.flatten++s.out).length+s.heap.length) 24=true:=Z97 (by(first|omega|(simp only[List.length_append,List.length_cons,List.length_nil,List.length_map,List.length_take,List.length_drop,List.length_replicate,Z5z]at* <;>omega)))
 have f3:fitM ((s.runs.flatten++s.out++s.heap).length+s.dfd.length) 24=true:=Z97 (by(first|omega|(simp only[List.length_append,List.length_cons,List.length_nil,List.length_map,List.length_take,List.length_drop,List.length_replicate,Z5z]at* <;>omega)))
 have hass:s.runs.flatten++s.out++s.heap++s.dfd=s.runs.flatten++(s.out++(s.heap++s.dfd)):=by simp
 have hlast:leI 0 (w64 ((s.out.length:Int)-1))=decide (0<s.out.length):=by
  rw[Z5Q ⟨by omega,by omega⟩];unfold leI;congr 1;apply propext;omega
 rw[Z90,Z5L,ltF (Int.le_refl _),cond_false]
 simp only[ZK5 s.runs h5,ZMP s h.b,gA,hb2,ZI1,Z5b,Z9z,f1,f2,f3,cond_true,hass,hb1,hlast,Z5L]
 unfold Z9g
 by_cases p1:s.ph=1
 ·rw[eqT p1,cond_true,if_pos p1]
  by_cases q1:s.lp=0
  ·rw[eqT q1,cond_true,decide_eq_true q1]
   by_cases q2:s.rp=0
   ·rw[eqT q2,cond_true,decide_eq_true q2,leT (show 0≤s.pos by omega),leT (show s.pos≤s.inp.length by omega)]
    simp only[Bool.and_self,cond_true,ZI2]
    by_cases q4:s.dfd.length=0
    ·rw[eqT (by omega),cond_true,decide_eq_true (show s.out≠[]∨s.dfd=[]from .inr (List.length_eq_zero_iff.mp q4))]
     cases decide (ZDd s≤60)<;>rfl
    ·rw[eqF (by omega),cond_false]
     by_cases q3:0<s.out.length
     ·rw[decide_eq_true q3,cond_true,decide_eq_true (show s.out≠[]∨s.dfd=[]from .inl (fun e=>by rw[e]at q3;simp at q3))]
      cases decide (ZDd s≤60)<;>rfl
     ·have qo:s.out=[]:=List.length_eq_zero_iff.mp (by omega)
      rw[decide_eq_false q3,cond_false,decide_eq_false (show¬(s.out≠[]∨s.dfd=[])from fun e=>e.elim (fun e=>e qo) (fun e=>q4 (by rw[e];rfl)))]
      rfl
   ·rw[eqF q2,decide_eq_false q2];rfl
  ·rw[eqF q1,decide_eq_false q1];rfl
 ·rw[eqF p1,cond_false,if_neg p1]
  by_cases q1:s.pos=s.inp.length
  ·rw[eqT q1,Bool.not_true,cond_false,decide_eq_true q1,Z5Q (n:=(s.heap.length:Int)+(s.dfd.length:Int)) ⟨by omega,by omega⟩]
   by_cases q2:s.heap.length=0
   ·by_cases q3:s.dfd.length=0
    ·rw[ltF (by omega),cond_false,ZAK s.heap,decide_eq_true q2,ZAK s.dfd,decide_eq_true q3]
     simp only[Bool.true_and]
     unfold Z9H
     by_cases p2:s.ph=2
     ·rw[eqT p2,cond_true,if_pos p2]
      unfold ZFD
      cases hr:s.runs with
      |nil=>simp[ltI]
      |cons a r=>
       cases r with
       |nil=>simp[ltI]
       |cons b r=>
        have ha:a.length≤1073741824:=Nat.le_trans (Z9b (by rw[hr];simp)) h5
        have hb:b.length≤1073741824:=Nat.le_trans (Z9b (by rw[hr];simp)) h5
        have g0:at' ((a::b::r).map rsE) (tn 0)=rsE a:=rfl
        have g1:at' ((a::b::r).map rsE) (tn 1)=rsE b:=rfl
        have l0:ltI ((a::b::r).length:Int) 2=false:=ltF (by simp;omega)
        have l1:inR 0 ((a::b::r).length:Int)=true:=ZDl (by omega) (by simp;omega)
        have l2:inR 1 ((a::b::r).length:Int)=true:=ZDl (by omega) (by simp;omega)
        simp only[l0,l1,l2,cond_true,cond_false,g0,g1,rsE,gA,Z5L,ZCW]
        by_cases w1:win s.lp 0 a.length=true
        ·by_cases w2:win s.rp 0 b.length=true
         ·have w3:=Z98.mp w1
          have w4:=Z98.mp w2
          have m1:=ZMN (a.take s.lp.toNat) (b.take s.rp.toNat) (by simp;omega)
          have m2:=ZMN a b (by omega)
          have ml:=Z9G a b
          have ml2:=Z9G (a.take s.lp.toNat) (b.take s.rp.toNat)
          simp only[List.length_take]at ml2
          have e1:=ZHj (mrg (a.take s.lp.toNat) (b.take s.rp.toNat)) s.out (by omega)
          have e2:=ZHj s.out ((mrg a b).take (s.lp.toNat+s.rp.toNat)) (by omega)
          have e3:w64 (s.lp+s.rp)=s.lp+s.rp:=Z5Q ⟨by omega,by omega⟩
          have e4:(s.lp+s.rp).toNat=s.lp.toNat+s.rp.toNat:=by omega
          have e5:decide (mrg (a.take s.lp.toNat) (b.take s.rp.toNat)=s.out)=decide (s.out=mrg (a.take s.lp.toNat) (b.take s.rp.toNat)):=by
           congr 1;exact propext ⟨fun e=>e.symm,fun e=>e.symm⟩
          rw[w1,w2,leT w3.1,leT w3.2,leT w4.1,leT w4.2]
          simp only[Bool.not_true,cond_false,Bool.and_self,cond_true,ZI1,m1,m2,gA,e3,e4,Z5L,e2,e1]
          rw[leT (by omega),leT (by rw[ml];omega),e5]
          simp only[Bool.and_self,cond_true,Bool.true_and]
          cases decide (s.out=(mrg a b).take (s.lp.toNat+s.rp.toNat))<;>cases decide (s.out=mrg (a.take s.lp.toNat) (b.take s.rp.toNat))<;>simp
         ·rw[w1,(Bool.not_eq_true _).mp w2];simp
        ·rw[(Bool.not_eq_true _).mp w1];simp
     ·rw[eqF p2,cond_false,if_neg p2]
      by_cases w1:s.runs.length≤1
      ·rw[ltF (by omega),cond_false]
       by_cases w2:s.rp=0
       ·rw[eqT w2,Bool.not_true,cond_false,decide_eq_true w2]
        by_cases w3:s.out.length=0
        ·rw[ltF (by omega),cond_false,ZAK s.out,decide_eq_true w3]
         cases ZFZ s.runs.flatten s.inp
         ·rfl
         ·simp only[Bool.not_true,cond_false,Bool.true_and,Bool.and_true]
          by_cases p3:s.ph=3
          ·rw[eqT p3,cond_true,if_pos p3]
           by_cases w4:s.runs.length=1
           ·rw[eqT (by omega),cond_true,decide_eq_true w4]
            simp only[ZCW,ZJP (show s.inp.length≤1073741824 by omega),gA,Bool.true_and]
           ·rw[eqF (by omega),decide_eq_false w4];rfl
          ·rw[eqF p3,cond_false,if_neg p3]
           by_cases p4:s.ph=4
           ·rw[eqT p4,cond_true,if_pos p4,decide_eq_true w1]
            unfold eqI
            simp
           ·rw[eqF p4,if_neg p4];rfl
        ·rw[ltT (by omega),ZAK s.out,decide_eq_false w3]
         simp
       ·rw[eqF w2,decide_eq_false w2]
        simp
      ·rw[ltT (by omega),decide_eq_false w1,decide_eq_false (show¬s.runs.length=1 by omega)]
       simp
    ·rw[ltT (by omega),ZAK s.dfd,decide_eq_false q3];simp
   ·rw[ltT (by omega),ZAK s.heap,decide_eq_false q2];simp
  ·rw[eqF q1,decide_eq_false q1];rfl
theorem ZEN (s:So) (h:s.B2):callI tE Z6C [.sl (s.inp.map Rw.e),.int s.pos,.sl (s.heap.map Rw.e),.sl (s.dfd.map Rw.e),.sl (s.out.map Rw.e),.sl (s.runs.map rsE),.int s.lp,.int s.rp,.int s.ph,.int s.wr]=some [.bool (Z9s s)]:=by
 obtain⟨h1,h2,h3,h4,h5⟩:=h.b.p
 rw[ZCL]
 simp only[ZA7 s.inp (by omega),ZCW,Z5L,ZIU s.runs h5,ZGv s.out (by omega),gA]
 unfold Z9s
 cases aok s.inp
 ·rfl
 ·by_cases hp:win s.pos 0 s.inp.length=true
  ·rw[hp]
   cases s.runs.all ZBS
   ·rfl
   ·by_cases hw:0≤s.wr
    ·rw[ltF hw,decide_eq_true hw]
     cases isS s.out
     ·rfl
     ·have hlast:leI 0 (w64 ((s.out.length:Int)-1))=decide (0<s.out.length):=by
       rw[Z5Q ⟨by omega,by omega⟩];unfold leI;congr 1;apply propext;omega
      have:=ZCC (l:=s.heap) (L:=fun i=>Z6G 0 (w64 ((s.out.length:Int)-1)) i (s.inp.map Rw.e) s.pos (s.heap.map Rw.e) (s.dfd.map Rw.e) (s.out.map Rw.e) (s.runs.map rsE) s.lp s.rp s.ph s.wr) (p:=fun r=> !ZAC r s.out) (no:=some [.bool false]) (yes:=some [.bool (Z9g s)]) (by omega) (fun u a v e=>by
       have hu:u.length<s.heap.length:=by rw[e];simp
       have ha:at' (s.heap.map Rw.e) u.length=a.e:=ZDs e rfl
       rw[Z90,Z5L,ltT (by omega),cond_true,hlast]
       rcases ZGH s.out with ho|⟨q,x,ho⟩
       ·rw[ho,ZCG];rfl
       ·have hx:at' (s.out.map Rw.e) q.length=x.e:=ZDs (u:=q) (v:=[]) (by rw[ho]) rfl
        have hql:s.out.length=q.length+1:=by rw[ho];simp
        have hl2:w64 ((s.out.length:Int)-1)=(q.length:Int):=by rw[Z5Q ⟨by omega,by omega⟩];omega
        rw[decide_eq_true (by omega:0<s.out.length),cond_true,hl2,ZDl (by omega) (by omega),ZBq (by omega)]
        simp only[cond_true,Z86,ha,hx,gk,gv,gw,ZBa,gA,ZAk]
        rw[show ZAC a s.out=decide (Rw.lt a x)by rw[ho,ZAo]]
        cases decide (Rw.lt a x)<;>rfl) (ZM4 s h hp 0)
      refine this.trans ?_
      cases s.heap.all fun r=> !ZAC r s.out<;>rfl
    ·rw[ltT (by omega),decide_eq_false hw];rfl
  ·rw[(Bool.not_eq_true _).mp hp];rfl
def ZIV (s:So):Int:=if Z9s s then(if s.ph=3∨s.ph=4 then w64 ((s.inp.length:Int)-s.lp)else s.inp.length)else 0
theorem ZMa (s:So) (h:s.B2):callI tE Z8r [.sl (s.inp.map Rw.e),.int s.pos,.sl (s.heap.map Rw.e),.sl (s.dfd.map Rw.e),.sl (s.out.map Rw.e),.sl (s.runs.map rsE),.int s.lp,.int s.rp,.int s.ph,.int s.wr]=some [.int (ZIV s)]:=by
 rw[ZCK,ZD9 s h]
 simp only[gA,Z5L]
 unfold ZIV
 by_cases hv:Z9s s=true
 ·rw[hv,if_pos rfl]
  by_cases p3:s.ph=3
  ·rw[eqT p3,if_pos (.inl p3)];rfl
  ·rw[eqF p3]
   by_cases p4:s.ph=4
   ·rw[eqT p4,if_pos (.inr p4)];rfl
   ·rw[eqF p4,if_neg (fun e=>e.elim p3 p4)];rfl
 ·rw[(Bool.not_eq_true _).mp hv];rfl
theorem ZMb (s:So) (h:s.B2):callI tE Z8s [.sl (s.inp.map Rw.e),.int s.pos,.sl (s.heap.map Rw.e),.sl (s.dfd.map Rw.e),.sl (s.out.map Rw.e),.sl (s.runs.map rsE),.int s.lp,.int s.rp,.int s.ph,.int s.wr]=some [.int (ZIV s)]:=by
 rw[ZCM,ZEN s h]
 simp only[gA,Z5L]
 unfold ZIV
 by_cases hv:Z9s s=true
 ·rw[hv,if_pos rfl]
  by_cases p3:s.ph=3
  ·rw[eqT p3,if_pos (.inl p3)];rfl
  ·rw[eqF p3]
   by_cases p4:s.ph=4
   ·rw[eqT p4,if_pos (.inr p4)];rfl
   ·rw[eqF p4,if_neg (fun e=>e.elim p3 p4)];rfl
 ·rw[(Bool.not_eq_true _).mp hv];rfl
def ZGJ (c:Ck):Bool:=Z9s c.so&&(aok c.em&&(decide (w64 ((c.em.length:Int)+ZIV c.so)=c.so.inp.length)&&decide (c.em=(Z9J c.so.inp).take c.em.length)))
def Ck.B2 (c:Ck):Prop:=c.sz≤1073741800
theorem ZKU {s:So} (h:s.B2):0≤ZIV s∧ZIV s≤s.inp.length:=by
 obtain⟨h1,h2,h3,h4,h5⟩:=h.b.p
 unfold ZIV
 by_cases hv:Z9s s=true
 ·rw[if_pos hv]
  by_cases hp:s.ph=3∨s.ph=4
  ·rw[if_pos hp]
   have hlp:0≤s.lp∧s.lp≤s.inp.length:=by
    simp only[Z9s,Bool.and_eq_true]at hv
    have ht:=hv.2.2.2.2.2.2
    unfold Z9g at ht
    rw[if_neg (by omega)]at ht
    simp only[Bool.and_eq_true]at ht
    have hl:=ht.2.2.2.2
    unfold Z9H at hl
    rw[if_neg (by omega)]at hl
    by_cases p3:s.ph=3
    ·rw[if_pos p3]at hl
     simp only[Bool.and_eq_true,decide_eq_true_eq]at hl
     omega
    ·rw[if_neg p3,if_pos (by omega)]at hl
     simp only[Bool.and_eq_true,decide_eq_true_eq]at hl
     omega
   rw[Z5Q ⟨by omega,by omega⟩]
   omega
  ·rw[if_neg hp];omega
 ·rw[if_neg hv];omega
theorem ZI3 (c:Ck) (h:c.B2):callI tE Z6s [.sl (c.so.inp.map Rw.e),.int c.so.pos,.sl (c.so.heap.map Rw.e),.sl (c.so.dfd.map Rw.e),.sl (c.so.out.map Rw.e),.sl (c.so.runs.map rsE),.int c.so.lp,.int c.so.rp,.int c.so.ph,.int c.so.wr,.sl (c.em.map Rw.e)]=some [.bool (ZGJ c)]:=by
 have hso:c.so.B2:=by simp only[Ck.B2,Ck.sz,So.B2]at*;omega
 have hem:c.em.length≤1073741824:=by simp only[Ck.B2,Ck.sz]at h;omega
 obtain⟨h1,h2,h3,h4,h5⟩:=hso.b.p
 have hr:=ZKU hso
 rw[ZBP]
 simp only[ZD9 c.so hso,ZBJ,ZMa c.so hso,ZKy c.so.inp (by omega),gA,Z5L]
 unfold ZGJ
 cases Z9s c.so
 ·rfl
 ·cases aok c.em
  ·rfl
  ·simp only[cond_true,Bool.true_and]
   by_cases hq:w64 ((c.em.length:Int)+ZIV c.so)=c.so.inp.length
   ·rw[eqT hq,decide_eq_true hq]
    rw[Z5Q ⟨by omega,by omega⟩]at hq
    rw[leT (by omega),leT (by rw[Z91];omega)]
    simp only[Bool.and_self,cond_true,ZKS,ZGe c.em _ (show c.em.length≤1152921504606846976 by omega),gA,Bool.true_and]
   ·rw[eqF hq,decide_eq_false hq];rfl
theorem ZK7 (c:Ck) (h:c.B2):callI tE Z7l [.sl (c.so.inp.map Rw.e),.int c.so.pos,.sl (c.so.heap.map Rw.e),.sl (c.so.dfd.map Rw.e),.sl (c.so.out.map Rw.e),.sl (c.so.runs.map rsE),.int c.so.lp,.int c.so.rp,.int c.so.ph,.int c.so.wr,.sl (c.em.map Rw.e)]=some [.bool (ZGJ c)]:=by
 have hso:c.so.B2:=by simp only[Ck.B2,Ck.sz,So.B2]at*;omega
 have hem:c.em.length≤1073741824:=by simp only[Ck.B2,Ck.sz]at h;omega
 obtain⟨h1,h2,h3,h4,h5⟩:=hso.b.p
 have hr:=ZKU hso
 rw[ZBQ]
 simp only[ZEN c.so hso,ZA7 c.em (by omega),ZMb c.so hso,ZJN c.so.inp (by omega),gA,Z5L]
 unfold ZGJ
 cases Z9s c.so
 ·rfl
 ·cases aok c.em
  ·rfl
  ·simp only[Bool.not_true,cond_false,Bool.true_and]
   by_cases hq:w64 ((c.em.length:Int)+ZIV c.so)=c.so.inp.length
   ·rw[eqT hq,decide_eq_true hq]
    rw[Z5Q ⟨by omega,by omega⟩]at hq
    rw[leT (by omega),leT (by rw[Z91];omega)]
    simp only[Bool.not_true,cond_false,Bool.and_self,cond_true,ZKS,ZHj c.em _ (show c.em.length≤1152921504606846976 by omega),gA,Bool.true_and]
   ·rw[eqF hq,decide_eq_false hq];rfl
theorem ZGK {b:UInt8} {c:Nat}:∀{l:List (List UInt8)},(∀x∈l,x.length≤c)→(l.map fun x=>x.length+[b].length).sum≤(c+1)*l.length
 |[],_=>by simp
 |x::l,h=>by
  have h1:=h x (by simp)
  have ih:=ZGK (b:=b) (l:=l) (fun y hy=>h y (by simp[hy]))
  simp only[List.map_cons,List.sum_cons,List.length_cons,List.length_nil]at ih⊢
  rw[Nat.mul_add];omega
theorem ZJR {b:UInt8} {c:Nat} {l:List (List UInt8)} (h:∀x∈l,x.length≤c):(Z85 [b] l).length≤(c+1)*l.length:=Nat.le_trans (ZCv _ _) (ZGK h)
theorem ZBk {b c:UInt8} (h:b≠c):∀l:List (List UInt8),(∀x∈l,b∉x)→b∉Z85 [c] l
 |[],_=>by simp[Z85]
 |[x],hx=>by simpa[Z85]using hx x (by simp)
 |x::y::r,hx=>by
  have ih:=ZBk h (y::r) (fun z hz=>hx z (by simp[hz]))
  rw[Z9D (by simp)]
  simp only[List.mem_append,List.mem_singleton,not_or]
  exact⟨⟨hx x (by simp),h⟩,ih⟩
theorem ZHN {b:UInt8} (hb:ZAH b=false) (h45:b≠45) (h46:b≠46) (h32:b≠32) (l:List Rw):b∉ZBp l:=
 ZBk h32 _ (fun x hx=>by
  obtain⟨r,_,rfl⟩:=List.mem_map.mp hx
  exact ZFm hb h45 h46 r)
theorem ZAq {b:UInt8} (hb:ZAH b=false) (h45:b≠45) (h46:b≠46) (h32:b≠32) (l:List Rw):b∉Z6x l:=by
 unfold Z6x
 split
 ·exact ZHN hb h45 h46 h32 l
 ·simp
def Z73 (l:List (List Rw)):List UInt8:=Z85 [124] (l.map Z6x)
theorem ZI4 (l:List (List Rw)):∀x∈l.map Z6x,x.length≤1512:=fun x hx=>by
 obtain⟨r,_,rfl⟩:=List.mem_map.mp hx
 exact Z6L r
theorem ZAr (l:List (List Rw)):(Z73 l).length≤1513*l.length:=by have:=ZJR (b:=124) (ZI4 l);simpa[Z73]using this
theorem ZDA {b:UInt8} (hb:ZAH b=false) (h45:b≠45) (h46:b≠46) (h32:b≠32) (h124:b≠124) (l:List (List Rw)):b∉Z73 l:=
 ZBk h124 _ (fun x hx=>by
  obtain⟨r,_,rfl⟩:=List.mem_map.mp hx
  exact ZAq hb h45 h46 h32 r)
theorem ZHO (l:List (List Rw)) (h:ZAp l):callI tE Z8a [.sl (l.map rsE)]=some [.str (S (Z73 l))]:=by
 have hl:=Z8I List.length l
 unfold ZAp at h
 rw[ZDT]
 have hj:=ZGK (b:=124) (ZI4 l)
 rw[List.length_map]at hj
 have:=Z6d (l:=l) (L:=fun(s:List (List UInt8)) i=>Z6N (l.map rsE) (lenI (l.map rsE)) i (s.map StE)) (F:=fun _ _=>some [.str (S (Z73 l))]) (I:=fun s u _=>s=u.map Z6x) (by omega) (fun u a v s e hI=>by
  have hul:u.length<1099511627776:=by rw[e]at hl;simp at hl;rw[e]at h;omega
  refine .inl ⟨(u++[a]).map Z6x,?_,rfl,rfl⟩
  show Z6N _ _ _ _=Z6N _ _ _ _
  have hf:fitM (Nat.succ u.length) 16=true:=Z97 (by omega)
  subst e
  rw[Z9e,hI]
  simp only[ZFO,ZFP,Z86,ZEG,cond_true,rsE,gA,ZCb,Z5b]
  rw[List.length_map,hf,cond_true,ZBc]
  simp) (fun s hs=>by
  show Z6N _ _ _ _=_
  rw[Z9e,ZEd,cond_false,hs,ZHG [124] (l.map Z6x) (by simp;omega) (by omega)];rfl) [] rfl
 exact this
theorem ZHP (l:List (List Rw)) (h:ZAp l):callI tE Z8e [.sl (l.map rsE)]=some [.str (S (Z73 l))]:=by
 have hl:=Z8I List.length l
 unfold ZAp at h
 rw[ZDW]
 have:=Z6d (l:=l) (L:=fun s i=>Z62 (l.map rsE) (S s) i) (F:=fun _ _=>some [.str (S (Z73 l))]) (I:=fun s u _=>s=Z73 u) (by omega) (fun u a v s e hI=>by
  have hul:u.length<1099511627776:=by rw[e]at hl;simp at hl;rw[e]at h;omega
  have ha:a.length≤1073741824:=Nat.le_trans (Z9b (by rw[e];simp)) h
  have l0:=ZAr u
  have l1:=Z6L a
  refine .inl ⟨Z73 (u++[a]),?_,rfl,rfl⟩
  show Z62 _ _ _=Z62 _ _ _
  have ej:Z73 (u++[a])=if u=[]then Z6x a else Z73 u++[124]++Z6x a:=by
   unfold Z73
   rw[List.map_append,List.map_cons,List.map_nil,ZHF]
   simp
  subst e
  rw[Z9f,hI,ej]
  simp only[ZFO,ZFP,Z86,ZEG,cond_true,rsE,gA,Z9p a (show a.length<1099511627776 by omega)]
  by_cases hu:u=[]
  ·have e0:Z73 u=[]:=by rw[hu];rfl
   rw[if_pos hu,ltF (by simp[hu]),e0,cond_false,Z5n (by simp;omega),Z6c]
   rfl
  ·have hul:0<u.length:=List.length_pos_iff.mpr hu
   rw[if_neg hu,ltT (by omega),cond_true,Z5n (by simp;omega),Z6c,cond_true,Z5n (by simp;omega),Z6c,cond_true]) (fun s hs=>by
  show Z62 _ _ _=_
  rw[Z9f,ZEd,cond_false,hs]) [] rfl
 exact this
theorem Z8q:∀(n:Nat) (a b:List Rw),a.length+b.length=n→(mrg a b).Perm (a++b)
 |_,[],b,_=>by rw[Z9r];exact List.Perm.refl _
 |_,x::a,[],_=>by rw[ZAa];simp
 |0,x::a,y::b,h=>by simp at h
 |n+1,x::a,y::b,h=>by
  simp only[List.length_cons]at h
  rw[ZFC]
  split
  ·exact(Z8q n a (y::b) (by simp;omega)).cons x
  ·exact((Z8q n (x::a) b (by simp;omega)).cons y).trans (List.perm_middle.symm)
theorem ZFE {l m:List Rw} (h:aok m=true) (hl:l.length≤m.length) (hs:∀r∈l,r∈m):aok l=true:=by
 have:=ZIp.mp h
 exact ZIp.mpr ⟨by omega,fun r hr=>this.2 r (hs r hr)⟩
theorem Z7E {s:So} (h:Z9s s=true):aok s.inp=true∧(0≤s.pos∧s.pos≤s.inp.length)∧(∀r∈s.runs,ZBS r=true)∧0≤s.wr∧Srt s.out∧(∀r∈s.heap,ZAC r s.out=false)∧Z9g s=true:=by
 simp only[Z9s,Bool.and_eq_true,Z98,decide_eq_true_eq,List.all_eq_true,ZFB,Bool.not_eq_true']at h
 exact h
theorem ZB5 {s:So} (h:Z9g s=true) (p:s.ph=1):s.lp=0∧s.rp=0∧(s.out≠[]∨s.dfd=[])∧ZDd s≤60∧(s.runs.flatten++(s.out++(s.heap++s.dfd))).Perm (s.inp.take s.pos.toNat):=by
 unfold Z9g at h
 rw[if_pos p]at h
 simp only[Bool.and_eq_true,decide_eq_true_eq,ZC7]at h
 exact h
theorem Z7c {s:So} (h:Z9g s=true) (p:s.ph≠1):s.pos=s.inp.length∧s.heap=[]∧s.dfd=[]∧s.runs.flatten.Perm s.inp∧Z9H s=true:=by
 unfold Z9g at h
 rw[if_neg p]at h
 simp only[Bool.and_eq_true,decide_eq_true_eq,ZC7]at h
 exact h
theorem ZCH {s:So} (h:Z9H s=true) (p:s.ph=2):∃a b r,s.runs=a::b::r∧(0≤s.lp∧s.lp≤a.length)∧(0≤s.rp∧s.rp≤b.length)∧s.out=mrg (a.take s.lp.toNat) (b.take s.rp.toNat)∧s.out=(mrg a b).take (s.lp.toNat+s.rp.toNat):=by
 unfold Z9H at h
 rw[if_pos p]at h
 unfold ZFD at h
 split at h
 ·rename_i a b r hr
  simp only[Bool.and_eq_true,decide_eq_true_eq,Z98]at h
  exact⟨a,b,r,hr,h.1,h.2.1,h.2.2.1,h.2.2.2⟩
 ·cases h
theorem ZB6 {s:So} (h:Z9H s=true) (p:s.ph=3):s.runs.length=1∧(0≤s.lp∧s.lp<s.inp.length)∧s.rp=0∧s.out=[]:=by
 unfold Z9H at h
 rw[if_neg (by omega),if_pos p]at h
 simp only[Bool.and_eq_true,decide_eq_true_eq]at h
 exact⟨h.1,h.2.1,h.2.2.1,h.2.2.2⟩
theorem ZDB {s:So} (h:Z9H s=true) (p:s.ph=4):s.runs.length≤1∧s.lp=s.inp.length∧s.rp=0∧s.out=[]:=by
 unfold Z9H at h
 rw[if_neg (by omega),if_neg (by omega),if_pos p]at h
 simp only[Bool.and_eq_true,decide_eq_true_eq]at h
 exact⟨h.1,h.2.1,h.2.2.1,h.2.2.2⟩
theorem ZBT {s:So} (h:Z9H s=true):s.ph=2∨s.ph=3∨s.ph=4:=by
 unfold Z9H at h
 split at h
 ·exact .inl (by assumption)
 ·split at h
  ·exact .inr (.inl (by assumption))
  ·split at h
   ·exact .inr (.inr (by assumption))
   ·cases h
theorem ZDe {s:So} (h:Z9s s=true):aok s.heap=true∧aok s.dfd=true∧aok s.out=true:=by
 obtain⟨h1,h2,h3,h4,h5,h6,h7⟩:=Z7E h
 by_cases p1:s.ph=1
 ·obtain⟨q1,q2,q3,q4,q5⟩:=ZB5 h7 p1
  have hlen:=q5.length_eq
  simp only[List.length_append,List.length_take]at hlen
  have hm:∀r,r∈s.runs.flatten++(s.out++(s.heap++s.dfd))→r∈s.inp:=fun r hr=>List.mem_of_mem_take (q5.mem_iff.mp hr)
  refine⟨ZFE h1 (by omega) (fun r hr=>hm r ?_),ZFE h1 (by omega) (fun r hr=>hm r ?_),ZFE h1 (by omega) (fun r hr=>hm r ?_)⟩
  ·exact List.mem_append_right _ (List.mem_append_right _ (List.mem_append_left _ hr))
  ·exact List.mem_append_right _ (List.mem_append_right _ (List.mem_append_right _ hr))
  ·exact List.mem_append_right _ (List.mem_append_left _ hr)
 ·obtain⟨q1,q2,q3,q4,q5⟩:=Z7c h7 p1
  refine⟨by rw[q2];rfl,by rw[q3];rfl,?_⟩
  rcases ZBT q5 with p|p|p
  ·obtain⟨a,b,r,e1,e2,e3,e4,e5⟩:=ZCH q5 p
   have hp:=Z8q _ a b rfl
   have hlen:=q4.length_eq
   rw[e1]at hlen
   simp only[List.flatten_cons,List.length_append]at hlen
   have ml:=Z9G a b
   refine ZFE h1 (by rw[e5,List.length_take];omega) (fun x hx=>?_)
   rw[e5]at hx
   have hx2:=hp.mem_iff.mp (List.mem_of_mem_take hx)
   refine q4.mem_iff.mp ?_
   rw[e1]
   simp only[List.flatten_cons,List.mem_append]at hx2⊢
   rcases hx2 with hx2|hx2
   ·exact .inl hx2
   ·exact .inr (.inl hx2)
  ·rw[(ZB6 q5 p).2.2.2];rfl
  ·rw[(ZDB q5 p).2.2.2];rfl
def ZHQ (s:So):List (List UInt8):=[Z6x s.inp,fmt s.pos,Z6x s.heap,Z6x s.dfd,Z6x s.out,Z73 s.runs,fmt s.lp,fmt s.rp,fmt s.ph,fmt s.wr]
def ZBl (s:So):List UInt8:=Z85 [47] (ZHQ s)
def ZBt (s:So):List UInt8:=if Z9s s then ZBl s else[]
def So.nb (s:So):Prop:=I64 s.pos∧I64 s.lp∧I64 s.rp∧I64 s.ph∧I64 s.wr
theorem ZGL (s:So):ZBl s=Z6x s.inp++[47]++fmt s.pos++[47]++Z6x s.heap++[47]++Z6x s.dfd++[47]++Z6x s.out++[47]++Z73 s.runs++[47]++fmt s.lp++[47]++fmt s.rp++[47]++fmt s.ph++[47]++fmt s.wr:=by
 simp[ZBl,ZHQ,Z85]
theorem ZGy (s:So) (hb:s.nb) (h:ZAp s.runs):(ZBl s).length≤1624571391080:=by
 obtain⟨b1,b2,b3,b4,b5⟩:=hb
 have hl:=Z8I List.length s.runs
 unfold ZAp at h
 have a1:=Z6Q b1
 have a2:=Z6Q b2
 have a3:=Z6Q b3
 have a4:=Z6Q b4
 have a5:=Z6Q b5
 have l1:=Z6L s.inp
 have l2:=Z6L s.heap
 have l3:=Z6L s.dfd
 have l4:=Z6L s.out
 have l5:=ZAr s.runs
 rw[ZGL]
 simp only[List.length_append,List.length_cons,List.length_nil]
 omega
theorem ZGz (s:So) (h:s.B2) (hb:s.nb):callI tE Z7y [.sl (s.inp.map Rw.e),.int s.pos,.sl (s.heap.map Rw.e),.sl (s.dfd.map Rw.e),.sl (s.out.map Rw.e),.sl (s.runs.map rsE),.int s.lp,.int s.rp,.int s.ph,.int s.wr]=some [.str (S (ZBt s))]:=by
 obtain⟨h1,h2,h3,h4,h5⟩:=h.b.p
 have hl:=Z8I List.length s.runs
 have h5':=h5
 unfold ZAp at h5'
 obtain⟨b1,b2,b3,b4,b5⟩:=hb
 rw[ZCf,ZD9 s h]
 simp only[gA]
 unfold ZBt
 by_cases hv:Z9s s=true
 ·obtain⟨r1,r2,r3⟩:=ZDe hv
  have a1:=Z6Q b1
  have a2:=Z6Q b2
  have a3:=Z6Q b3
  have a4:=Z6Q b4
  have a5:=Z6Q b5
  have l1:=Z6L s.inp
  have l2:=Z6L s.heap
  have l3:=Z6L s.dfd
  have l4:=Z6L s.out
  have l5:=ZAr s.runs
  have t2:=ZCz s.heap (by omega)
  have t3:=ZCz s.dfd (by omega)
  have t4:=ZCz s.out (by omega)
  rw[←Z9T r1]at t2
  rw[←Z9T r2]at t3
  rw[←Z9T r3]at t4
  have hj:=ZHG [47] (ZHQ s) (by simp[ZHQ]) (by simp[ZHQ];omega)
  simp only[ZHQ,List.map_cons,List.map_nil,StE]at hj
  rw[hv,if_pos rfl,Bool.not_true,cond_false]
  simp only[ZCb,Z6M b1,Z6M b2,Z6M b3,Z6M b4,Z6M b5,t2,t3,t4,ZHO s.runs h5,gA,hj]
  rfl
 ·rw[if_neg hv,(Bool.not_eq_true _).mp hv];rfl
theorem ZH0 (s:So) (h:s.B2) (hb:s.nb):callI tE Z6g [.sl (s.inp.map Rw.e),.int s.pos,.sl (s.heap.map Rw.e),.sl (s.dfd.map Rw.e),.sl (s.out.map Rw.e),.sl (s.runs.map rsE),.int s.lp,.int s.rp,.int s.ph,.int s.wr]=some [.str (S (ZBt s))]:=by
 obtain⟨h1,h2,h3,h4,h5⟩:=h.b.p
 have hl:=Z8I List.length s.runs
 have h5':=h5
 unfold ZAp at h5'
 obtain⟨b1,b2,b3,b4,b5⟩:=hb
 rw[ZCi,ZEN s h]
 simp only[gA]
 unfold ZBt
 by_cases hv:Z9s s=true
 ·have a1:=Z6Q b1
  have a2:=Z6Q b2
  have a3:=Z6Q b3
  have a4:=Z6Q b4
  have a5:=Z6Q b5
  have l1:=Z6L s.inp
  have l2:=Z6L s.heap
  have l3:=Z6L s.dfd
  have l4:=Z6L s.out
  have l5:=ZAr s.runs
  rw[hv,if_pos rfl,Bool.not_true,cond_false,ZGL]
  simp only[Z9p s.inp (by omega),Z9p s.heap (by omega),Z9p s.dfd (by omega),Z9p s.out (by omega),Z6W b1,Z6W b2,Z6W b3,Z6W b4,Z6W b5,ZHP s.runs h5,gA]
  rw[Z5n (by simp;omega),Z6c,cond_true,Z5n (by simp;omega),Z6c,cond_true,Z5n (by simp;omega),Z6c,cond_true,Z5n (by simp;omega),Z6c,cond_true,Z5n (by simp;omega),Z6c,cond_true,Z5n (by simp;omega),Z6c,cond_true]
  rw[Z5n (by simp;omega),Z6c,cond_true,Z5n (by simp;omega),Z6c,cond_true,Z5n (by simp;omega),Z6c,cond_true,Z5n (by simp;omega),Z6c,cond_true,Z5n (by simp;omega),Z6c,cond_true,Z5n (by simp;omega),Z6c,cond_true]
  rw[Z5n (by simp;omega),Z6c,cond_true,Z5n (by simp;omega),Z6c,cond_true,Z5n (by simp;omega),Z6c,cond_true,Z5n (by simp;omega),Z6c,cond_true,Z5n (by simp;omega),Z6c,cond_true,Z5n (by simp;omega),Z6c,cond_true]
 ·rw[if_neg hv,(Bool.not_eq_true _).mp hv];rfl
set_option maxRecDepth 100000
theorem ZFa (a0:Int):callI tE Z9v [.int a0]=(((callI tE Z6S [(.int a0),(.int 8),(.int 60)])).bind (fun r0=>(some [(.bool (gb r0))]))):=(callI_run rfl (by kernel_rfl)).trans (by kernel_rfl)
noncomputable def Z8S (x0 x1:Rows) (x2 x3:Int):Option (List Dat):=loopK tE Z89 0 ⟨[(0,(.ro 3 Bool.false x0)),(5,(.ro 3 Bool.false x1)),(6,(.i .i64 x2)),(7,(.i .i64 x3))],[]⟩
theorem ZAD (x0 x1:Rows) (x2 x3:Int):Z8S x0 x1 x2 x3=(bif(ltI x3 x2)then(bif(inR x3 (lenI x1))then(((callI tE Z9v [(.int (gn (at' x1 (tn x3))))])).bind (fun r0=>(bif(!(gb r0))then(some [(.bool Bool.false)])else(Z8S x0 x1 x2 (w64 (x3+1))))))else none)else(some [(.bool (ltI 0 (lenI x0)))])):=(loopK_run (by kernel_rfl)).trans (by kernel_rfl)
theorem ZEF (a0:Rows):callI tE Z89 [.sl a0]=(Z8S a0 a0 (lenI a0) 0):=(callI_run rfl (by kernel_rfl)).trans (by kernel_rfl)
set_option maxRecDepth 10000
theorem ZKV {α:Type} {e:α→List Dat} {l:List α} {k:Nat} {a:α} (h:l[k]?=some a):at' (l.map e) k=e a:=by
 simp[List.getD_eq_getElem?_getD,h]
theorem ZKW {α:Type} {e:α→List Dat} {l:List α} {k:Nat} {a:α} (h:l[k]?=some a):inR (k:Int) (lenI (l.map e))=true:=ZBq (List.getElem?_eq_some_iff.mp h).1
def ZGM:Nat→Rw→Nat→List Rw→Nat
 |b,_,_,[]=>b
 |b,m,i,a::l=>if Rw.lt a m then ZGM i a (i+1) l else ZGM b m (i+1) l
def ZDf:List Rw→Nat
 |[]=>0
 |a::l=>ZGM 0 a 1 l
theorem ZGN:∀(v u:List Rw) (b:Nat) (m:Rw),(u++v)[b]?=some m→(∀x∈u,Rw.le m x)→∃m',(u++v)[ZGM b m u.length v]?=some m'∧∀x∈u++v,Rw.le m' x
 |[],u,b,m,hb,hu=>⟨m,hb,by simpa using hu⟩
 |a::v,u,b,m,hb,hu=>by
  have e:u++a::v=(u++[a])++v:=by simp
  have el:u.length+1=(u++[a]).length:=by simp
  simp only[ZGM]
  split
  ·rename_i hlt
   rw[e,el]
   refine ZGN v (u++[a]) u.length a (by rw[←e];simp) (fun x hx=>?_)
   rcases List.mem_append.mp hx with hx|hx
   ·exact Rw.le_tr (Rw.lt_le hlt) (hu x hx)
   ·rw[List.mem_singleton.mp hx];exact Rw.le_rfl a
  ·rename_i hlt
   rw[e,el]
   refine ZGN v (u++[a]) b m (by rw[←e];exact hb) (fun x hx=>?_)
   rcases List.mem_append.mp hx with hx|hx
   ·exact hu x hx
   ·rw[List.mem_singleton.mp hx];exact hlt
theorem ZI5 {l:List Rw} (h:l≠[]):∃m,l[ZDf l]?=some m∧∀x∈l,Rw.le m x:=by
 cases l with
 |nil=>exact absurd rfl h
 |cons a l=>exact ZGN l [a] 0 a rfl (fun x hx=>by rw[List.mem_singleton.mp hx];exact Rw.le_rfl a)
theorem ZFF (l:List Rw) (hl:l.length<4611686018427387904):∀(v u:List Rw) (b:Nat) (m:Rw),l=u++v→l[b]?=some m→Z6l (l.map Rw.e) (b:Int) (l.map Rw.e) (lenI (l.map Rw.e)) (u.length:Int)=some [.int (ZGM b m u.length v:Nat)]
 |[],u,b,m,e,hb=>by
  rw[List.append_nil]at e
  subst e
  rw[Z8J,ZEd,cond_false];rfl
 |a::v,u,b,m,e,hb=>by
  have hul:u.length<l.length:=by rw[e];simp
  have ha:l[u.length]?=some a:=by rw[e];simp
  rw[Z8J,show ltI (u.length:Int) (lenI (l.map Rw.e))=true from by rw[e];exact ZFO u v a,ZKW ha,ZKW hb,Z86,ZKV ha,Z86,ZKV hb,ltF (show(0:Int)≤(b:Int)by omega)]
  simp only[cond_true,cond_false,gA,Rw.e,ZCE,ZAk,Z7n (show u.length<9223372036854775807 by omega)]
  have i1:=ZFF l hl v (u++[a]) u.length a (by rw[e];simp) ha
  have i2:=ZFF l hl v (u++[a]) b m (by rw[e];simp) hb
  rw[List.length_append]at i1 i2
  simp only[ZGM]
  by_cases hlt:Rw.lt a m
  ·rw[decide_eq_true hlt,cond_true,if_pos hlt];exact i1
  ·rw[decide_eq_false hlt,cond_false,if_neg hlt];exact i2
theorem ZMc {l:List Rw} (h:l≠[]) (hl:l.length<4611686018427387904):callI tE Z67 [.sl (l.map Rw.e)]=some [.int (ZDf l:Nat)]:=by
 cases l with
 |nil=>exact absurd rfl h
 |cons a l=>
  have:=ZFF (a::l) hl l [a] 0 a rfl rfl
  rw[ZDU,Z8J,ltT (by rw[Z5L];simp only[List.length_cons];omega),show inR 0 (lenI ((a::l).map Rw.e))=true from ZBq (i:=0) (by simp),ltT (show(-1:Int)<0 by decide)]
  exact this
theorem ZFG (l:List Rw) (hl:l.length<4611686018427387904):∀(v u:List Rw) (b:Nat) (m:Rw),l=u++v→l[b]?=some m→Z6m (l.map Rw.e) (b:Int) (u.length:Int)=some [.int (ZGM b m u.length v:Nat)]
 |[],u,b,m,e,hb=>by
  rw[List.append_nil]at e
  subst e
  rw[Z8K,ZEd,cond_false];rfl
 |a::v,u,b,m,e,hb=>by
  have hul:u.length<l.length:=by rw[e];simp
  have ha:l[u.length]?=some a:=by rw[e];simp
  rw[Z8K,show ltI (u.length:Int) (lenI (l.map Rw.e))=true from by rw[e];exact ZFO u v a,ZKW ha,ZKW hb,Z86,ZKV ha,Z86,ZKV hb,ltF (show(0:Int)≤(b:Int)by omega)]
  simp only[cond_true,cond_false,gA,Rw.e,ZBa,ZAk,Z7n (show u.length<9223372036854775807 by omega)]
  have i1:=ZFG l hl v (u++[a]) u.length a (by rw[e];simp) ha
  have i2:=ZFG l hl v (u++[a]) b m (by rw[e];simp) hb
  rw[List.length_append]at i1 i2
  simp only[ZGM]
  by_cases hlt:Rw.lt a m
  ·rw[decide_eq_true hlt,cond_true,if_pos hlt];exact i1
  ·rw[decide_eq_false hlt,cond_false,if_neg hlt];exact i2
theorem ZMd {l:List Rw} (h:l≠[]) (hl:l.length<4611686018427387904):callI tE Z8f [.sl (l.map Rw.e)]=some [.int (ZDf l:Nat)]:=by
 cases l with
 |nil=>exact absurd rfl h
 |cons a l=>
  have:=ZFG (a::l) hl l [a] 0 a rfl rfl
  rw[ZDX,Z8K,ltT (by rw[Z5L];simp only[List.length_cons];omega),ltT (show(-1:Int)<0 by decide)]
  exact this
def ZFH (l:List Rw) (k:Nat):List Rw:=l.take k++l.drop (k+1)
theorem ZI6 (l:List Rw) (k:Nat):List.take (tn ((k:Int)-0)) (List.drop (tn 0) (l.map Rw.e))=(l.take k).map Rw.e:=by
 rw[show((k:Int)-0)=(k:Int)by omega]
 show List.take k (List.drop 0 _)=_
 rw[List.drop_zero,List.map_take]
theorem ZI7 (l:List Rw) (k:Nat) (h:k<l.length):List.take (tn (lenI (l.map Rw.e)-((k+1:Nat):Int))) (List.drop (tn ((k+1:Nat):Int)) (l.map Rw.e))=(l.drop (k+1)).map Rw.e:=by
 rw[Z5L,show((l.length:Int)-((k+1:Nat):Int))=((l.length-(k+1):Nat):Int)by omega]
 show List.take (l.length-(k+1)) (List.drop (k+1) _)=_
 rw[List.map_drop,List.take_of_length_le (by simp)]
theorem ZLe (l:List Rw) (k:Nat) (h:k<l.length) (hl:l.length≤1073741824):callI tE Z7r [.sl (l.map Rw.e),.int (k:Int)]=some [.sl ((ZFH l k).map Rw.e)]:=by
 rw[ZGr,leT (show(0:Int)≤(k:Int)by omega),leT (show(k:Int)≤lenI (l.map Rw.e)by rw[Z5L];omega),ZI6,ZDm _ (by simp;omega),Z7n (by omega),leT (show(0:Int)≤((k+1:Nat):Int)by omega),leT (show((k+1:Nat):Int)≤lenI (l.map Rw.e)by rw[Z5L];omega),ZI7 l k h]
 simp only[gA,Bool.and_self,cond_true,Z5b]
 rw[Z97 (by simp;omega),cond_true,Z9z];rfl
theorem ZLf (l:List Rw) (k:Nat) (h:k<l.length) (hl:l.length≤1073741824):callI tE ZBA [.sl (l.map Rw.e),.int (k:Int)]=some [.sl ((ZFH l k).map Rw.e)]:=by
 rw[ZFX,leT (show(0:Int)≤(k:Int)by omega),leT (show(k:Int)≤lenI (l.map Rw.e)by rw[Z5L];omega),ZI6,Z7n (by omega),leT (show(0:Int)≤((k+1:Nat):Int)by omega),leT (show((k+1:Nat):Int)≤lenI (l.map Rw.e)by rw[Z5L];omega),ZI7 l k h]
 simp only[Bool.and_self,cond_true,Z5b]
 rw[Z97 (by simp;omega),Z97 (by simp;omega),cond_true,cond_true,Z9z];rfl
theorem ZIW (l:List (List Rw)) (h:ZAp l):callI tE Z93 [.sl (l.map rsE)]=some [.sl (l.map rsE)]:=by
 have hl:=Z8I List.length l
 have h:szL List.length l≤1073741824:=h
 rw[ZEA]
 have:=Z6d (l:=l) (L:=fun(s:List (List Rw)) i=>Z6X (l.map rsE) (lenI (l.map rsE)) i (s.map rsE)) (F:=fun _ _=>some [.sl (l.map rsE)]) (I:=fun s u _=>s=u) (by omega) (fun u a v s e hI=>by
  have ha:a.length≤1073741824:=Nat.le_trans (Z9b (by rw[e];simp)) h
  have hul:u.length≤1073741824:=by rw[e]at hl h;simp at hl;rw[e]at*;omega
  refine .inl ⟨u++[a],?_,rfl,rfl⟩
  show Z6X _ _ _ _=Z6X _ _ _ _
  subst e
  rw[ZA9,hI]
  simp only[ZFO,ZFP,Z86,ZEG,cond_true,rsE,gA,ZDm a (by omega),Z5b]
  rw[show fitM (Nat.succ u.length) 24=true from Z97 (by omega),ZDu]
  rfl) (fun s hs=>by
  show Z6X _ _ _ _=_
  rw[ZA9,ZEd,cond_false,hs]) [] rfl
 exact this
theorem ZJS (l:List (List Rw)) (h:ZAp l):callI tE Z9w [.sl (l.map rsE)]=some [.sl (l.map rsE)]:=by
 have hl:=Z8I List.length l
 have h:szL List.length l≤1073741824:=h
 rw[ZFV]
 have:=Z6d (l:=l) (L:=fun(s:List (List Rw)) i=>Z6y (l.map rsE) i (s.map rsE)) (F:=fun _ _=>some [.sl (l.map rsE)]) (I:=fun s u _=>s=u) (by omega) (fun u a v s e hI=>by
  have ha:a.length≤1073741824:=Nat.le_trans (Z9b (by rw[e];simp)) h
  have hul:u.length≤1073741824:=by rw[e]at hl h;simp at hl;rw[e]at*;omega
  refine .inl ⟨u++[a],?_,rfl,rfl⟩
  show Z6y _ _ _=Z6y _ _ _
  subst e
  rw[ZAm,hI]
  simp only[ZFO,ZFP,Z86,ZEG,cond_true,rsE,gA,Z5b]
  rw[show fitM (0+a.length) 24=true from Z97 (by omega),show fitM (Nat.succ u.length) 24=true from Z97 (by omega),ZDu]
  rfl) (fun s hs=>by
  show Z6y _ _ _=_
  rw[ZAm,ZEd,cond_false,hs]) [] rfl
 exact this
theorem ZK8 (s:So) (h:s.B):callI tE Z9M [.sl (s.inp.map Rw.e),.int s.pos,.sl (s.heap.map Rw.e),.sl (s.dfd.map Rw.e),.sl (s.out.map Rw.e),.sl (s.runs.map rsE),.int s.lp,.int s.rp,.int s.ph,.int s.wr]=some [.sl (s.inp.map Rw.e),.int s.pos,.sl (s.heap.map Rw.e),.sl (s.dfd.map Rw.e),.sl (s.out.map Rw.e),.sl (s.runs.map rsE),.int s.lp,.int s.rp,.int s.ph,.int s.wr]:=by
 obtain⟨h1,h2,h3,h4,h5⟩:=h.p
 simp only[ZD2,ZDm s.inp (by omega),ZDm s.heap (by omega),ZDm s.dfd (by omega),ZDm s.out (by omega),ZIW s.runs h5,gA]
theorem ZL1 (s:So) (h:s.B):callI tE ZB9 [.sl (s.inp.map Rw.e),.int s.pos,.sl (s.heap.map Rw.e),.sl (s.dfd.map Rw.e),.sl (s.out.map Rw.e),.sl (s.runs.map rsE),.int s.lp,.int s.rp,.int s.ph,.int s.wr]=some [.sl (s.inp.map Rw.e),.int s.pos,.sl (s.heap.map Rw.e),.sl (s.dfd.map Rw.e),.sl (s.out.map Rw.e),.sl (s.runs.map rsE),.int s.lp,.int s.rp,.int s.ph,.int s.wr]:=by
 obtain⟨h1,h2,h3,h4,h5⟩:=h.p
 simp only[ZFW,Z5b,ZJS s.runs h5,gA]
 rw[Z97 (by omega),Z97 (by omega),Z97 (by omega),Z97 (by omega)];rfl
theorem ZI8 (n:Int):callI tE Z9v [.int n]=some [.bool (win n 8 60)]:=by
 simp only[ZFa,ZBI,gA]
def ZFb (s:So):So:=⟨s.inp,s.pos,s.heap,s.dfd,[],s.runs++[s.out],s.lp,s.rp,s.ph,s.wr⟩
def ZCP (s:So):So:=⟨s.inp,s.pos,s.heap,s.dfd,s.out,s.runs,0,0,if s.runs.length=0 then 4 else if s.runs.length=1 then 3 else 2,s.wr⟩
def rwZ:Rw:=⟨0,0,0⟩
def ZM5 (s:So):So:=⟨s.inp,s.pos,ZFH s.heap (ZDf s.heap),s.dfd,s.out++[s.heap.getD (ZDf s.heap) rwZ],s.runs,s.lp,s.rp,s.ph,w64 (s.wr+((s.heap.getD (ZDf s.heap) rwZ).cost:Nat))⟩
def ZJT (s:So) (r:Rw):So:=if ZAC r s.out then⟨s.inp,w64 (s.pos+1),s.heap,s.dfd++[r],s.out,s.runs,s.lp,s.rp,s.ph,s.wr⟩else⟨s.inp,w64 (s.pos+1),s.heap++[r],s.dfd,s.out,s.runs,s.lp,s.rp,s.ph,s.wr⟩
def ZKX (s:So):So:=if s.heap=[]then(if s.dfd=[]then(if s.out=[]then ZCP s else ZCP (ZFb s))else⟨s.inp,s.pos,s.dfd,[],[],s.runs++[s.out],s.lp,s.rp,s.ph,s.wr⟩)else ZM5 s
def ZIh (s:So) (g:Int) (r:Rw):Bool:=leI ((ZDd s:Nat)+(r.cost:Nat)) g
def ZK9 (s:So) (g:Int):So:=match s.inp[s.pos.toNat]? with
 |some r=>if ZIh s g r=true then ZJT s r else ZKX s
 |none=>ZKX s
def ZKA (s:So) (x:Rw):So:=⟨s.inp,s.pos,s.heap,s.dfd,s.out++[x],s.runs,w64 (s.lp+1),s.rp,s.ph,w64 (s.wr+(x.cost:Nat))⟩
def ZKB (s:So) (x:Rw):So:=⟨s.inp,s.pos,s.heap,s.dfd,s.out++[x],s.runs,s.lp,w64 (s.rp+1),s.ph,w64 (s.wr+(x.cost:Nat))⟩
def ZHR (s:So):So:=match s.runs with
 |a::b::r=>match a[s.lp.toNat]?,b[s.rp.toNat]? with
  |none,none=>ZCP (ZFb ⟨s.inp,s.pos,s.heap,s.dfd,s.out,r,s.lp,s.rp,s.ph,s.wr⟩)
  |some x,none=>ZKA s x
  |none,some y=>ZKB s y
  |some x,some y=>if Rw.le x y then ZKA s x else ZKB s y
 |_=>s
def ZFI (s:So):So×List Rw:=match s.runs with
 |a::_=>match a[s.lp.toNat]? with
  |some x=>(⟨s.inp,s.pos,s.heap,s.dfd,s.out,s.runs,w64 (s.lp+1),s.rp,if w64 (s.lp+1)=s.inp.length then 4 else s.ph,s.wr⟩,[x])
  |none=>(s,[])
 |[]=>(s,[])
def ZHS (s:So) (g:Int):Bool:=Z9s s&&(win g 8 60&& !eqI s.ph 4)
def ZBu (s:So) (g:Int):So×List Rw×Bool:=
 bif ZHS s g then(if s.ph=1 then(ZK9 s g,[],true)else if s.ph=2 then(ZHR s,[],true)else((ZFI s).1,(ZFI s).2,true))else(s,[],false)
def StR (x:So×List Rw×Bool):List Dat:=[.sl (x.1.inp.map Rw.e),.int x.1.pos,.sl (x.1.heap.map Rw.e),.sl (x.1.dfd.map Rw.e),.sl (x.1.out.map Rw.e),.sl (x.1.runs.map rsE),.int x.1.lp,.int x.1.rp,.int x.1.ph,.int x.1.wr,.sl (x.2.1.map Rw.e),.bool x.2.2]
theorem ZJU (s:So) (h:s.B):callI tE Z66 [.sl (s.inp.map Rw.e),.int s.pos,.sl (s.heap.map Rw.e),.sl (s.dfd.map Rw.e),.sl (s.out.map Rw.e),.sl (s.runs.map rsE),.int s.lp,.int s.rp,.int s.ph,.int s.wr]=some (ZFb s).e:=by
 obtain⟨h1,h2,h3,h4,h5⟩:=h.p
 have hl:=Z8I List.length s.runs
 have h5:szL List.length s.runs≤1073741824:=h5
 rw[ZGD,Z5b,Z97 (by omega),cond_true,ZDu];rfl
theorem ZDg (s:So):callI tE Z5a [.sl (s.inp.map Rw.e),.int s.pos,.sl (s.heap.map Rw.e),.sl (s.dfd.map Rw.e),.sl (s.out.map Rw.e),.sl (s.runs.map rsE),.int s.lp,.int s.rp,.int s.ph,.int s.wr]=some (ZCP s).e:=by
 rw[ZEB,Z5L]
 unfold ZCP
 by_cases h0:s.runs.length=0
 ·rw[eqT (by omega),if_pos h0];rfl
 ·rw[eqF (by omega),if_neg h0]
  by_cases h1:s.runs.length=1
  ·rw[eqT (by omega),if_pos h1];rfl
  ·rw[eqF (by omega),if_neg h1];rfl
theorem ZL2 (s:So):callI tE Z6R [.sl (s.inp.map Rw.e),.int s.pos,.sl (s.heap.map Rw.e),.sl (s.dfd.map Rw.e),.sl (s.out.map Rw.e),.sl (s.runs.map rsE),.int s.lp,.int s.rp,.int s.ph,.int s.wr]=some (ZCP s).e:=by
 rw[ZFY,Z5L]
 unfold ZCP
 by_cases h0:s.runs.length=0
 ·rw[eqF (by omega),eqT (show(s.runs.length:Int)=0 by omega),if_pos h0];rfl
 ·rw[eqF (show(s.runs.length:Int)≠0 by omega),if_neg h0]
  by_cases h1:s.runs.length=1
  ·rw[eqT (by omega),if_pos h1];rfl
  ·rw[eqF (by omega),if_neg h1];rfl
theorem Z9A (l:List Rw) (r:Rw):List.append (l.map Rw.e) [[Dat.int r.k,.int r.v,.int r.w]]=(l++[r]).map Rw.e:=ZKz l r
theorem ZDh:eqI (lenI (([]:List Rw).map Rw.e)) 0=true:=rfl
theorem ZCk:ltI 0 (lenI (([]:List Rw).map Rw.e))=false:=rfl
theorem ZKY {l:List Rw} (h:l≠[]):eqI (lenI (l.map Rw.e)) 0=false:=by
 cases l with
 |nil=>exact absurd rfl h
 |cons a l=>exact eqF (by rw[Z5L];simp only[List.length_cons];omega)
theorem ZH1 {l:List Rw} (h:l≠[]):ltI 0 (lenI (l.map Rw.e))=true:=by
 cases l with
 |nil=>exact absurd rfl h
 |cons a l=>exact ltT (by rw[Z5L];simp only[List.length_cons];omega)
theorem ZLg {l:List Rw} (h:l≠[]):inR (ZDf l:Nat) (lenI (l.map Rw.e))=true∧at' (l.map Rw.e) (ZDf l)=(l.getD (ZDf l) rwZ).e∧ZDf l<l.length:=by
 obtain⟨m,h1,_⟩:=ZI5 h
 exact⟨ZKW h1,by rw[ZKV h1];simp[List.getD_eq_getElem?_getD,h1],(List.getElem?_eq_some_iff.mp h1).1⟩
theorem ZFp {s:So} (h:s.B2):s.inp.length≤1073741800∧s.heap.length≤1073741800∧s.dfd.length≤1073741800∧s.out.length≤1073741800∧s.runs.length≤1073741800∧szL List.length s.runs≤1073741800:=by
 have h:s.sz≤1073741800:=h
 have hl:=Z8I List.length s.runs
 simp only[So.sz]at h
 exact⟨by omega,by omega,by omega,by omega,by omega,by omega⟩
theorem ZMe (s:So) (h:s.B2):(bif(eqI (lenI (s.heap.map Rw.e)) 0)then(bif(ltI 0 (lenI (s.dfd.map Rw.e)))then(((callI tE Z66 [(.sl (s.inp.map Rw.e)),(.int s.pos),(.sl (s.heap.map Rw.e)),(.sl (s.dfd.map Rw.e)),(.sl (s.out.map Rw.e)),(.sl (s.runs.map rsE)),(.int s.lp),(.int s.rp),(.int s.ph),(.int s.wr)])).bind (fun r5=>(some [(.sl (gl r5)),(.int (gn (tk 1 r5))),(.sl (gl (tk 3 r5))),(.sl []),(.sl (gl (tk 4 r5))),(.sl (gl (tk 5 r5))),(.int (gn (tk 6 r5))),(.int (gn (tk 7 r5))),(.int (gn (tk 8 r5))),(.int (gn (tk 9 r5))),(.sl []),(.bool true)])))else(bif(ltI 0 (lenI (s.heap.map Rw.e)))then(((callI tE Z67 [(.sl (s.heap.map Rw.e))])).bind (fun r5=>(bif(inR (gn r5) (lenI (s.heap.map Rw.e)))then(((callI tE Z7r [(.sl (s.heap.map Rw.e)),(.int (gn r5))])).bind (fun r6=>(bif(fitM (Nat.succ (len (s.out.map Rw.e))) 24)then(((callI tE Z5O [(.int (gn (at' (s.heap.map Rw.e) (tn (gn r5))))),(.int (gn (tk 1 (at' (s.heap.map Rw.e) (tn (gn r5)))))),(.int (gn (tk 2 (at' (s.heap.map Rw.e) (tn (gn r5))))))])).bind (fun r7=>(some [(.sl (s.inp.map Rw.e)),(.int s.pos),(.sl (gl r6)),(.sl (s.dfd.map Rw.e)),(.sl (List.append (s.out.map Rw.e) [[(.int (gn (at' (s.heap.map Rw.e) (tn (gn r5))))),(.int (gn (tk 1 (at' (s.heap.map Rw.e) (tn (gn r5)))))),(.int (gn (tk 2 (at' (s.heap.map Rw.e) (tn (gn r5))))))]])),(.sl (s.runs.map rsE)),(.int s.lp),(.int s.rp),(.int s.ph),(.int (w64 (s.wr+(gn r7)))),(.sl []),(.bool true)])))else none)))else none)))else(bif(ltI 0 (lenI (s.out.map Rw.e)))then(((callI tE Z66 [(.sl (s.inp.map Rw.e)),(.int s.pos),(.sl (s.heap.map Rw.e)),(.sl (s.dfd.map Rw.e)),(.sl (s.out.map Rw.e)),(.sl (s.runs.map rsE)),(.int s.lp),(.int s.rp),(.int s.ph),(.int s.wr)])).bind (fun r5=>(((callI tE Z5a [(.sl (gl r5)),(.int (gn (tk 1 r5))),(.sl (gl (tk 2 r5))),(.sl (gl (tk 3 r5))),(.sl (gl (tk 4 r5))),(.sl (gl (tk 5 r5))),(.int (gn (tk 6 r5))),(.int (gn (tk 7 r5))),(.int (gn (tk 8 r5))),(.int (gn (tk 9 r5)))])).bind (fun r6=>(some [(.sl (gl r6)),(.int (gn (tk 1 r6))),(.sl (gl (tk 2 r6))),(.sl (gl (tk 3 r6))),(.sl (gl (tk 4 r6))),(.sl (gl (tk 5 r6))),(.int (gn (tk 6 r6))),(.int (gn (tk 7 r6))),(.int (gn (tk 8 r6))),(.int (gn (tk 9 r6))),(.sl []),(.bool true)])))))else(((callI tE Z5a [(.sl (s.inp.map Rw.e)),(.int s.pos),(.sl (s.heap.map Rw.e)),(.sl (s.dfd.map Rw.e)),(.sl (s.out.map Rw.e)),(.sl (s.runs.map rsE)),(.int s.lp),(.int s.rp),(.int s.ph),(.int s.wr)])).bind (fun r5=>(some [(.sl (gl r5)),(.int (gn (tk 1 r5))),(.sl (gl (tk 2 r5))),(.sl (gl (tk 3 r5))),(.sl (gl (tk 4 r5))),(.sl (gl (tk 5 r5))),(.int (gn (tk 6 r5))),(.int (gn (tk 7 r5))),(.int (gn (tk 8 r5))),(.int (gn (tk 9 r5))),(.sl []),(.bool true)]))))))else(bif(ltI 0 (lenI (s.heap.map Rw.e)))then(((callI tE Z67 [(.sl (s.heap.map Rw.e))])).bind (fun r5=>(bif(inR (gn r5) (lenI (s.heap.map Rw.e)))then(((callI tE Z7r [(.sl (s.heap.map Rw.e)),(.int (gn r5))])).bind (fun r6=>(bif(fitM (Nat.succ (len (s.out.map Rw.e))) 24)then(((callI tE Z5O [(.int (gn (at' (s.heap.map Rw.e) (tn (gn r5))))),(.int (gn (tk 1 (at' (s.heap.map Rw.e) (tn (gn r5)))))),(.int (gn (tk 2 (at' (s.heap.map Rw.e) (tn (gn r5))))))])).bind (fun r7=>(some [(.sl (s.inp.map Rw.e)),(.int s.pos),(.sl (gl r6)),(.sl (s.dfd.map Rw.e)),(.sl (List.append (s.out.map Rw.e) [[(.int (gn (at' (s.heap.map Rw.e) (tn (gn r5))))),(.int (gn (tk 1 (at' (s.heap.map Rw.e) (tn (gn r5)))))),(.int (gn (tk 2 (at' (s.heap.map Rw.e) (tn (gn r5))))))]])),(.sl (s.runs.map rsE)),(.int s.lp),(.int s.rp),(.int s.ph),(.int (w64 (s.wr+(gn r7)))),(.sl []),(.bool true)])))else none)))else none)))else(bif(ltI 0 (lenI (s.out.map Rw.e)))then(((callI tE Z66 [(.sl (s.inp.map Rw.e)),(.int s.pos),(.sl (s.heap.map Rw.e)),(.sl (s.dfd.map Rw.e)),(.sl (s.out.map Rw.e)),(.sl (s.runs.map rsE)),(.int s.lp),(.int s.rp),(.int s.ph),(.int s.wr)])).bind (fun r5=>(((callI tE Z5a [(.sl (gl r5)),(.int (gn (tk 1 r5))),(.sl (gl (tk 2 r5))),(.sl (gl (tk 3 r5))),(.sl (gl (tk 4 r5))),(.sl (gl (tk 5 r5))),(.int (gn (tk 6 r5))),(.int (gn (tk 7 r5))),(.int (gn (tk 8 r5))),(.int (gn (tk 9 r5)))])).bind (fun r6=>(some [(.sl (gl r6)),(.int (gn (tk 1 r6))),(.sl (gl (tk 2 r6))),(.sl (gl (tk 3 r6))),(.sl (gl (tk 4 r6))),(.sl (gl (tk 5 r6))),(.int (gn (tk 6 r6))),(.int (gn (tk 7 r6))),(.int (gn (tk 8 r6))),(.int (gn (tk 9 r6))),(.sl []),(.bool true)])))))else(((callI tE Z5a [(.sl (s.inp.map Rw.e)),(.int s.pos),(.sl (s.heap.map Rw.e)),(.sl (s.dfd.map Rw.e)),(.sl (s.out.map Rw.e)),(.sl (s.runs.map rsE)),(.int s.lp),(.int s.rp),(.int s.ph),(.int s.wr)])).bind (fun r5=>(some [(.sl (gl r5)),(.int (gn (tk 1 r5))),(.sl (gl (tk 2 r5))),(.sl (gl (tk 3 r5))),(.sl (gl (tk 4 r5))),(.sl (gl (tk 5 r5))),(.int (gn (tk 6 r5))),(.int (gn (tk 7 r5))),(.int (gn (tk 8 r5))),(.int (gn (tk 9 r5))),(.sl []),(.bool true)]))))))=some (StR (ZKX s,[],true)):=by
 obtain⟨b1,b2,b3,b4,b5,b6⟩:=ZFp h
 have k1:=ZJU s h.b
 have k2:=ZDg s
 have k3:=ZDg (ZFb s)
 simp only[So.e,ZFb,List.map_nil]at k1 k2 k3
 unfold ZKX
 by_cases hh:s.heap=[]
 ·rw[if_pos hh]
  rw[hh]at k1 k2 k3⊢
  by_cases hd:s.dfd=[]
  ·rw[if_pos hd]
   rw[hd]at k1 k2 k3⊢
   by_cases ho:s.out=[]
   ·rw[if_pos ho]
    rw[ho]at k1 k2 k3⊢
    simp only[ZDh,ZCk,cond_true,cond_false,k2,gA]
    simp only[ZCP,hh,hd,ho];rfl
   ·rw[if_neg ho]
    simp only[ZDh,ZCk,ZH1 ho,cond_true,cond_false,k1,k3,gA]
    simp only[ZCP,ZFb,hh,hd];rfl
  ·rw[if_neg hd]
   simp only[ZDh,ZH1 hd,cond_true,cond_false,k1,gA]
   rfl
 ·rw[if_neg hh]
  obtain⟨m1,m2,m3⟩:=ZLg hh
  have k4:=ZMc hh (by omega)
  have k5:=ZLe s.heap (ZDf s.heap) m3 (by omega)
  simp only[ZKY hh,ZH1 hh,cond_true,cond_false,k4,k5,m1,m2,Z86,Rw.e,ZBZ,gA,Z5b]
  rw[show fitM (Nat.succ s.out.length) 24=true from Z97 (by omega),cond_true,Z9A]
  rfl
theorem ZMf (s:So) (h:s.B2):(bif(ltI 0 (w64 ((lenI (s.heap.map Rw.e))+(lenI (s.dfd.map Rw.e)))))then(((callI tE ZAW [(.sl (s.inp.map Rw.e)),(.int s.pos),(.sl (s.heap.map Rw.e)),(.sl (s.dfd.map Rw.e)),(.sl (s.out.map Rw.e)),(.sl (s.runs.map rsE)),(.int s.lp),(.int s.rp),(.int s.ph),(.int s.wr)])).bind (fun r5=>(some [(.sl (gl r5)),(.int (gn (tk 1 r5))),(.sl (gl (tk 2 r5))),(.sl (gl (tk 3 r5))),(.sl (gl (tk 4 r5))),(.sl (gl (tk 5 r5))),(.int (gn (tk 6 r5))),(.int (gn (tk 7 r5))),(.int (gn (tk 8 r5))),(.int (gn (tk 9 r5))),(.sl []),(.bool true)])))else(bif(ltI 0 (lenI (s.out.map Rw.e)))then(bif(fitM (Nat.succ (len (s.runs.map rsE))) 24)then(((callI tE Z6R [(.sl (s.inp.map Rw.e)),(.int s.pos),(.sl (s.heap.map Rw.e)),(.sl (s.dfd.map Rw.e)),(.sl []),(.sl (List.append (s.runs.map rsE) [[(.sl (s.out.map Rw.e))]])),(.int s.lp),(.int s.rp),(.int s.ph),(.int s.wr)])).bind (fun r5=>(some [(.sl (gl r5)),(.int (gn (tk 1 r5))),(.sl (gl (tk 2 r5))),(.sl (gl (tk 3 r5))),(.sl (gl (tk 4 r5))),(.sl (gl (tk 5 r5))),(.int (gn (tk 6 r5))),(.int (gn (tk 7 r5))),(.int (gn (tk 8 r5))),(.int (gn (tk 9 r5))),(.sl []),(.bool true)])))else none)else(((callI tE Z6R [(.sl (s.inp.map Rw.e)),(.int s.pos),(.sl (s.heap.map Rw.e)),(.sl (s.dfd.map Rw.e)),(.sl (s.out.map Rw.e)),(.sl (s.runs.map rsE)),(.int s.lp),(.int s.rp),(.int s.ph),(.int s.wr)])).bind (fun r5=>(some [(.sl (gl r5)),(.int (gn (tk 1 r5))),(.sl (gl (tk 2 r5))),(.sl (gl (tk 3 r5))),(.sl (gl (tk 4 r5))),(.sl (gl (tk 5 r5))),(.int (gn (tk 6 r5))),(.int (gn (tk 7 r5))),(.int (gn (tk 8 r5))),(.int (gn (tk 9 r5))),(.sl []),(.bool true)])))))=some (StR (ZKX s,[],true)):=by
 obtain⟨b1,b2,b3,b4,b5,b6⟩:=ZFp h
 have k2:=ZL2 s
 have k3:=ZL2 (ZFb s)
 simp only[So.e,ZFb,List.map_nil]at k2 k3
 have ew:w64 (lenI (s.heap.map Rw.e)+lenI (s.dfd.map Rw.e))=((s.heap.length+s.dfd.length:Nat):Int):=by rw[Z5L,Z5L,Z5Q ⟨by omega,by omega⟩];omega
 rw[ew]
 unfold ZKX
 by_cases hh:s.heap=[]
 ·rw[if_pos hh]
  rw[hh]at k2 k3⊢
  by_cases hd:s.dfd=[]
  ·rw[if_pos hd]
   rw[hd]at k2 k3⊢
   by_cases ho:s.out=[]
   ·rw[if_pos ho]
    rw[ho]at k2 k3⊢
    rw[show ltI 0 (((([]:List Rw).length+([]:List Rw).length:Nat)):Int)=false from rfl]
    simp only[ZCk,cond_true,cond_false,k2,gA]
    simp only[ZCP,hh,hd,ho];rfl
   ·rw[if_neg ho]
    rw[show ltI 0 (((([]:List Rw).length+([]:List Rw).length:Nat)):Int)=false from rfl]
    simp only[ZCk,ZH1 ho,cond_true,cond_false,Z5b]
    rw[show fitM (Nat.succ s.runs.length) 24=true from Z97 (by omega),cond_true,show([[Dat.sl (s.out.map Rw.e)]]:Rows)=[[.sl (s.out.map Rw.e)]]from rfl,ZDu,k3]
    simp only[gA]
    simp only[ZCP,ZFb,hh,hd];rfl
  ·rw[if_neg hd,ZD5,ZDh,cond_true,Z5b,show fitM (Nat.succ s.runs.length) 24=true from Z97 (by omega),cond_true,ZDu]
   rw[show ltI 0 (((([]:List Rw).length+s.dfd.length:Nat)):Int)=true from ltT (by cases hq:s.dfd with|nil=>exact absurd hq hd|cons a l=>simp only[List.length_cons];omega)]
   rfl
 ·rw[if_neg hh]
  obtain⟨m1,m2,m3⟩:=ZLg hh
  have k4:=ZMd hh (by omega)
  have k5:=ZLf s.heap (ZDf s.heap) m3 (by omega)
  rw[show ltI 0 ((s.heap.length+s.dfd.length:Nat):Int)=true from ltT (by omega),ZD5]
  simp only[ZKY hh,cond_true,cond_false,k4,k5,m1,m2,Z86,Rw.e,ZCD,gA,Z5b]
  rw[show fitM (Nat.succ s.out.length) 24=true from Z97 (by omega),cond_true,Z9A]
  rfl
theorem ZJV (a b:List Rw) (r:List (List Rw)):inR 0 (lenI ((a::b::r).map rsE))=true∧inR 1 (lenI ((a::b::r).map rsE))=true∧gl (at' ((a::b::r).map rsE) (tn 0))=a.map Rw.e∧gl (at' ((a::b::r).map rsE) (tn 1))=b.map Rw.e∧
  (leI 0 2&&leI 2 (lenI ((a::b::r).map rsE)))=true∧List.take (tn (lenI ((a::b::r).map rsE)-2)) (List.drop (tn 2) ((a::b::r).map rsE))=r.map rsE:=by
 refine⟨ZBq (i:=0) (by simp),ZBq (i:=1) (by simp),rfl,rfl,?_,?_⟩
 ·rw[Z5L,leT (show(2:Int)≤((a::b::r).length:Nat)by simp only[List.length_cons];omega)];rfl
 ·rw[Z5L,show(((a::b::r).length:Nat):Int)-2=(r.length:Int)by simp only[List.length_cons];omega]
  show List.take r.length (r.map rsE)=_
  rw[List.take_of_length_le (by simp)]
theorem ZHT {l:List Rw} {p:Nat} (h:l[p]?=none) (hp:p≤l.length):eqI (p:Int) (lenI (l.map Rw.e))=true∧ltI (p:Int) (lenI (l.map Rw.e))=false:=by
 have:=List.getElem?_eq_none_iff.mp h
 rw[Z5L]
 exact⟨eqT (by omega),ltF (by omega)⟩
theorem ZCl {l:List Rw} {p:Nat} {x:Rw} (h:l[p]?=some x):eqI (p:Int) (lenI (l.map Rw.e))=false∧ltI (p:Int) (lenI (l.map Rw.e))=true∧inR (p:Int) (lenI (l.map Rw.e))=true∧at' (l.map Rw.e) p=x.e:=by
 have:=(List.getElem?_eq_some_iff.mp h).1
 refine⟨?_,?_,ZKW h,ZKV h⟩
 ·rw[Z5L];exact eqF (by omega)
 ·rw[Z5L];exact ltT (by omega)
theorem ZM6 (s:So) (h:s.B2) (hv:Z9s s=true) (h1:s.ph≠1):(bif(eqI s.ph 2)then(bif(inR 0 (lenI (s.runs.map rsE)))then(bif(inR 1 (lenI (s.runs.map rsE)))then(bif(eqI s.lp (lenI (gl (at' (s.runs.map rsE) (tn 0)))))then(bif(eqI s.rp (lenI (gl (at' (s.runs.map rsE) (tn 1)))))then(bif((leI 0 2)&&(leI 2 (lenI (s.runs.map rsE))))then(((callI tE Z66 [(.sl (s.inp.map Rw.e)),(.int s.pos),(.sl (s.heap.map Rw.e)),(.sl (s.dfd.map Rw.e)),(.sl (s.out.map Rw.e)),(.sl (List.take (tn ((lenI (s.runs.map rsE))-2)) (List.drop (tn 2) (s.runs.map rsE)))),(.int s.lp),(.int s.rp),(.int s.ph),(.int s.wr)])).bind (fun r3=>(((callI tE Z5a [(.sl (gl r3)),(.int (gn (tk 1 r3))),(.sl (gl (tk 2 r3))),(.sl (gl (tk 3 r3))),(.sl (gl (tk 4 r3))),(.sl (gl (tk 5 r3))),(.int (gn (tk 6 r3))),(.int (gn (tk 7 r3))),(.int (gn (tk 8 r3))),(.int (gn (tk 9 r3)))])).bind (fun r4=>(some [(.sl (gl r4)),(.int (gn (tk 1 r4))),(.sl (gl (tk 2 r4))),(.sl (gl (tk 3 r4))),(.sl (gl (tk 4 r4))),(.sl (gl (tk 5 r4))),(.int (gn (tk 6 r4))),(.int (gn (tk 7 r4))),(.int (gn (tk 8 r4))),(.int (gn (tk 9 r4))),(.sl []),(.bool true)])))))else none)else(bif(eqI s.rp (lenI (gl (at' (s.runs.map rsE) (tn 1)))))then(bif(inR s.lp (lenI (gl (at' (s.runs.map rsE) (tn 0)))))then(bif(fitM (Nat.succ (len (s.out.map Rw.e))) 24)then(((callI tE Z5O [(.int (gn (at' (gl (at' (s.runs.map rsE) (tn 0))) (tn s.lp)))),(.int (gn (tk 1 (at' (gl (at' (s.runs.map rsE) (tn 0))) (tn s.lp))))),(.int (gn (tk 2 (at' (gl (at' (s.runs.map rsE) (tn 0))) (tn s.lp)))))])).bind (fun r3=>(some [(.sl (s.inp.map Rw.e)),(.int s.pos),(.sl (s.heap.map Rw.e)),(.sl (s.dfd.map Rw.e)),(.sl (List.append (s.out.map Rw.e) [[(.int (gn (at' (gl (at' (s.runs.map rsE) (tn 0))) (tn s.lp)))),(.int (gn (tk 1 (at' (gl (at' (s.runs.map rsE) (tn 0))) (tn s.lp))))),(.int (gn (tk 2 (at' (gl (at' (s.runs.map rsE) (tn 0))) (tn s.lp)))))]])),(.sl (s.runs.map rsE)),(.int (w64 (s.lp+1))),(.int s.rp),(.int s.ph),(.int (w64 (s.wr+(gn r3)))),(.sl []),(.bool true)])))else none)else none)else(bif(ltI s.lp (lenI (gl (at' (s.runs.map rsE) (tn 0)))))then(bif(inR s.lp (lenI (gl (at' (s.runs.map rsE) (tn 0)))))then(bif(inR s.rp (lenI (gl (at' (s.runs.map rsE) (tn 1)))))then(((callI tE Z5R [(.int (gn (at' (gl (at' (s.runs.map rsE) (tn 0))) (tn s.lp)))),(.int (gn (tk 1 (at' (gl (at' (s.runs.map rsE) (tn 0))) (tn s.lp))))),(.int (gn (tk 2 (at' (gl (at' (s.runs.map rsE) (tn 0))) (tn s.lp))))),(.int (gn (at' (gl (at' (s.runs.map rsE) (tn 1))) (tn s.rp)))),(.int (gn (tk 1 (at' (gl (at' (s.runs.map rsE) (tn 1))) (tn s.rp))))),(.int (gn (tk 2 (at' (gl (at' (s.runs.map rsE) (tn 1))) (tn s.rp)))))])).bind (fun r3=>(bif(leI (gn r3) 0)then(bif(inR s.lp (lenI (gl (at' (s.runs.map rsE) (tn 0)))))then(bif(fitM (Nat.succ (len (s.out.map Rw.e))) 24)then(((callI tE Z5O [(.int (gn (at' (gl (at' (s.runs.map rsE) (tn 0))) (tn s.lp)))),(.int (gn (tk 1 (at' (gl (at' (s.runs.map rsE) (tn 0))) (tn s.lp))))),(.int (gn (tk 2 (at' (gl (at' (s.runs.map rsE) (tn 0))) (tn s.lp)))))])).bind (fun r4=>(some [(.sl (s.inp.map Rw.e)),(.int s.pos),(.sl (s.heap.map Rw.e)),(.sl (s.dfd.map Rw.e)),(.sl (List.append (s.out.map Rw.e) [[(.int (gn (at' (gl (at' (s.runs.map rsE) (tn 0))) (tn s.lp)))),(.int (gn (tk 1 (at' (gl (at' (s.runs.map rsE) (tn 0))) (tn s.lp))))),(.int (gn (tk 2 (at' (gl (at' (s.runs.map rsE) (tn 0))) (tn s.lp)))))]])),(.sl (s.runs.map rsE)),(.int (w64 (s.lp+1))),(.int s.rp),(.int s.ph),(.int (w64 (s.wr+(gn r4)))),(.sl []),(.bool true)])))else none)else none)else(bif(inR s.rp (lenI (gl (at' (s.runs.map rsE) (tn 1)))))then(bif(fitM (Nat.succ (len (s.out.map Rw.e))) 24)then(((callI tE Z5O [(.int (gn (at' (gl (at' (s.runs.map rsE) (tn 1))) (tn s.rp)))),(.int (gn (tk 1 (at' (gl (at' (s.runs.map rsE) (tn 1))) (tn s.rp))))),(.int (gn (tk 2 (at' (gl (at' (s.runs.map rsE) (tn 1))) (tn s.rp)))))])).bind (fun r4=>(some [(.sl (s.inp.map Rw.e)),(.int s.pos),(.sl (s.heap.map Rw.e)),(.sl (s.dfd.map Rw.e)),(.sl (List.append (s.out.map Rw.e) [[(.int (gn (at' (gl (at' (s.runs.map rsE) (tn 1))) (tn s.rp)))),(.int (gn (tk 1 (at' (gl (at' (s.runs.map rsE) (tn 1))) (tn s.rp))))),(.int (gn (tk 2 (at' (gl (at' (s.runs.map rsE) (tn 1))) (tn s.rp)))))]])),(.sl (s.runs.map rsE)),(.int s.lp),(.int (w64 (s.rp+1))),(.int s.ph),(.int (w64 (s.wr+(gn r4)))),(.sl []),(.bool true)])))else none)else none))))else none)else none)else(bif(inR s.rp (lenI (gl (at' (s.runs.map rsE) (tn 1)))))then(bif(fitM (Nat.succ (len (s.out.map Rw.e))) 24)then(((callI tE Z5O [(.int (gn (at' (gl (at' (s.runs.map rsE) (tn 1))) (tn s.rp)))),(.int (gn (tk 1 (at' (gl (at' (s.runs.map rsE) (tn 1))) (tn s.rp))))),(.int (gn (tk 2 (at' (gl (at' (s.runs.map rsE) (tn 1))) (tn s.rp)))))])).bind (fun r3=>(some [(.sl (s.inp.map Rw.e)),(.int s.pos),(.sl (s.heap.map Rw.e)),(.sl (s.dfd.map Rw.e)),(.sl (List.append (s.out.map Rw.e) [[(.int (gn (at' (gl (at' (s.runs.map rsE) (tn 1))) (tn s.rp)))),(.int (gn (tk 1 (at' (gl (at' (s.runs.map rsE) (tn 1))) (tn s.rp))))),(.int (gn (tk 2 (at' (gl (at' (s.runs.map rsE) (tn 1))) (tn s.rp)))))]])),(.sl (s.runs.map rsE)),(.int s.lp),(.int (w64 (s.rp+1))),(.int s.ph),(.int (w64 (s.wr+(gn r3)))),(.sl []),(.bool true)])))else none)else none))))else(bif(eqI s.rp (lenI (gl (at' (s.runs.map rsE) (tn 1)))))then(bif(inR s.lp (lenI (gl (at' (s.runs.map rsE) (tn 0)))))then(bif(fitM (Nat.succ (len (s.out.map Rw.e))) 24)then(((callI tE Z5O [(.int (gn (at' (gl (at' (s.runs.map rsE) (tn 0))) (tn s.lp)))),(.int (gn (tk 1 (at' (gl (at' (s.runs.map rsE) (tn 0))) (tn s.lp))))),(.int (gn (tk 2 (at' (gl (at' (s.runs.map rsE) (tn 0))) (tn s.lp)))))])).bind (fun r3=>(some [(.sl (s.inp.map Rw.e)),(.int s.pos),(.sl (s.heap.map Rw.e)),(.sl (s.dfd.map Rw.e)),(.sl (List.append (s.out.map Rw.e) [[(.int (gn (at' (gl (at' (s.runs.map rsE) (tn 0))) (tn s.lp)))),(.int (gn (tk 1 (at' (gl (at' (s.runs.map rsE) (tn 0))) (tn s.lp))))),(.int (gn (tk 2 (at' (gl (at' (s.runs.map rsE) (tn 0))) (tn s.lp)))))]])),(.sl (s.runs.map rsE)),(.int (w64 (s.lp+1))),(.int s.rp),(.int s.ph),(.int (w64 (s.wr+(gn r3)))),(.sl []),(.bool true)])))else none)else none)else(bif(ltI s.lp (lenI (gl (at' (s.runs.map rsE) (tn 0)))))then(bif(inR s.lp (lenI (gl (at' (s.runs.map rsE) (tn 0)))))then(bif(inR s.rp (lenI (gl (at' (s.runs.map rsE) (tn 1)))))then(((callI tE Z5R [(.int (gn (at' (gl (at' (s.runs.map rsE) (tn 0))) (tn s.lp)))),(.int (gn (tk 1 (at' (gl (at' (s.runs.map rsE) (tn 0))) (tn s.lp))))),(.int (gn (tk 2 (at' (gl (at' (s.runs.map rsE) (tn 0))) (tn s.lp))))),(.int (gn (at' (gl (at' (s.runs.map rsE) (tn 1))) (tn s.rp)))),(.int (gn (tk 1 (at' (gl (at' (s.runs.map rsE) (tn 1))) (tn s.rp))))),(.int (gn (tk 2 (at' (gl (at' (s.runs.map rsE) (tn 1))) (tn s.rp)))))])).bind (fun r3=>(bif(leI (gn r3) 0)then(bif(inR s.lp (lenI (gl (at' (s.runs.map rsE) (tn 0)))))then(bif(fitM (Nat.succ (len (s.out.map Rw.e))) 24)then(((callI tE Z5O [(.int (gn (at' (gl (at' (s.runs.map rsE) (tn 0))) (tn s.lp)))),(.int (gn (tk 1 (at' (gl (at' (s.runs.map rsE) (tn 0))) (tn s.lp))))),(.int (gn (tk 2 (at' (gl (at' (s.runs.map rsE) (tn 0))) (tn s.lp)))))])).bind (fun r4=>(some [(.sl (s.inp.map Rw.e)),(.int s.pos),(.sl (s.heap.map Rw.e)),(.sl (s.dfd.map Rw.e)),(.sl (List.append (s.out.map Rw.e) [[(.int (gn (at' (gl (at' (s.runs.map rsE) (tn 0))) (tn s.lp)))),(.int (gn (tk 1 (at' (gl (at' (s.runs.map rsE) (tn 0))) (tn s.lp))))),(.int (gn (tk 2 (at' (gl (at' (s.runs.map rsE) (tn 0))) (tn s.lp)))))]])),(.sl (s.runs.map rsE)),(.int (w64 (s.lp+1))),(.int s.rp),(.int s.ph),(.int (w64 (s.wr+(gn r4)))),(.sl []),(.bool true)])))else none)else none)else(bif(inR s.rp (lenI (gl (at' (s.runs.map rsE) (tn 1)))))then(bif(fitM (Nat.succ (len (s.out.map Rw.e))) 24)then(((callI tE Z5O [(.int (gn (at' (gl (at' (s.runs.map rsE) (tn 1))) (tn s.rp)))),(.int (gn (tk 1 (at' (gl (at' (s.runs.map rsE) (tn 1))) (tn s.rp))))),(.int (gn (tk 2 (at' (gl (at' (s.runs.map rsE) (tn 1))) (tn s.rp)))))])).bind (fun r4=>(some [(.sl (s.inp.map Rw.e)),(.int s.pos),(.sl (s.heap.map Rw.e)),(.sl (s.dfd.map Rw.e)),(.sl (List.append (s.out.map Rw.e) [[(.int (gn (at' (gl (at' (s.runs.map rsE) (tn 1))) (tn s.rp)))),(.int (gn (tk 1 (at' (gl (at' (s.runs.map rsE) (tn 1))) (tn s.rp))))),(.int (gn (tk 2 (at' (gl (at' (s.runs.map rsE) (tn 1))) (tn s.rp)))))]])),(.sl (s.runs.map rsE)),(.int s.lp),(.int (w64 (s.rp+1))),(.int s.ph),(.int (w64 (s.wr+(gn r4)))),(.sl []),(.bool true)])))else none)else none))))else none)else none)else(bif(inR s.rp (lenI (gl (at' (s.runs.map rsE) (tn 1)))))then(bif(fitM (Nat.succ (len (s.out.map Rw.e))) 24)then(((callI tE Z5O [(.int (gn (at' (gl (at' (s.runs.map rsE) (tn 1))) (tn s.rp)))),(.int (gn (tk 1 (at' (gl (at' (s.runs.map rsE) (tn 1))) (tn s.rp))))),(.int (gn (tk 2 (at' (gl (at' (s.runs.map rsE) (tn 1))) (tn s.rp)))))])).bind (fun r3=>(some [(.sl (s.inp.map Rw.e)),(.int s.pos),(.sl (s.heap.map Rw.e)),(.sl (s.dfd.map Rw.e)),(.sl (List.append (s.out.map Rw.e) [[(.int (gn (at' (gl (at' (s.runs.map rsE) (tn 1))) (tn s.rp)))),(.int (gn (tk 1 (at' (gl (at' (s.runs.map rsE) (tn 1))) (tn s.rp))))),(.int (gn (tk 2 (at' (gl (at' (s.runs.map rsE) (tn 1))) (tn s.rp)))))]])),(.sl (s.runs.map rsE)),(.int s.lp),(.int (w64 (s.rp+1))),(.int s.ph),(.int (w64 (s.wr+(gn r3)))),(.sl []),(.bool true)])))else none)else none))))else none)else none)else(bif(eqI s.ph 3)then(bif(inR 0 (lenI (s.runs.map rsE)))then(bif(inR s.lp (lenI (gl (at' (s.runs.map rsE) (tn 0)))))then(bif(fitM 1 24)then(bif(eqI (w64 (s.lp+1)) (lenI (s.inp.map Rw.e)))then(some [(.sl (s.inp.map Rw.e)),(.int s.pos),(.sl (s.heap.map Rw.e)),(.sl (s.dfd.map Rw.e)),(.sl (s.out.map Rw.e)),(.sl (s.runs.map rsE)),(.int (w64 (s.lp+1))),(.int s.rp),(.int 4),(.int s.wr),(.sl [[(.int (gn (at' (gl (at' (s.runs.map rsE) (tn 0))) (tn s.lp)))),(.int (gn (tk 1 (at' (gl (at' (s.runs.map rsE) (tn 0))) (tn s.lp))))),(.int (gn (tk 2 (at' (gl (at' (s.runs.map rsE) (tn 0))) (tn s.lp)))))]]),(.bool true)])else(some [(.sl (s.inp.map Rw.e)),(.int s.pos),(.sl (s.heap.map Rw.e)),(.sl (s.dfd.map Rw.e)),(.sl (s.out.map Rw.e)),(.sl (s.runs.map rsE)),(.int (w64 (s.lp+1))),(.int s.rp),(.int s.ph),(.int s.wr),(.sl [[(.int (gn (at' (gl (at' (s.runs.map rsE) (tn 0))) (tn s.lp)))),(.int (gn (tk 1 (at' (gl (at' (s.runs.map rsE) (tn 0))) (tn s.lp))))),(.int (gn (tk 2 (at' (gl (at' (s.runs.map rsE) (tn 0))) (tn s.lp)))))]]),(.bool true)]))else none)else none)else none)else(some [(.sl (s.inp.map Rw.e)),(.int s.pos),(.sl (s.heap.map Rw.e)),(.sl (s.dfd.map Rw.e)),(.sl (s.out.map Rw.e)),(.sl (s.runs.map rsE)),(.int s.lp),(.int s.rp),(.int s.ph),(.int s.wr),(.sl []),(.bool true)])))=some (StR (if s.ph=2 then(ZHR s,[],true)else if s.ph=3 then((ZFI s).1,(ZFI s).2,true)else(s,[],true))):=by
 obtain⟨b1,b2,b3,b4,b5,b6⟩:=ZFp h
 obtain⟨_,_,_,_,hl⟩:=Z7c (Z7E hv).2.2.2.2.2.2 h1
 by_cases h2:s.ph=2
 ·obtain⟨a,b,r,e,⟨l0,l1⟩,⟨r0,r1⟩,_,_⟩:=ZCH hl h2
  obtain⟨inp,pos,heap,dfd,out,runs,lp,rp,ph,wr⟩:=s
  simp only at*
  subst e
  obtain⟨p,rfl⟩:∃p:Nat,lp=p:=⟨lp.toNat,by omega⟩
  obtain⟨q,rfl⟩:∃q:Nat,rp=q:=⟨rp.toNat,by omega⟩
  obtain⟨q1,q2,q3,q4,q5,q6⟩:=ZJV a b r
  have k1:=ZJU ⟨inp,pos,heap,dfd,out,r,p,q,ph,wr⟩ (by
   have h:So.sz _≤1073741800:=h
   simp only[So.sz,szL]at h
   show So.sz _≤1073741824
   simp only[So.sz];omega)
  have k2:=ZDg (ZFb ⟨inp,pos,heap,dfd,out,r,p,q,ph,wr⟩)
  simp only[So.e,ZFb,List.map_nil]at k1 k2
  rw[eqT h2,if_pos h2,cond_true]
  unfold ZHR
  simp only[Int.toNat_natCast]
  cases ha:a[p]? with
  |none=>
   obtain⟨n1,n2⟩:=ZHT ha (by omega)
   cases hb:b[q]? with
   |none=>
    obtain⟨m1,m2⟩:=ZHT hb (by omega)
    simp only[q1,q2,q3,q4,q5,q6,n1,n2,m1,m2,cond_true,cond_false,k1,k2,gA]
    rfl
   |some y=>
    obtain⟨m1,m2,m3,m4⟩:=ZCl hb
    simp only[q1,q2,q3,q4,n1,n2,m1,m2,m3,m4,cond_true,cond_false,Z86,Rw.e,ZBZ,gA,Z5b]
    rw[show fitM (Nat.succ out.length) 24=true from Z97 (by omega),cond_true,Z9A]
    rfl
  |some x=>
   obtain⟨n1,n2,n3,n4⟩:=ZCl ha
   cases hb:b[q]? with
   |none=>
    obtain⟨m1,m2⟩:=ZHT hb (by omega)
    simp only[q1,q2,q3,q4,n1,n2,n3,n4,m1,m2,cond_true,cond_false,Z86,Rw.e,ZBZ,gA,Z5b]
    rw[show fitM (Nat.succ out.length) 24=true from Z97 (by omega),cond_true,Z9A]
    rfl
   |some y=>
    obtain⟨m1,m2,m3,m4⟩:=ZCl hb
    simp only[q1,q2,q3,q4,n1,n2,n3,n4,m1,m2,m3,m4,cond_true,cond_false,Z86,Rw.e,ZBZ,ZCE,ZG6,gA,Z5b]
    rw[show fitM (Nat.succ out.length) 24=true from Z97 (by omega)]
    by_cases hle:Rw.le x y
    ·rw[decide_eq_true hle,if_pos hle]
     simp only[cond_true]
     rw[Z9A];rfl
    ·rw[decide_eq_false hle,if_neg hle]
     simp only[cond_true,cond_false]
     rw[Z9A];rfl
 ·rw[eqF h2,if_neg h2,cond_false]
  by_cases h3:s.ph=3
  ·obtain⟨e,⟨l0,l1⟩,_,_⟩:=ZB6 hl h3
   obtain⟨hp1,hp2,hp3,hp4,_⟩:=Z7c (Z7E hv).2.2.2.2.2.2 h1
   obtain⟨inp,pos,heap,dfd,out,runs,lp,rp,ph,wr⟩:=s
   simp only at*
   obtain⟨a,rfl⟩:=List.length_eq_one_iff.mp e
   obtain⟨p,rfl⟩:∃p:Nat,lp=p:=⟨lp.toNat,by omega⟩
   have hal:a.length=inp.length:=by have:=hp4.length_eq;simpa using this
   obtain⟨x,hx⟩:∃x,a[p]?=some x:=⟨_,List.getElem?_eq_getElem (by omega)⟩
   obtain⟨n1,n2,n3,n4⟩:=ZCl hx
   rw[eqT h3,if_pos h3,cond_true]
   unfold ZFI
   simp only[Int.toNat_natCast,hx]
   rw[show inR 0 (lenI ([a].map rsE))=true from ZBq (i:=0) (by simp),show gl (at' ([a].map rsE) (tn 0))=a.map Rw.e from rfl,n3,show fitM 1 24=true from Z97 (by omega),Z5L]
   simp only[cond_true,Z86,n4,Rw.e,gA]
   by_cases hw:w64 ((p:Int)+1)=(inp.length:Int)
   ·rw[eqT hw,if_pos hw];rfl
   ·rw[eqF hw,if_neg hw];rfl
  ·rw[eqF h3,if_neg h3];rfl
theorem ZM7 (s:So) (h:s.B2) (hv:Z9s s=true) (h1:s.ph≠1) (h4:s.ph≠4):(bif(eqI s.ph 2)then(((callI tE Z6T [(.sl (s.runs.map rsE)),(.int 0),(.int s.lp)])).bind (fun r3=>(((callI tE Z6T [(.sl (s.runs.map rsE)),(.int 1),(.int s.rp)])).bind (fun r4=>(bif(eqI (w64 ((lenI (gl r3))+(lenI (gl r4)))) 0)then(bif((leI 0 2)&&(leI 2 (lenI (s.runs.map rsE))))then(bif(fitM (Nat.succ (len (List.take (tn ((lenI (s.runs.map rsE))-2)) (List.drop (tn 2) (s.runs.map rsE))))) 24)then(((callI tE Z6R [(.sl (s.inp.map Rw.e)),(.int s.pos),(.sl (s.heap.map Rw.e)),(.sl (s.dfd.map Rw.e)),(.sl []),(.sl (List.append (List.take (tn ((lenI (s.runs.map rsE))-2)) (List.drop (tn 2) (s.runs.map rsE))) [[(.sl (s.out.map Rw.e))]])),(.int s.lp),(.int s.rp),(.int s.ph),(.int s.wr)])).bind (fun r5=>(some [(.sl (gl r5)),(.int (gn (tk 1 r5))),(.sl (gl (tk 2 r5))),(.sl (gl (tk 3 r5))),(.sl (gl (tk 4 r5))),(.sl (gl (tk 5 r5))),(.int (gn (tk 6 r5))),(.int (gn (tk 7 r5))),(.int (gn (tk 8 r5))),(.int (gn (tk 9 r5))),(.sl []),(.bool true)])))else none)else none)else(bif(eqI (lenI (gl r4)) 0)then(bif(inR 0 (lenI (gl r3)))then(bif(fitM (Nat.succ (len (s.out.map Rw.e))) 24)then(bif(inR 0 (lenI (gl r3)))then(((callI tE Z5r [(.int (gn (at' (gl r3) (tn 0)))),(.int (gn (tk 1 (at' (gl r3) (tn 0))))),(.int (gn (tk 2 (at' (gl r3) (tn 0)))))])).bind (fun r5=>(some [(.sl (s.inp.map Rw.e)),(.int s.pos),(.sl (s.heap.map Rw.e)),(.sl (s.dfd.map Rw.e)),(.sl (List.append (s.out.map Rw.e) [[(.int (gn (at' (gl r3) (tn 0)))),(.int (gn (tk 1 (at' (gl r3) (tn 0))))),(.int (gn (tk 2 (at' (gl r3) (tn 0)))))]])),(.sl (s.runs.map rsE)),(.int (w64 (s.lp+1))),(.int s.rp),(.int s.ph),(.int (w64 (s.wr+(gn r5)))),(.sl []),(.bool true)])))else none)else none)else none)else(bif(ltI 0 (lenI (gl r3)))then(bif(inR 0 (lenI (gl r3)))then(bif(inR 0 (lenI (gl r4)))then(((callI tE Z5j [(.int (gn (at' (gl r3) (tn 0)))),(.int (gn (tk 1 (at' (gl r3) (tn 0))))),(.int (gn (tk 2 (at' (gl r3) (tn 0))))),(.int (gn (at' (gl r4) (tn 0)))),(.int (gn (tk 1 (at' (gl r4) (tn 0))))),(.int (gn (tk 2 (at' (gl r4) (tn 0)))))])).bind (fun r5=>(bif(leI (gn r5) 0)then(bif(inR 0 (lenI (gl r3)))then(bif(fitM (Nat.succ (len (s.out.map Rw.e))) 24)then(bif(inR 0 (lenI (gl r3)))then(((callI tE Z5r [(.int (gn (at' (gl r3) (tn 0)))),(.int (gn (tk 1 (at' (gl r3) (tn 0))))),(.int (gn (tk 2 (at' (gl r3) (tn 0)))))])).bind (fun r6=>(some [(.sl (s.inp.map Rw.e)),(.int s.pos),(.sl (s.heap.map Rw.e)),(.sl (s.dfd.map Rw.e)),(.sl (List.append (s.out.map Rw.e) [[(.int (gn (at' (gl r3) (tn 0)))),(.int (gn (tk 1 (at' (gl r3) (tn 0))))),(.int (gn (tk 2 (at' (gl r3) (tn 0)))))]])),(.sl (s.runs.map rsE)),(.int (w64 (s.lp+1))),(.int s.rp),(.int s.ph),(.int (w64 (s.wr+(gn r6)))),(.sl []),(.bool true)])))else none)else none)else none)else(bif(inR 0 (lenI (gl r4)))then(bif(fitM (Nat.succ (len (s.out.map Rw.e))) 24)then(bif(inR 0 (lenI (gl r4)))then(((callI tE Z5r [(.int (gn (at' (gl r4) (tn 0)))),(.int (gn (tk 1 (at' (gl r4) (tn 0))))),(.int (gn (tk 2 (at' (gl r4) (tn 0)))))])).bind (fun r6=>(some [(.sl (s.inp.map Rw.e)),(.int s.pos),(.sl (s.heap.map Rw.e)),(.sl (s.dfd.map Rw.e)),(.sl (List.append (s.out.map Rw.e) [[(.int (gn (at' (gl r4) (tn 0)))),(.int (gn (tk 1 (at' (gl r4) (tn 0))))),(.int (gn (tk 2 (at' (gl r4) (tn 0)))))]])),(.sl (s.runs.map rsE)),(.int s.lp),(.int (w64 (s.rp+1))),(.int s.ph),(.int (w64 (s.wr+(gn r6)))),(.sl []),(.bool true)])))else none)else none)else none))))else none)else none)else(bif(inR 0 (lenI (gl r4)))then(bif(fitM (Nat.succ (len (s.out.map Rw.e))) 24)then(bif(inR 0 (lenI (gl r4)))then(((callI tE Z5r [(.int (gn (at' (gl r4) (tn 0)))),(.int (gn (tk 1 (at' (gl r4) (tn 0))))),(.int (gn (tk 2 (at' (gl r4) (tn 0)))))])).bind (fun r5=>(some [(.sl (s.inp.map Rw.e)),(.int s.pos),(.sl (s.heap.map Rw.e)),(.sl (s.dfd.map Rw.e)),(.sl (List.append (s.out.map Rw.e) [[(.int (gn (at' (gl r4) (tn 0)))),(.int (gn (tk 1 (at' (gl r4) (tn 0))))),(.int (gn (tk 2 (at' (gl r4) (tn 0)))))]])),(.sl (s.runs.map rsE)),(.int s.lp),(.int (w64 (s.rp+1))),(.int s.ph),(.int (w64 (s.wr+(gn r5)))),(.sl []),(.bool true)])))else none)else none)else none))))))))else(bif(eqI (w64 (s.lp+1)) (lenI (s.inp.map Rw.e)))then(bif(inR 0 (lenI (s.runs.map rsE)))then(bif(inR s.lp (lenI (gl (at' (s.runs.map rsE) (tn 0)))))then(some [(.sl (s.inp.map Rw.e)),(.int s.pos),(.sl (s.heap.map Rw.e)),(.sl (s.dfd.map Rw.e)),(.sl (s.out.map Rw.e)),(.sl (s.runs.map rsE)),(.int (w64 (s.lp+1))),(.int s.rp),(.int 4),(.int s.wr),(.sl [[(.int (gn (at' (gl (at' (s.runs.map rsE) (tn 0))) (tn s.lp)))),(.int (gn (tk 1 (at' (gl (at' (s.runs.map rsE) (tn 0))) (tn s.lp))))),(.int (gn (tk 2 (at' (gl (at' (s.runs.map rsE) (tn 0))) (tn s.lp)))))]]),(.bool true)])else none)else none)else(bif(inR 0 (lenI (s.runs.map rsE)))then(bif(inR s.lp (lenI (gl (at' (s.runs.map rsE) (tn 0)))))then(some [(.sl (s.inp.map Rw.e)),(.int s.pos),(.sl (s.heap.map Rw.e)),(.sl (s.dfd.map Rw.e)),(.sl (s.out.map Rw.e)),(.sl (s.runs.map rsE)),(.int (w64 (s.lp+1))),(.int s.rp),(.int s.ph),(.int s.wr),(.sl [[(.int (gn (at' (gl (at' (s.runs.map rsE) (tn 0))) (tn s.lp)))),(.int (gn (tk 1 (at' (gl (at' (s.runs.map rsE) (tn 0))) (tn s.lp))))),(.int (gn (tk 2 (at' (gl (at' (s.runs.map rsE) (tn 0))) (tn s.lp)))))]]),(.bool true)])else none)else none)))=some (StR (if s.ph=2 then(ZHR s,[],true)else((ZFI s).1,(ZFI s).2,true))):=by
 obtain⟨b1,b2,b3,b4,b5,b6⟩:=ZFp h
 obtain⟨_,_,_,_,hl⟩:=Z7c (Z7E hv).2.2.2.2.2.2 h1
 by_cases h2:s.ph=2
 ·obtain⟨a,b,r,e,⟨l0,l1⟩,⟨r0,r1⟩,_,_⟩:=ZCH hl h2
  obtain⟨inp,pos,heap,dfd,out,runs,lp,rp,ph,wr⟩:=s
  simp only at*
  subst e
  obtain⟨p,rfl⟩:∃p:Nat,lp=p:=⟨lp.toNat,by omega⟩
  obtain⟨q,rfl⟩:∃q:Nat,rp=q:=⟨rp.toNat,by omega⟩
  obtain⟨q1,q2,q3,q4,q5,q6⟩:=ZJV a b r
  obtain⟨w1,e1,_,_,g1⟩:=ZGx (a::b::r) 0 (p:Int) (show szL List.length (a::b::r)≤1073741824 by omega) (by omega)
  obtain⟨w2,e2,_,_,g2⟩:=ZGx (a::b::r) 1 (q:Int) (show szL List.length (a::b::r)≤1073741824 by omega) (by omega)
  simp only[List.getElem?_cons_zero,List.getElem?_cons_succ,Int.toNat_natCast]at g1 g2
  have k2:=ZL2 (ZFb ⟨inp,pos,heap,dfd,out,r,p,q,ph,wr⟩)
  simp only[So.e,ZFb,List.map_nil]at k2
  have z00:eqI (w64 (lenI (([]:List Rw).map Rw.e)+lenI (([]:List Rw).map Rw.e))) 0=true:=rfl
  have z10:∀x:Rw,eqI (w64 (lenI (([x]:List Rw).map Rw.e)+lenI (([]:List Rw).map Rw.e))) 0=false:=fun x=>rfl
  have z01:∀x:Rw,eqI (w64 (lenI (([]:List Rw).map Rw.e)+lenI (([x]:List Rw).map Rw.e))) 0=false:=fun x=>rfl
  have z11:∀x y:Rw,eqI (w64 (lenI (([x]:List Rw).map Rw.e)+lenI (([y]:List Rw).map Rw.e))) 0=false:=fun x y=>rfl
  have e1:callI tE Z6T [.sl ((a::b::r).map rsE),.int 0,.int (p:Int)]=some [.sl (w1.map Rw.e)]:=e1
  have e2:callI tE Z6T [.sl ((a::b::r).map rsE),.int 1,.int (q:Int)]=some [.sl (w2.map Rw.e)]:=e2
  rw[eqT h2,if_pos h2,cond_true]
  simp only[e1,e2,gA]
  unfold ZHR
  simp only[Int.toNat_natCast]
  cases ha:a[p]? with
  |none=>
   rw[ha]at g1
   simp only at g1
   subst g1
   cases hb:b[q]? with
   |none=>
    rw[hb]at g2
    simp only at g2
    subst g2
    simp only[z00,q5,q6,cond_true,Z5b]
    have h:So.sz _≤1073741800:=h
    have hl2:=Z8I List.length r
    simp only[So.sz,szL]at h
    rw[show fitM (Nat.succ r.length) 24=true from Z97 (by omega),cond_true,ZDu,k2]
    rfl
   |some y=>
    rw[hb]at g2
    simp only at g2
    subst g2
    simp only[z01,ZDh,ZCk,ZLF,ZDc,ZLE,ZDb,cond_true,cond_false,Rw.e,ZCD,gA,Z5b]
    rw[show fitM (Nat.succ out.length) 24=true from Z97 (by omega),cond_true,Z9A]
    rfl
  |some x=>
   rw[ha]at g1
   simp only at g1
   subst g1
   cases hb:b[q]? with
   |none=>
    rw[hb]at g2
    simp only at g2
    subst g2
    simp only[z10,ZDh,ZCk,ZLF,ZDc,ZLE,ZDb,cond_true,cond_false,Rw.e,ZCD,gA,Z5b]
    rw[show fitM (Nat.succ out.length) 24=true from Z97 (by omega),cond_true,Z9A]
    rfl
   |some y=>
    rw[hb]at g2
    simp only at g2
    subst g2
    simp only[z11,ZLF,ZDc,ZLE,ZDb,cond_true,cond_false,Rw.e,ZCD,ZBa,ZG6,gA,Z5b]
    rw[show fitM (Nat.succ out.length) 24=true from Z97 (by omega)]
    by_cases hle:Rw.le x y
    ·rw[decide_eq_true hle,if_pos hle]
     simp only[cond_true]
     rw[Z9A];rfl
    ·rw[decide_eq_false hle,if_neg hle]
     simp only[cond_true,cond_false]
     rw[Z9A];rfl
 ·rw[eqF h2,if_neg h2,cond_false]
  have h3:s.ph=3:=by rcases ZBT hl with e|e|e<;>first|exact absurd e h2|exact e|exact absurd e h4
  obtain⟨e,⟨l0,l1⟩,_,_⟩:=ZB6 hl h3
  obtain⟨hp1,hp2,hp3,hp4,_⟩:=Z7c (Z7E hv).2.2.2.2.2.2 h1
  obtain⟨inp,pos,heap,dfd,out,runs,lp,rp,ph,wr⟩:=s
  simp only at*
  obtain⟨a,rfl⟩:=List.length_eq_one_iff.mp e
  obtain⟨p,rfl⟩:∃p:Nat,lp=p:=⟨lp.toNat,by omega⟩
  have hal:a.length=inp.length:=by have:=hp4.length_eq;simpa using this
  obtain⟨x,hx⟩:∃x,a[p]?=some x:=⟨_,List.getElem?_eq_getElem (by omega)⟩
  obtain⟨n1,n2,n3,n4⟩:=ZCl hx
  unfold ZFI
  simp only[Int.toNat_natCast,hx]
  rw[show inR 0 (lenI ([a].map rsE))=true from ZBq (i:=0) (by simp),show gl (at' ([a].map rsE) (tn 0))=a.map Rw.e from rfl,n3,Z5L]
  simp only[cond_true,Z86,n4,Rw.e,gA]
  by_cases hw:w64 ((p:Int)+1)=(inp.length:Int)
  ·rw[eqT hw,if_pos hw];rfl
  ·rw[eqF hw,if_neg hw];rfl
theorem ZI9 {s:So} {g:Int} {r:Rw}:leI (w64 ((ZDd s:Nat)+(r.cost:Nat))) g=ZIh s g r∨1073741824<ZDd s:=by
 have:=ZBY r
 by_cases h:1073741824<ZDd s
 ·exact .inr h
 ·refine .inl ?_
  unfold ZIh
  rw[Z5Q ⟨by omega,by omega⟩]
theorem ZLh {s:So} (hv:Z9s s=true) (h1:s.ph=1):ZDd s≤60:=(ZB5 (Z7E hv).2.2.2.2.2.2 h1).2.2.2.1
theorem ZJW (s:So) (g:Int) (h:s.B2):callI tE Z8b [.sl (s.inp.map Rw.e),.int s.pos,.sl (s.heap.map Rw.e),.sl (s.dfd.map Rw.e),.sl (s.out.map Rw.e),.sl (s.runs.map rsE),.int s.lp,.int s.rp,.int s.ph,.int s.wr,.int g]=some (StR (ZBu s g)):=by
 obtain⟨b1,b2,b3,b4,b5,b6⟩:=ZFp h
 rw[ZDV,ZK8 s h.b,ZD9 s h,ZI8]
 simp only[gA]
 unfold ZBu ZHS
 cases hv:Z9s s with
 |false=>rfl
 |true=>
  cases hg:win g 8 60 with
  |false=>rfl
  |true=>
   by_cases h4:s.ph=4
   ·rw[eqT h4];rfl
   ·rw[eqF h4]
    by_cases h1:s.ph=1
    ·rw[eqT h1,if_pos h1]
     have hm:=ZLh hv h1
     obtain⟨_,⟨p0,p1⟩,_⟩:=Z7E hv
     have hT:=ZMe s h
     simp only[Bool.not_true,Bool.not_false,Bool.and_self,cond_true,cond_false,ZMO s h.b,gA]
     unfold ZK9
     cases hq:s.inp[s.pos.toNat]? with
     |none=>
      have hp:ltI s.pos (lenI (s.inp.map Rw.e))=false:=by rw[Z5L];exact ltF (by have:=List.getElem?_eq_none_iff.mp hq;omega)
      rw[hp,cond_false]
      exact hT
     |some r=>
      have hlt:=(List.getElem?_eq_some_iff.mp hq).1
      obtain⟨p,hp⟩:∃p:Nat,s.pos=p:=⟨s.pos.toNat,by omega⟩
      rw[hp,Int.toNat_natCast]at hq
      obtain⟨n1,n2,n3,n4⟩:=ZCl hq
      rw[←hp]at n2 n3
      have n4:at' (s.inp.map Rw.e) (tn s.pos)=r.e:=by rw[hp,Z86];exact n4
      have hf:leI (w64 ((ZDd s:Nat)+(r.cost:Nat))) g=ZIh s g r:=ZI9.resolve_right (by omega)
      simp only[n2,n3,n4,cond_true,Rw.e,ZBZ,hf,gA]
      cases hfit:ZIh s g r with
      |false=>simp only[cond_false,Bool.false_eq_true,if_false];exact hT
      |true=>
       simp only[cond_true,if_true,ZKT r s.out (by omega),gA,Z5b]
       rw[show fitM (Nat.succ s.dfd.length) 24=true from Z97 (by omega),show fitM (Nat.succ s.heap.length) 24=true from Z97 (by omega),cond_true,cond_true,Z9A,Z9A]
       unfold ZJT
       cases ZAC r s.out<;>rfl
    ·rw[eqF h1,if_neg h1]
     have hL:=ZM6 s h hv h1
     simp only[Bool.not_true,Bool.not_false,Bool.and_self,cond_true,cond_false]
     refine hL.trans ?_
     by_cases h2:s.ph=2
     ·rw[if_pos h2,if_pos h2]
     ·rw[if_neg h2,if_neg h2]
      obtain⟨_,_,_,_,hl⟩:=Z7c (Z7E hv).2.2.2.2.2.2 h1
      rw[if_pos (by rcases ZBT hl with e|e|e<;>first|exact absurd e h2|exact e|exact absurd e h4)]
theorem ZJX (s:So) (g:Int) (h:s.B2):callI tE Z8g [.sl (s.inp.map Rw.e),.int s.pos,.sl (s.heap.map Rw.e),.sl (s.dfd.map Rw.e),.sl (s.out.map Rw.e),.sl (s.runs.map rsE),.int s.lp,.int s.rp,.int s.ph,.int s.wr,.int g]=some (StR (ZBu s g)):=by
 obtain⟨b1,b2,b3,b4,b5,b6⟩:=ZFp h
 rw[ZDY,ZL1 s h.b,ZEN s h,ZCW]
 simp only[gA]
 unfold ZBu ZHS
 cases hv:Z9s s with
 |false=>rfl
 |true=>
  cases hg:win g 8 60 with
  |false=>rfl
  |true=>
   by_cases h4:s.ph=4
   ·rw[eqT h4];rfl
   ·rw[eqF h4]
    by_cases h1:s.ph=1
    ·rw[eqT h1,if_pos h1]
     have hm:=ZLh hv h1
     obtain⟨_,⟨p0,p1⟩,_⟩:=Z7E hv
     have hT:=ZMf s h
     simp only[Bool.not_true,Bool.not_false,Bool.and_self,cond_true,cond_false,ZMP s h.b,gA]
     unfold ZK9
     cases hq:s.inp[s.pos.toNat]? with
     |none=>
      have hp:ltI s.pos (lenI (s.inp.map Rw.e))=false:=by rw[Z5L];exact ltF (by have:=List.getElem?_eq_none_iff.mp hq;omega)
      rw[hp,cond_false]
      exact hT
     |some r=>
      have hlt:=(List.getElem?_eq_some_iff.mp hq).1
      obtain⟨p,hp⟩:∃p:Nat,s.pos=p:=⟨s.pos.toNat,by omega⟩
      rw[hp,Int.toNat_natCast]at hq
      obtain⟨n1,n2,n3,n4⟩:=ZCl hq
      rw[←hp]at n2 n3
      have n4:at' (s.inp.map Rw.e) (tn s.pos)=r.e:=by rw[hp,Z86];exact n4
      have hf:leI (w64 ((ZDd s:Nat)+(r.cost:Nat))) g=ZIh s g r:=ZI9.resolve_right (by omega)
      simp only[n2,n3,n4,cond_true,Rw.e,ZCD,hf,gA]
      cases hfit:ZIh s g r with
      |false=>simp only[cond_false,Bool.false_eq_true,if_false];exact hT
      |true=>
       simp only[cond_true,if_true,Z5b]
       rw[show fitM (Nat.succ s.dfd.length) 24=true from Z97 (by omega),show fitM (Nat.succ s.heap.length) 24=true from Z97 (by omega)]
       unfold ZJT
       rcases ZGH s.out with ho|⟨u,x,ho⟩
       ·rw[ho,ZCk,ZCG]
        simp only[cond_true,cond_false]
        rw[Z9A];rfl
       ·have e1:w64 (lenI (s.out.map Rw.e)-1)=(u.length:Int):=by rw[Z5L,ho,Z5Q ⟨by simp only[List.length_append,List.length_singleton];omega,by rw[ho]at b4;simp only[List.length_append,List.length_singleton]at*;omega⟩];simp
        have hux:s.out[u.length]?=some x:=by rw[ho];simp
        rw[ZH1 (by rw[ho];simp),e1,ZKW hux,Z86,ZKV hux]
        simp only[cond_true,Rw.e,ZBa,ZAk,gA]
        rw[ho,ZAo]
        by_cases hlt:Rw.lt r x
        ·rw[decide_eq_true hlt]
         simp only[cond_true]
         rw[Z9A];rfl
        ·rw[decide_eq_false hlt]
         simp only[cond_true,cond_false]
         rw[Z9A];rfl
    ·rw[eqF h1,if_neg h1]
     have hL:=ZM7 s h hv h1 h4
     simp only[Bool.not_true,Bool.not_false,Bool.and_self,cond_true,cond_false]
     exact hL
theorem ZAL {s:So} (h1:aok s.inp=true) (h2:0≤s.pos∧s.pos≤s.inp.length) (h3:∀r∈s.runs,ZBS r=true) (h4:0≤s.wr) (h5:Srt s.out) (h6:∀r∈s.heap,ZAC r s.out=false) (h7:Z9g s=true):Z9s s=true:=by
 simp only[Z9s,Bool.and_eq_true,Z98,decide_eq_true_eq,List.all_eq_true,ZFB,Bool.not_eq_true']
 exact⟨h1,h2,h3,h4,h5,h6,h7⟩
theorem ZBU {s:So} (p:s.ph=1) (h1:s.lp=0) (h2:s.rp=0) (h3:s.out≠[]∨s.dfd=[]) (h4:ZDd s≤60) (h5:(s.runs.flatten++(s.out++(s.heap++s.dfd))).Perm (s.inp.take s.pos.toNat)):Z9g s=true:=by
 unfold Z9g
 rw[if_pos p]
 simp only[Bool.and_eq_true,decide_eq_true_eq,ZC7]
 exact⟨h1,h2,h3,h4,h5⟩
theorem Z9t {s:So} (p:s.ph≠1) (h1:s.pos=s.inp.length) (h2:s.heap=[]) (h3:s.dfd=[]) (h4:s.runs.flatten.Perm s.inp) (h5:Z9H s=true):Z9g s=true:=by
 unfold Z9g
 rw[if_neg p]
 simp only[Bool.and_eq_true,decide_eq_true_eq,ZC7]
 exact⟨h1,h2,h3,h4,h5⟩
theorem ZDi {s:So} (p:s.ph=2) {a b:List Rw} {r:List (List Rw)} (e:s.runs=a::b::r) (h1:0≤s.lp∧s.lp≤a.length) (h2:0≤s.rp∧s.rp≤b.length) (h3:s.out=mrg (a.take s.lp.toNat) (b.take s.rp.toNat)) (h4:s.out=(mrg a b).take (s.lp.toNat+s.rp.toNat)):Z9H s=true:=by
 unfold Z9H
 rw[if_pos p]
 unfold ZFD
 rw[e]
 simp only[Bool.and_eq_true,decide_eq_true_eq,Z98]
 exact⟨h1,h2,h3,h4⟩
theorem ZFq {s:So} (p:s.ph=3) (h1:s.runs.length=1) (h2:0≤s.lp∧s.lp<s.inp.length) (h3:s.rp=0) (h4:s.out=[]):Z9H s=true:=by
 unfold Z9H
 rw[if_neg (by omega),if_pos p]
 simp only[Bool.and_eq_true,decide_eq_true_eq]
 exact⟨h1,h2,h3,h4⟩
theorem ZFr {s:So} (p:s.ph=4) (h1:s.runs.length≤1) (h2:s.lp=s.inp.length) (h3:s.rp=0) (h4:s.out=[]):Z9H s=true:=by
 unfold Z9H
 rw[if_neg (by omega),if_neg (by omega),if_pos p]
 simp only[Bool.and_eq_true,decide_eq_true_eq]
 exact⟨h1,h2,h3,h4⟩
theorem ZAs:∀(n:Nat) (a b:List Rw),a.length+b.length=n→Srt a→Srt b→Srt (mrg a b)
 |0,a,b,h,_,_=>by
  have e1:a=[]:=List.length_eq_zero_iff.mp (by omega)
  subst e1
  rw[Z9r]
  have e2:b=[]:=List.length_eq_zero_iff.mp (by omega)
  subst e2
  exact .nil
 |n+1,[],b,h,_,hb=>by rw[Z9r];exact hb
 |n+1,x::a,[],h,ha,_=>by rw[ZAa];exact ha
 |n+1,x::a,y::b,h,ha,hb=>by
  obtain⟨ha1,ha2⟩:=List.pairwise_cons.mp ha
  obtain⟨hb1,hb2⟩:=List.pairwise_cons.mp hb
  simp only[List.length_cons]at h
  rw[ZFC]
  split
  ·rename_i hle
   refine List.pairwise_cons.mpr ⟨fun z hz=>?_,ZAs n a (y::b) (by simp only[List.length_cons];omega) ha2 hb⟩
   have:=(Z8q _ a (y::b) rfl).mem_iff.mp hz
   rcases List.mem_append.mp this with h1|h1
   ·exact ha1 z h1
   ·rcases List.mem_cons.mp h1 with rfl|h1
    ·exact hle
    ·exact Rw.le_tr hle (hb1 z h1)
  ·rename_i hle
   have hyx:Rw.le y x:=(Rw.le_total y x).resolve_right hle
   refine List.pairwise_cons.mpr ⟨fun z hz=>?_,ZAs n (x::a) b (by simp only[List.length_cons];omega) ha hb2⟩
   have:=(Z8q _ (x::a) b rfl).mem_iff.mp hz
   rcases List.mem_append.mp this with h1|h1
   ·rcases List.mem_cons.mp h1 with rfl|h1
    ·exact hyx
    ·exact Rw.le_tr hyx (ha1 z h1)
   ·exact hb1 z h1
theorem ZAt {u v:List Rw} (h:Srt (u++v)):Srt u∧Srt v:=⟨(List.pairwise_append.mp h).1,(List.pairwise_append.mp h).2.1⟩
theorem ZH2 {a1 a2 b1 b2:List Rw} (ha:Srt (a1++a2)) (hb:Srt (b1++b2)) (h:mrg a1 b1=(mrg (a1++a2) (b1++b2)).take (a1.length+b1.length)):mrg (a1++a2) (b1++b2)=mrg a1 b1++mrg a2 b2:=by
 have hs:=ZAs _ _ _ rfl ha hb
 have e:=List.take_append_drop (a1.length+b1.length) (mrg (a1++a2) (b1++b2))
 rw[←h]at e
 have hd:(mrg (a1++a2) (b1++b2)).drop (a1.length+b1.length)=mrg a2 b2:=by
  refine Z8p ?_ ?_ (ZAs _ _ _ rfl (ZAt ha).2 (ZAt hb).2)
  ·refine List.perm_iff_count.mpr fun x=>?_
   have p1:=(Z8q _ (a1++a2) (b1++b2) rfl).count_eq x
   have p2:=(Z8q _ a1 b1 rfl).count_eq x
   have p3:=(Z8q _ a2 b2 rfl).count_eq x
   rw[←e]at p1
   simp only[List.count_append]at p1 p2 p3
   omega
  ·rw[←e]at hs;exact(ZAt hs).2
 rw[hd]at e
 exact e.symm
theorem ZJY {a1 a2 b1 b2:List Rw} {x:Rw} (ha:Srt (a1++x::a2)) (hb:Srt (b1++b2)) (h:mrg a1 b1=(mrg (a1++x::a2) (b1++b2)).take (a1.length+b1.length)) (hx:∀y∈b2.head?,Rw.le x y):
  mrg (a1++[x]) b1=mrg a1 b1++[x]∧(mrg (a1++x::a2) (b1++b2)).take (a1.length+1+b1.length)=mrg a1 b1++[x]:=by
 have e:=ZH2 ha hb h
 have e2:mrg (x::a2) b2=x::mrg a2 b2:=by
  cases b2 with
  |nil=>rw[ZAa,ZAa]
  |cons y b=>rw[ZFC,if_pos (hx y rfl)]
 rw[e2]at e
 have hs:=ZAs _ _ _ rfl ha hb
 rw[e,show mrg a1 b1++x::mrg a2 b2=(mrg a1 b1++[x])++mrg a2 b2 by simp]at hs
 refine⟨Z8p ?_ (ZAs _ _ _ rfl ?_ (ZAt hb).1) (ZAt hs).1,?_⟩
 ·refine List.perm_iff_count.mpr fun z=>?_
  have p1:=(Z8q _ (a1++[x]) b1 rfl).count_eq z
  have p2:=(Z8q _ a1 b1 rfl).count_eq z
  simp only[List.count_append]at p1 p2⊢
  omega
 ·have:a1++x::a2=(a1++[x])++a2:=by simp
  rw[this]at ha
  exact(ZAt ha).1
 ·rw[e,show mrg a1 b1++x::mrg a2 b2=(mrg a1 b1++[x])++mrg a2 b2 by simp]
  exact List.take_left' (by simp[Z9G];omega)
theorem ZJZ {a1 a2 b1 b2:List Rw} {y:Rw} (ha:Srt (a1++a2)) (hb:Srt (b1++y::b2)) (h:mrg a1 b1=(mrg (a1++a2) (b1++y::b2)).take (a1.length+b1.length)) (hy:∀x∈a2.head?,¬Rw.le x y):
  mrg a1 (b1++[y])=mrg a1 b1++[y]∧(mrg (a1++a2) (b1++y::b2)).take (a1.length+(b1.length+1))=mrg a1 b1++[y]:=by
 have e:=ZH2 ha hb h
 have e2:mrg a2 (y::b2)=y::mrg a2 b2:=by
  cases a2 with
  |nil=>rw[Z9r,Z9r]
  |cons x a=>rw[ZFC,if_neg (hy x rfl)]
 rw[e2]at e
 have hs:=ZAs _ _ _ rfl ha hb
 rw[e,show mrg a1 b1++y::mrg a2 b2=(mrg a1 b1++[y])++mrg a2 b2 by simp]at hs
 refine⟨Z8p ?_ (ZAs _ _ _ rfl (ZAt ha).1 ?_) (ZAt hs).1,?_⟩
 ·refine List.perm_iff_count.mpr fun z=>?_
  have p1:=(Z8q _ a1 (b1++[y]) rfl).count_eq z
  have p2:=(Z8q _ a1 b1 rfl).count_eq z
  simp only[List.count_append]at p1 p2⊢
  omega
 ·have:b1++y::b2=(b1++[y])++b2:=by simp
  rw[this]at hb
  exact(ZAt hb).1
 ·rw[e,show mrg a1 b1++y::mrg a2 b2=(mrg a1 b1++[y])++mrg a2 b2 by simp]
  exact List.take_left' (by simp[Z9G];omega)
def ZCT (s:So):Nat:=
 if s.ph=1 then 3*(s.inp.length-s.pos.toNat)+2*(s.heap.length+s.dfd.length)+(if s.out=[]then 0 else 1)+(s.inp.length*(s.inp.length+2)+s.inp.length+2)
 else if s.ph=2 then(s.runs.length-1)*(s.inp.length+2)+(s.inp.length+1)-(s.lp.toNat+s.rp.toNat)
 else if s.ph=3 then s.inp.length-s.lp.toNat
 else 0
def rest (s:So):List Rw:=if s.ph=3 then(Z9J s.inp).drop s.lp.toNat else if s.ph=4 then[]else Z9J s.inp
structure ZDv (s s':So) (em:List Rw):Prop where
 ok:Z9s s'=true
 wr:s.wr≤s'.wr∧s'.wr≤s.wr+4
 inp:s'.inp=s.inp
 less:ZCT s'<ZCT s
 rest:rest s=em++rest s'
theorem ZGO:∀{l:List (List Rw)},(∀r∈l,ZBS r=true)→l.length≤l.flatten.length
 |[],_=>Nat.le_refl _
 |a::l,h=>by
  have ih:=ZGO (l:=l) (fun r hr=>h r (by simp[hr]))
  have:=h a (by simp)
  simp only[ZBS,Bool.and_eq_true,decide_eq_true_eq]at this
  simp only[List.length_cons,List.flatten_cons,List.length_append]
  omega
theorem ZFJ {r:List Rw} (h:ZBS r=true):r≠[]∧Srt r∧aok r=true:=by
 simp only[ZBS,Bool.and_eq_true,decide_eq_true_eq,ZFB]at h
 exact⟨fun e=>by rw[e]at h;simp at h,h.2.1,h.2.2⟩
theorem ZGP {r:List Rw} (h1:r≠[]) (h2:Srt r) (h3:aok r=true):ZBS r=true:=by
 simp only[ZBS,Bool.and_eq_true,decide_eq_true_eq,ZFB]
 exact⟨by cases r with|nil=>exact absurd rfl h1|cons a l=>simp,h2,h3⟩
theorem ZHU {s:So} (h1:aok s.inp=true) (hp:s.pos=s.inp.length) (h3:∀r∈s.runs,ZBS r=true) (h4:0≤s.wr) (hh:s.heap=[]) (hd:s.dfd=[]) (ho:s.out=[]) (hpm:s.runs.flatten.Perm s.inp):
  Z9s (ZCP s)=true∧ZCT (ZCP s)≤s.runs.length*(s.inp.length+2)∧ZCT (ZCP s)<s.inp.length*(s.inp.length+2)+s.inp.length+2∧rest (ZCP s)=Z9J s.inp:=by
 have hlen:=hpm.length_eq
 have hrl:=ZGO h3
 have hmul:(s.runs.length-1)*(s.inp.length+2)≤s.inp.length*(s.inp.length+2):=Nat.mul_le_mul_right _ (by omega)
 obtain⟨inp,pos,heap,dfd,out,runs,lp,rp,ph,wr⟩:=s
 simp only at*
 subst hh;subst hd;subst ho
 unfold ZCP
 simp only
 rcases runs with _|⟨a,_|⟨b,r⟩⟩
 ·have hi:inp=[]:=List.length_eq_zero_iff.mp (by simpa using hlen.symm)
  subst hi
  refine⟨ZAL h1 (by simp only at*;simp at hp;omega) h3 h4 .nil (fun r hr=>by cases hr) (Z9t (by simp) hp rfl rfl hpm (ZFr rfl (by simp) rfl rfl rfl)),by simp[ZCT],by simp[ZCT],by simp[rest,Z9J]⟩
 ·have ha:=(ZFJ (h3 a (by simp))).1
  have hil:0<inp.length:=by
   cases a with
   |nil=>exact absurd rfl ha
   |cons x a=>simp at hlen;omega
  refine⟨ZAL h1 (by simp only;omega) h3 h4 .nil (fun r hr=>by cases hr) (Z9t (by simp) hp rfl rfl hpm (ZFq (by simp) (by simp) (by simp only;omega) rfl rfl)),by simp[ZCT]<;>omega,by simp[ZCT]<;>omega,by simp[rest]⟩
 ·have e0:¬(a::b::r).length=0:=by simp
  have e1:¬(a::b::r).length=1:=by simp
  simp only[if_neg e0,if_neg e1]
  refine⟨ZAL h1 (by simp only;omega) h3 h4 .nil (fun r hr=>by cases hr) (Z9t (by simp) hp rfl rfl hpm (ZDi rfl rfl (by simp) (by simp) (by simp[Z9r]) (by simp))),?_,?_,by simp[rest]⟩
  ·simp only[ZCT,List.length_cons,Nat.add_sub_cancel]at*
   have:(r.length+1+1)*(inp.length+2)=(r.length+1)*(inp.length+2)+(inp.length+2):=Nat.succ_mul _ _
   simp;omega
  ·simp only[ZCT,List.length_cons,Nat.add_sub_cancel]at*
   simp;omega
theorem ZIX {l:List Rw} {m:Rw} (hs:Srt l) (h:ZAC m l=false):Srt (l++[m]):=by
 rcases ZGH l with rfl|⟨u,x,rfl⟩
 ·exact List.pairwise_singleton _ _
 ·rw[ZAo,decide_eq_false_iff_not]at h
  refine List.pairwise_append.mpr ⟨hs,List.pairwise_singleton _ _,fun z hz y hy=>?_⟩
  rw[List.mem_singleton.mp hy]
  rcases List.mem_append.mp hz with hz|hz
  ·exact Rw.le_tr ((List.pairwise_append.mp hs).2.2 z hz x (by simp)) h
  ·rw[List.mem_singleton.mp hz];exact h
theorem ZH3 {l:List Rw} {k:Nat} {m:Rw} (h:l[k]?=some m):(m::ZFH l k).Perm l:=by
 obtain⟨hk,hm⟩:=List.getElem?_eq_some_iff.mp h
 have e:l=l.take k++m::l.drop (k+1):=by
  rw[←hm,←List.drop_eq_getElem_cons hk,List.take_append_drop]
 unfold ZFH
 refine List.perm_iff_count.mpr fun x=>?_
 have:=congrArg (List.count x) e
 simp only[List.count_cons,List.count_append]at this⊢
 omega
theorem ZIY {l m:List Rw} (h:l.Perm m):Z8v l=Z8v m:=by
 unfold Z8v
 exact(h.map Rw.cost).sum_nat
theorem ZBV {s:So} (h:s.ph=1∨s.ph=2):rest s=Z9J s.inp:=by
 unfold rest
 rw[if_neg (by omega),if_neg (by omega)]
theorem ZDj {s s':So} (h:s.ph=1∨s.ph=2) (h':s'.ph=1∨s'.ph=2) (e:s'.inp=s.inp):rest s=[]++rest s':=by rw[ZBV h,ZBV h',e];rfl
theorem ZL3 {s:So} {g:Int} {r:Rw} (hv:Z9s s=true) (h1:s.ph=1) (hg:g≤60) (hq:s.inp[s.pos.toNat]?=some r) (hf:ZIh s g r=true):ZDv s (ZJT s r) []:=by
 obtain⟨o1,⟨o2,o2'⟩,o3,o4,o5,o6,o7⟩:=Z7E hv
 obtain⟨t1,t2,t3,t4,t5⟩:=ZB5 o7 h1
 have hlt:=(List.getElem?_eq_some_iff.mp hq).1
 have hin:=Z6V o1
 have hw:w64 (s.pos+1)=s.pos+1:=Z5Q ⟨by omega,by omega⟩
 have htk:s.inp.take (s.pos+1).toNat=s.inp.take s.pos.toNat++[r]:=by
  rw[show(s.pos+1).toNat=s.pos.toNat+1 by omega,List.take_add_one,hq];rfl
 have hm:(ZDd s:Int)+(r.cost:Nat)≤g:=by simpa[ZIh,leI]using hf
 have hms:ZDd s=Z8v s.heap+Z8v s.dfd:=if_pos h1
 unfold ZJT
 cases hb:ZAC r s.out with
 |true=>
  have hout:s.out≠[]:=fun e=>by rw[e,ZCG]at hb;cases hb
  simp only[if_true]
  refine⟨ZAL o1 ⟨by simp only[hw];omega,by simp only[hw];omega⟩ o3 o4 o5 o6 (ZBU h1 t1 t2 (.inl hout) ?_ ?_),⟨by simp,by simp;omega⟩,rfl,?_,?_⟩
  ·simp only[ZDd,h1,if_true,ZEi,ZBL,ZBK];omega
  ·simp only[hw,htk]
   refine List.perm_iff_count.mpr fun x=>?_
   have:=t5.count_eq x
   simp only[List.count_append]at this⊢
   omega
  ·simp only[ZCT,h1,if_true,hw,List.length_append,List.length_singleton]
   have:(s.pos+1).toNat=s.pos.toNat+1:=by omega
   rw[this];omega
  ·exact ZDj (.inl h1) (.inl h1) rfl
 |false=>
  simp only[Bool.false_eq_true,if_false]
  refine⟨ZAL o1 ⟨by simp only[hw];omega,by simp only[hw];omega⟩ o3 o4 o5 (fun x hx=>?_) (ZBU h1 t1 t2 t3 ?_ ?_),⟨by simp,by simp;omega⟩,rfl,?_,?_⟩
  ·rcases List.mem_append.mp hx with hx|hx
   ·exact o6 x hx
   ·rw[List.mem_singleton.mp hx];exact hb
  ·simp only[ZDd,h1,if_true,ZEi,ZBL,ZBK];omega
  ·simp only[hw,htk]
   refine List.perm_iff_count.mpr fun x=>?_
   have:=t5.count_eq x
   simp only[List.count_append]at this⊢
   omega
  ·simp only[ZCT,h1,if_true,hw,List.length_append,List.length_singleton]
   have:(s.pos+1).toNat=s.pos.toNat+1:=by omega
   rw[this];omega
  ·exact ZDj (.inl h1) (.inl h1) rfl
theorem ZLi {s:So} (hv:Z9s s=true) (h1:s.ph=1) (hh:s.heap≠[]) (hw:s.wr≤1000000000000):ZDv s (ZM5 s) []:=by
 obtain⟨o1,⟨o2,o2'⟩,o3,o4,o5,o6,o7⟩:=Z7E hv
 obtain⟨t1,t2,t3,t4,t5⟩:=ZB5 o7 h1
 obtain⟨m,hm,hmin⟩:=ZI5 hh
 have hgd:s.heap.getD (ZDf s.heap) rwZ=m:=by simp[List.getD_eq_getElem?_getD,hm]
 have hp:=ZH3 hm
 have hml:=hp.length_eq
 simp only[List.length_cons]at hml
 have hmh:m∈s.heap:=List.mem_of_getElem? hm
 have hc:=ZBY m
 have hww:w64 (s.wr+(m.cost:Nat))=s.wr+(m.cost:Nat):=Z5Q ⟨by omega,by omega⟩
 have hms:ZDd s=Z8v s.heap+Z8v s.dfd:=if_pos h1
 have htc:=ZIY hp
 rw[ZBL]at htc
 unfold ZM5
 rw[hgd,hww]
 refine⟨ZAL o1 ⟨o2,o2'⟩ o3 (by simp only;omega) (ZIX o5 (o6 m hmh)) (fun x hx=>?_) (ZBU h1 t1 t2 (.inl (by simp)) ?_ ?_),⟨by simp only;omega,by simp only;omega⟩,rfl,?_,?_⟩
 ·simp only at hx⊢
  rw[ZAo,decide_eq_false_iff_not]
  exact hmin x (hp.mem_iff.mp (by simp[hx]))
 ·simp only[ZDd,h1,if_true];omega
 ·refine List.perm_iff_count.mpr fun x=>?_
  have:=t5.count_eq x
  have e:=hp.count_eq x
  simp only[List.count_append,List.count_cons,List.count_nil]at this e⊢
  omega
 ·simp only[ZCT,h1,if_true]
  have e1:¬(s.out++[m]=[]):=by simp
  rw[if_neg e1]
  split<;>omega
 ·exact ZDj (.inl h1) (.inl h1) rfl
theorem ZKZ {s:So} {g:Int} (hv:Z9s s=true) (h1:s.ph=1) (hg:8≤g) (hw:s.wr≤1000000000000) (hn:∀r,s.inp[s.pos.toNat]?=some r→ZIh s g r=false):ZDv s (ZKX s) []:=by
 unfold ZKX
 obtain⟨o1,⟨o2,o2'⟩,o3,o4,o5,o6,o7⟩:=Z7E hv
 obtain⟨t1,t2,t3,t4,t5⟩:=ZB5 o7 h1
 obtain⟨r1,r2,r3⟩:=ZDe hv
 have hms:ZDd s=Z8v s.heap+Z8v s.dfd:=if_pos h1
 by_cases hh:s.heap=[]
 ·rw[if_pos hh]
  by_cases hd:s.dfd=[]
  ·rw[if_pos hd]
   have hpos:s.pos=s.inp.length:=by
    cases hq:s.inp[s.pos.toNat]? with
    |none=>have:=List.getElem?_eq_none_iff.mp hq;omega
    |some r=>
     have:=hn r hq
     rw[hh,hd]at hms
     have hc:=ZBY r
     simp only[ZBK]at hms
     simp only[ZIh,leI,decide_eq_false_iff_not]at this
     omega
   have htk:s.inp.take s.pos.toNat=s.inp:=List.take_of_length_le (by omega)
   rw[htk,hh,hd]at t5
   simp only[List.append_nil]at t5
   by_cases ho:s.out=[]
   ·rw[if_pos ho]
    rw[ho,List.append_nil]at t5
    obtain⟨n1,n2,n3,n4⟩:=ZHU o1 hpos o3 o4 hh hd ho t5
    refine⟨n1,⟨Int.le_refl _,by show s.wr≤s.wr+4;omega⟩,rfl,?_,?_⟩
    ·simp only[ZCT,h1,if_true]at n3⊢;omega
    ·rw[ZBV (.inl h1),n4];rfl
   ·rw[if_neg ho]
    have hrun:=ZGP ho o5 r3
    obtain⟨n1,n2,n3,n4⟩:=ZHU (s:=ZFb s) o1 hpos (fun r hr=>by
     rcases List.mem_append.mp hr with hr|hr
     ·exact o3 r hr
     ·rw[List.mem_singleton.mp hr];exact hrun) o4 hh hd rfl (by simpa[ZFb]using t5)
    refine⟨n1,⟨Int.le_refl _,by show s.wr≤s.wr+4;omega⟩,rfl,?_,?_⟩
    ·have:(ZFb s).inp=s.inp:=rfl
     rw[this]at n3
     have e:ZCT s=3*(s.inp.length-s.pos.toNat)+2*(s.heap.length+s.dfd.length)+(if s.out=[]then 0 else 1)+(s.inp.length*(s.inp.length+2)+s.inp.length+2):=if_pos h1
     rw[e];omega
    ·rw[ZBV (.inl h1),n4];rfl
  ·rw[if_neg hd]
   have ho:s.out≠[]:=t3.resolve_right hd
   refine⟨ZAL o1 ⟨o2,o2'⟩ (fun r hr=>?_) o4 .nil (fun r _=>ZCG r) (ZBU h1 t1 t2 (.inr rfl) ?_ ?_),⟨Int.le_refl _,by show s.wr≤s.wr+4;omega⟩,rfl,?_,?_⟩
   ·rcases List.mem_append.mp hr with hr|hr
    ·exact o3 r hr
    ·rw[List.mem_singleton.mp hr];exact ZGP ho o5 r3
   ·rw[hh,ZBK]at hms
    simp only[ZDd,h1,if_true,ZBK]at*;omega
   ·rw[hh]at t5
    refine List.perm_iff_count.mpr fun x=>?_
    have:=t5.count_eq x
    simp only[List.flatten_append,List.flatten_cons,List.flatten_nil,List.count_append,List.count_nil]at this⊢
    omega
   ·simp only[ZCT,h1,if_true,if_neg ho,hh,List.length_nil];omega
   ·exact ZDj (.inl h1) (.inl h1) rfl
 ·rw[if_neg hh]
  exact ZLi hv h1 hh hw
theorem ZLj (x:Rw) {w:Int} (h0:0≤w) (h:w≤1000000000000):w64 (w+(x.cost:Nat))=w+(x.cost:Nat):=by have:=ZBY x;exact Z5Q ⟨by omega,by omega⟩
theorem ZC8 {l:List Rw} {p:Nat} {x:Rw} (h:l[p]?=some x):l=l.take p++x::l.drop (p+1)∧l.take (p+1)=l.take p++[x]∧(l.take p).length=p∧l.drop p=x::l.drop (p+1):=by
 obtain⟨hk,hm⟩:=List.getElem?_eq_some_iff.mp h
 have e:l.drop p=x::l.drop (p+1):=by rw[←hm];exact List.drop_eq_getElem_cons hk
 exact⟨by rw[←e,List.take_append_drop],by rw[List.take_add_one,h];rfl,by simp;omega,e⟩
theorem ZKC {s:So} (hv:Z9s s=true) (h2:s.ph=2) (hw:s.wr≤1000000000000):ZDv s (ZHR s) []:=by
 obtain⟨o1,⟨o2,o2'⟩,o3,o4,o5,o6,o7⟩:=Z7E hv
 obtain⟨t1,t2,t3,t4,t5⟩:=Z7c o7 (by omega)
 obtain⟨a,b,r,e,⟨l0,l1⟩,⟨r0,r1⟩,m1,m2⟩:=ZCH t5 h2
 have hin:=Z6V o1
 have hlen:=t4.length_eq
 rw[e]at hlen
 simp only[List.flatten_cons,List.length_append]at hlen
 have hsa:=(ZFJ (o3 a (by rw[e];simp))).2.1
 have hsb:=(ZFJ (o3 b (by rw[e];simp))).2.1
 obtain⟨s1,s2,s3⟩:=ZDe hv
 obtain⟨inp,pos,heap,dfd,out,runs,lp,rp,ph,wr⟩:=s
 simp only at*
 subst e;subst h2;subst t2;subst t3
 obtain⟨p,rfl⟩:∃p:Nat,lp=p:=⟨lp.toNat,by omega⟩
 obtain⟨q,rfl⟩:∃q:Nat,rp=q:=⟨rp.toNat,by omega⟩
 simp only[Int.toNat_natCast]at*
 have hpw:w64 ((p:Int)+1)=((p+1:Nat):Int):=Z7n (by omega)
 have hqw:w64 ((q:Int)+1)=((q+1:Nat):Int):=Z7n (by omega)
 have lenA:(a.take p).length=p:=by simp;omega
 have lenB:(b.take q).length=q:=by simp;omega
 have eA:a.take p++a.drop p=a:=List.take_append_drop _ _
 have eB:b.take q++b.drop q=b:=List.take_append_drop _ _
 have inv:mrg (a.take p) (b.take q)=(mrg (a.take p++a.drop p) (b.take q++b.drop q)).take ((a.take p).length+(b.take q).length):=by rw[eA,eB,lenA,lenB,←m2,m1]
 have left:∀x,a[p]?=some x→(∀y∈(b.drop q).head?,Rw.le x y)→ZDv ⟨inp,pos,[],[],out,a::b::r,p,q,2,wr⟩ (ZKA ⟨inp,pos,[],[],out,a::b::r,p,q,2,wr⟩ x) []:=fun x hx hy=>by
  obtain⟨g1,g2,g3,g4⟩:=ZC8 hx
  have hplt:=(List.getElem?_eq_some_iff.mp hx).1
  have hc:=ZBY x
  rw[g4]at inv
  obtain⟨k1,k2⟩:=ZJY (by rw[←g1];exact hsa) (by rw[eB];exact hsb) inv hy
  rw[←g2,←m1]at k1
  rw[←g1,eB,lenA,lenB,←m1]at k2
  unfold ZKA
  simp only[hpw,ZLj x o4 hw]
  have hs:Srt (out++[x]):=by
   rw[←k2]
   have:=ZAs _ _ _ rfl hsa hsb
   rw[←List.take_append_drop (p+1+q) (mrg a b)]at this
   exact(ZAt this).1
  refine⟨ZAL o1 ⟨o2,o2'⟩ o3 (by simp only;omega) hs (fun r hr=>by cases hr) (Z9t (by simp) t1 rfl rfl t4 (ZDi rfl rfl ⟨by simp only;omega,by simp only;omega⟩ ⟨r0,r1⟩ ?_ ?_)),⟨by simp only;omega,by simp only;omega⟩,rfl,?_,ZDj (.inr rfl) (.inr rfl) rfl⟩
  ·simp only[Int.toNat_natCast];exact k1.symm
  ·simp only[Int.toNat_natCast];exact k2.symm
  ·simp only[ZCT,List.length_cons,Int.toNat_natCast]
   simp;omega
 have right:∀y,b[q]?=some y→(∀x∈(a.drop p).head?,¬Rw.le x y)→ZDv ⟨inp,pos,[],[],out,a::b::r,p,q,2,wr⟩ (ZKB ⟨inp,pos,[],[],out,a::b::r,p,q,2,wr⟩ y) []:=fun y hy hx=>by
  obtain⟨g1,g2,g3,g4⟩:=ZC8 hy
  have hqlt:=(List.getElem?_eq_some_iff.mp hy).1
  have hc:=ZBY y
  rw[g4]at inv
  obtain⟨k1,k2⟩:=ZJZ (by rw[eA];exact hsa) (by rw[←g1];exact hsb) inv hx
  rw[←g2,←m1]at k1
  rw[←g1,eA,lenA,lenB,←m1]at k2
  unfold ZKB
  simp only[hqw,ZLj y o4 hw]
  have hs:Srt (out++[y]):=by
   rw[←k2]
   have:=ZAs _ _ _ rfl hsa hsb
   rw[←List.take_append_drop (p+(q+1)) (mrg a b)]at this
   exact(ZAt this).1
  refine⟨ZAL o1 ⟨o2,o2'⟩ o3 (by simp only;omega) hs (fun r hr=>by cases hr) (Z9t (by simp) t1 rfl rfl t4 (ZDi rfl rfl ⟨l0,l1⟩ ⟨by simp only;omega,by simp only;omega⟩ ?_ ?_)),⟨by simp only;omega,by simp only;omega⟩,rfl,?_,ZDj (.inr rfl) (.inr rfl) rfl⟩
  ·simp only[Int.toNat_natCast];exact k1.symm
  ·simp only[Int.toNat_natCast];exact k2.symm
  ·simp only[ZCT,List.length_cons,Int.toNat_natCast]
   simp;omega
 unfold ZHR
 simp only[Int.toNat_natCast]
 cases ha:a[p]? with
 |none=>
  have hpe:p=a.length:=by have:=List.getElem?_eq_none_iff.mp ha;omega
  cases hb:b[q]? with
  |none=>
   have hqe:q=b.length:=by have:=List.getElem?_eq_none_iff.mp hb;omega
   simp only
   have hout:out=mrg a b:=by rw[m2,hpe,hqe,List.take_of_length_le (by rw[Z9G];omega)]
   have hane:=(ZFJ (o3 a (by simp))).1
   have hone:out≠[]:=fun e0=>by
    have:=Z9G a b
    rw[←hout,e0]at this
    cases a with
    |nil=>exact hane rfl
    |cons x a=>simp at this;omega
   have hrun:=ZGP hone (hout▸ZAs _ _ _ rfl hsa hsb) s3
   obtain⟨n1,n2,n3,n4⟩:=ZHU (s:=ZFb ⟨inp,pos,[],[],out,r,p,q,2,wr⟩) o1 t1 (fun x hx=>by
    rcases List.mem_append.mp hx with hx|hx
    ·exact o3 x (by simp[hx])
    ·rw[List.mem_singleton.mp hx];exact hrun) o4 rfl rfl rfl (by
    refine List.perm_iff_count.mpr fun x=>?_
    have c1:=t4.count_eq x
    have c2:=(Z8q _ a b rfl).count_eq x
    rw[←hout]at c2
    simp only[ZFb,List.flatten_append,List.flatten_cons,List.flatten_nil,List.count_append,List.count_nil]at c1 c2⊢
    omega)
   refine⟨n1,⟨Int.le_refl _,by show wr≤wr+4;omega⟩,rfl,?_,?_⟩
   ·have e1:(ZFb ⟨inp,pos,[],[],out,r,p,q,2,wr⟩:So).runs.length=r.length+1:=by simp[ZFb]
    rw[e1]at n2
    have e2:(ZFb ⟨inp,pos,[],[],out,r,p,q,2,wr⟩:So).inp=inp:=rfl
    rw[e2]at n2
    have e3:ZCT ⟨inp,pos,[],[],out,a::b::r,p,q,2,wr⟩=(r.length+1)*(inp.length+2)+(inp.length+1)-(p+q):=by simp[ZCT]
    rw[e3];omega
   ·rw[ZBV (.inr rfl),n4];rfl
  |some y=>
   simp only
   exact right y hb (fun x hx=>by rw[List.drop_of_length_le (by omega)]at hx;cases hx)
 |some x=>
  cases hb:b[q]? with
  |none=>
   simp only
   have:=List.getElem?_eq_none_iff.mp hb
   exact left x ha (fun y hy=>by rw[List.drop_of_length_le (by omega)]at hy;cases hy)
  |some y=>
   simp only
   have g4:=(ZC8 ha).2.2.2
   have g5:=(ZC8 hb).2.2.2
   by_cases hle:Rw.le x y
   ·rw[if_pos hle]
    exact left x ha (fun z hz=>by rw[g5]at hz;simp at hz;rw[←hz];exact hle)
   ·rw[if_neg hle]
    exact right y hb (fun z hz=>by rw[g4]at hz;simp at hz;rw[←hz];exact hle)
theorem ZL4 {s:So} (hv:Z9s s=true) (h3:s.ph=3):ZDv s (ZFI s).1 (ZFI s).2:=by
 obtain⟨o1,⟨o2,o2'⟩,o3,o4,o5,o6,o7⟩:=Z7E hv
 obtain⟨t1,t2,t3,t4,t5⟩:=Z7c o7 (by omega)
 obtain⟨e,⟨l0,l1⟩,e2,e3⟩:=ZB6 t5 h3
 have hin:=Z6V o1
 obtain⟨inp,pos,heap,dfd,out,runs,lp,rp,ph,wr⟩:=s
 simp only at*
 subst h3;subst t2;subst t3;subst e2;subst e3
 obtain⟨a,rfl⟩:=List.length_eq_one_iff.mp e
 obtain⟨p,rfl⟩:∃p:Nat,lp=p:=⟨lp.toNat,by omega⟩
 have t4:a.Perm inp:=by simpa using t4
 have hal:=t4.length_eq
 have hsa:=(ZFJ (o3 a (by simp))).2.1
 have ha:a=Z9J inp:=Z8p (t4.trans (Z6o inp).symm) hsa (ZBR inp)
 obtain⟨x,hx⟩:∃x,a[p]?=some x:=⟨_,List.getElem?_eq_getElem (by omega)⟩
 have hpw:w64 ((p:Int)+1)=((p+1:Nat):Int):=Z7n (by omega)
 unfold ZFI
 simp only[Int.toNat_natCast,hx,hpw]
 have hdrop:=(ZC8 hx).2.2.2
 rw[ha]at hdrop
 by_cases hl:p+1=inp.length
 ·rw[if_pos (by omega)]
  refine⟨ZAL o1 ⟨o2,o2'⟩ o3 o4 o5 (fun r hr=>by cases hr) (Z9t (by simp) t1 rfl rfl (by simpa using t4) (ZFr rfl (by simp) (by simp only;omega) rfl rfl)),⟨Int.le_refl _,by show wr≤wr+4;omega⟩,rfl,?_,?_⟩
  ·simp[ZCT];omega
  ·simp only[rest,Int.toNat_natCast]
   simp
   rw[hdrop,List.drop_of_length_le (by rw[←ha];omega)]
 ·rw[if_neg (by omega)]
  refine⟨ZAL o1 ⟨o2,o2'⟩ o3 o4 o5 (fun r hr=>by cases hr) (Z9t (by simp) t1 rfl rfl (by simpa using t4) (ZFq rfl rfl ⟨by simp only;omega,by simp only;omega⟩ rfl rfl)),⟨Int.le_refl _,by show wr≤wr+4;omega⟩,rfl,?_,?_⟩
  ·simp[ZCT];omega
  ·simp only[rest,Int.toNat_natCast]
   simp
   exact hdrop
theorem ZL5 {s:So} {g:Int} (h:ZHS s g=true) (hw:s.wr≤1000000000000):ZDv s (ZBu s g).1 (ZBu s g).2.1∧(ZBu s g).2.2=true:=by
 have h':=h
 simp only[ZHS,Bool.and_eq_true,Z98,Bool.not_eq_true',eqI,decide_eq_false_iff_not]at h'
 obtain⟨hv,⟨g0,g1⟩,h4⟩:=h'
 unfold ZBu
 rw[h,cond_true]
 by_cases h1:s.ph=1
 ·rw[if_pos h1]
  refine⟨?_,rfl⟩
  simp only
  unfold ZK9
  cases hq:s.inp[s.pos.toNat]? with
  |none=>exact ZKZ hv h1 g0 hw (fun r hr=>by rw[hq]at hr;cases hr)
  |some r=>
   simp only
   cases hf:ZIh s g r with
   |true=>simp only[if_true];exact ZL3 hv h1 g1 hq hf
   |false=>simp only[Bool.false_eq_true,if_false];exact ZKZ hv h1 g0 hw (fun r' hr=>by rw[hq]at hr;cases hr;exact hf)
 ·rw[if_neg h1]
  by_cases h2:s.ph=2
  ·rw[if_pos h2];exact⟨ZKC hv h2 hw,rfl⟩
  ·rw[if_neg h2]
   obtain⟨_,_,_,_,hl⟩:=Z7c (Z7E hv).2.2.2.2.2.2 h1
   exact⟨ZL4 hv (by rcases ZBT hl with e|e|e<;>first|exact absurd e h2|exact e|exact absurd e h4),rfl⟩
noncomputable def Z5c (s:List UInt8):List Rw:=(ZBg s).getD []
noncomputable def isR (s:List UInt8):Bool:=(ZBg s).isSome
theorem ZFs (s:List UInt8):pRs s=[.sl ((Z5c s).map Rw.e),.bool (isR s)]:=by
 unfold pRs Z5c isR
 cases ZBg s<;>rfl
theorem ZKD {s:List UInt8} (h:isR s=true):aok (Z5c s)=true∧Z6x (Z5c s)=s:=by
 unfold isR at h
 cases hp:ZBg s with
 |none=>rw[hp]at h;cases h
 |some l=>
  have:=ZA8.mp hp
  unfold Z5c
  rw[hp]
  exact this
theorem ZB7 {l:List Rw} (h:aok l=true):Z5c (Z6x l)=l∧isR (Z6x l)=true:=by
 have:=ZA8.mpr ⟨h,rfl⟩
 unfold Z5c isR
 rw[this]
 exact⟨rfl,rfl⟩
theorem Z7p (s:List UInt8):(Z5c s).length≤24:=by
 unfold Z5c
 cases hp:ZBg s with
 |none=>simp
 |some l=>exact Z6V (ZA8.mp hp).1
noncomputable def Z9I (s:List UInt8):List (List Rw):=if s=[]then[]else(Z6a 124 s).map Z5c
noncomputable def ZHV (s:List UInt8):Bool:=decide (s=[])||(Z6a 124 s).all isR
theorem ZH4 (s:List UInt8):szL List.length (Z9I s)≤25*(s.length+1):=by
 unfold Z9I
 split
 ·simp[szL]
 ·have h:=ZAY 124 s
  have key:∀l:List (List UInt8),szL List.length (l.map Z5c)≤25*l.length:=fun l=>by
   induction l with
   |nil=>simp[szL]
   |cons a l ih=>
    have:=Z7p a
    simp only[List.map_cons,szL,List.length_cons]
    omega
  have:=key (Z6a 124 s)
  omega
theorem ZKE {l:List (List Rw)} (h:∀r∈l,ZBS r=true):Z9I (Z73 l)=l∧ZHV (Z73 l)=true:=by
 have hr:∀r∈l,aok r=true∧r≠[]:=fun r hr=>by
  have:=h r hr
  simp only[ZBS,Bool.and_eq_true,decide_eq_true_eq]at this
  exact⟨this.2.2,fun e=>by rw[e]at this;simp at this⟩
 cases l with
 |nil=>
  have e:Z73 []=[]:=rfl
  rw[e]
  unfold Z9I ZHV
  exact⟨if_pos rfl,rfl⟩
 |cons a r=>
  have hne:Z73 (a::r)≠[]:=fun e=>by
   have h1:=hr a (by simp)
   have hf:Z6x a≠[]:=fun e2=>h1.2 (ZF2 (ZEh h1.1) (by rw[←Z9T h1.1];exact e2))
   cases r with
   |nil=>exact hf e
   |cons b r=>
    have:Z73 (a::b::r)=Z6x a++[124]++Z73 (b::r):=Z9D (by simp)
    rw[this]at e
    simp at e
  have hc:Z6a 124 (Z73 (a::r))=(a::r).map Z6x:=ZCF 124 _ (by simp) (fun x hx=>by
   obtain⟨q,_,rfl⟩:=List.mem_map.mp hx
   exact ZAq (by decide) (by decide) (by decide) (by decide) q)
  unfold Z9I ZHV
  rw[if_neg hne,hc]
  refine⟨?_,?_⟩
  ·rw[List.map_map]
   have:∀x∈a::r,(Z5c∘Z6x) x=id x:=fun x hx=>(ZB7 (hr x hx).1).1
   rw[List.map_congr_left this,List.map_id]
  ·rw[Bool.or_eq_true]
   refine .inr (List.all_eq_true.mpr fun x hx=>?_)
   obtain⟨q,hq,rfl⟩:=List.mem_map.mp hx
   exact(ZB7 (hr q hq).1).2
theorem ZIZ (s:List UInt8) (hs:s.length≤2097152):∃m:List (List Rw),callI tE Z95 [.str (S s)]=some [.sl (m.map rsE),.bool (ZHV s)]∧(ZHV s=true→m=Z9I s):=by
 rw[ZEE,ZCt]
 by_cases h0:s=[]
 ·subst h0
  refine⟨[],rfl,fun _=>?_⟩
  unfold Z9I;rw[if_pos rfl]
 ·have hc:=ZAY 124 s
  rw[decide_eq_false h0,cond_false,show((124:Int))=(((124:UInt8).toNat:Nat):Int)from rfl,ZLJ 124 s (by omega)]
  simp only[gA]
  have key:∀(v u:List (List UInt8)),Z6a 124 s=u++v→u.all isR=true→∃m:List (List Rw),Z8R (lenI ((Z6a 124 s).map StE)) (u.length:Nat) ((u.map Z5c).map rsE) ((Z6a 124 s).map StE)=some [.sl (m.map rsE),.bool (ZHV s)]∧(ZHV s=true→m=Z9I s):=by
   intro v
   induction v with
   |nil=>
    intro u hu ha
    rw[List.append_nil]at hu
    have hr:ZHV s=true:=by unfold ZHV;rw[hu,ha];simp
    refine⟨u.map Z5c,?_,fun _=>?_⟩
    ·rw[ZAB,Z5L,ltF (by rw[hu];omega),cond_false,hr]
    ·unfold Z9I;rw[if_neg h0,hu]
   |cons x v ih=>
    intro u hu ha
    have hx:x.length≤2097152:=Nat.le_trans (Z7S (show x∈Z6a 124 s by rw[hu];simp)) hs
    have hul:u.length<(Z6a 124 s).length:=by rw[hu];simp
    have hat:at' ((Z6a 124 s).map StE) u.length=StE x:=ZDs hu rfl
    rw[ZAB,Z5L,ltT (by omega),cond_true,ZDl (by omega) (by omega),cond_true]
    simp only[Z86,hat,StE,gA,ZDR x (by omega),ZFs]
    cases hr:isR x with
    |false=>
     have har:ZHV s=false:=by
      unfold ZHV
      rw[decide_eq_false h0,hu]
      simp[hr]
     exact⟨[],by rw[har];rfl,fun e=>by rw[har]at e;cases e⟩
    |true=>
     have ih2:=ih (u++[x]) (by rw[hu];simp) (by simp[ha,hr])
     rw[Bool.not_true,cond_false,Z5b,List.length_map,show fitM (Nat.succ u.length) 24=true from Z97 (by omega),cond_true,ZDu,Z7n (by omega)]
     rw[List.length_append,List.length_singleton,List.map_append,List.map_cons,List.map_nil,Z5L]at ih2
     exact ih2
  exact key (Z6a 124 s) [] rfl rfl
def SoP (s:So):Prop:=Z9s s=true∧s.wr<1000000000
theorem ZLk {s:So} (h:SoP s):s.pos.natAbs<1000000000∧s.lp.natAbs<1000000000∧s.rp.natAbs<1000000000∧s.ph.natAbs<1000000000∧s.wr.natAbs<1000000000:=by
 obtain⟨hv,hw⟩:=h
 obtain⟨h1,h2,h3,h4,h5,h6,h7⟩:=Z7E hv
 have hl:=Z6V h1
 by_cases p1:s.ph=1
 ·obtain⟨q1,q2,_⟩:=ZB5 h7 p1
  omega
 ·obtain⟨q1,q2,q3,q4,q5⟩:=Z7c h7 p1
  rcases ZBT q5 with p|p|p
  ·obtain⟨a,b,r,e1,e2,e3,_⟩:=ZCH q5 p
   have hlen:=q4.length_eq
   rw[e1]at hlen
   simp only[List.flatten_cons,List.length_append]at hlen
   omega
  ·obtain⟨e1,e2,e3,_⟩:=ZB6 q5 p
   omega
  ·obtain⟨e1,e2,e3,_⟩:=ZDB q5 p
   omega
theorem ZIa (s:So):∀x∈ZHQ s,(47:UInt8)∉x:=fun x hx=>by
 have hR:∀l,(47:UInt8)∉Z6x l:=fun l=>ZAq (by decide) (by decide) (by decide) (by decide) l
 have hN:∀n,(47:UInt8)∉fmt n:=fun n=>Z8x (by decide) (by decide) n
 have hU:=ZDA (b:=47) (by decide) (by decide) (by decide) (by decide) (by decide) s.runs
 simp only[ZHQ,List.mem_cons,List.not_mem_nil,or_false]at hx
 rcases hx with rfl|rfl|rfl|rfl|rfl|rfl|rfl|rfl|rfl|rfl
 ·exact hR _
 ·exact hN _
 ·exact hR _
 ·exact hR _
 ·exact hR _
 ·exact hU
 ·exact hN _
 ·exact hN _
 ·exact hN _
 ·exact hN _
theorem ZBW (s:So):Z6a 47 (ZBl s)=ZHQ s:=ZCF 47 _ (by simp[ZHQ]) (ZIa s)
noncomputable def ZFt (w:List (List UInt8)):So:=⟨Z5c (w.getD 0 []),num (w.getD 1 []),Z5c (w.getD 2 []),Z5c (w.getD 3 []),Z5c (w.getD 4 []),Z9I (w.getD 5 []),num (w.getD 6 []),num (w.getD 7 []),num (w.getD 8 []),num (w.getD 9 [])⟩
noncomputable def ZL6 (w:List (List UInt8)):Bool:=isR (w.getD 0 [])&&(isN (w.getD 1 [])&&(isR (w.getD 2 [])&&(isR (w.getD 3 [])&&(isR (w.getD 4 [])&&(ZHV (w.getD 5 [])&&(isN (w.getD 6 [])&&(isN (w.getD 7 [])&&(isN (w.getD 8 [])&&isN (w.getD 9 [])))))))))
theorem ZFK {s:So} (h:SoP s):ZFt (ZHQ s)=s∧ZL6 (ZHQ s)=true:=by
 obtain⟨h1,h2,h3,h4,h5,h6,h7⟩:=Z7E h.1
 obtain⟨r1,r2,r3⟩:=ZDe h.1
 obtain⟨n1,n2,n3,n4,n5⟩:=ZLk h
 have e0:=ZB7 h1
 have e1:=ZAI n1
 have e2:=ZB7 r1
 have e3:=ZB7 r2
 have e4:=ZB7 r3
 have e5:=ZKE h3
 have e6:=ZAI n2
 have e7:=ZAI n3
 have e8:=ZAI n4
 have e9:=ZAI n5
 refine⟨?_,?_⟩
 ·show(⟨Z5c (Z6x s.inp),num (fmt s.pos),Z5c (Z6x s.heap),Z5c (Z6x s.dfd),Z5c (Z6x s.out),Z9I (Z73 s.runs),num (fmt s.lp),num (fmt s.rp),num (fmt s.ph),num (fmt s.wr)⟩:So)=s
  rw[e0.1,e1.1,e2.1,e3.1,e4.1,e5.1,e6.1,e7.1,e8.1,e9.1]
 ·show(isR (Z6x s.inp)&&(isN (fmt s.pos)&&(isR (Z6x s.heap)&&(isR (Z6x s.dfd)&&(isR (Z6x s.out)&&(ZHV (Z73 s.runs)&&(isN (fmt s.lp)&&(isN (fmt s.rp)&&(isN (fmt s.ph)&&isN (fmt s.wr))))))))))=true
  rw[e0.2,e1.2,e2.2,e3.2,e4.2,e5.2,e6.2,e7.2,e8.2,e9.2]
  rfl
theorem ZJa (a b:So) (ha:SoP a) (hb:SoP b) (h:ZBl a=ZBl b):a=b:=by
 have e:=ZBW a
 rw[h,ZBW b]at e
 rw[←(ZFK ha).1,←(ZFK hb).1,e]
noncomputable def ZAM (s:List UInt8):Option So:=unf SoP ZBl s
theorem ZAE {s:List UInt8} {x:So}:ZAM s=some x↔SoP x∧ZBl x=s:=ZEK ZJa
theorem ZC9 {s:List UInt8}:ZAM s=none↔∀x:So,SoP x→ZBl x≠s:=ZEL
def soZ:So:=⟨[],0,[],[],[],[],0,0,0,0⟩
def SoR (x:So) (b:Bool):List Dat:=[.sl (x.inp.map Rw.e),.int x.pos,.sl (x.heap.map Rw.e),.sl (x.dfd.map Rw.e),.sl (x.out.map Rw.e),.sl (x.runs.map rsE),.int x.lp,.int x.rp,.int x.ph,.int x.wr,.bool b]
noncomputable def pSo (s:List UInt8):List Dat:=match ZAM s with
 |some x=>SoR x true
 |none=>SoR soZ false
theorem ZKa {α:Type} {l:List α} (h:l.length=10):∃a b c d e f g i j k,l=[a,b,c,d,e,f,g,i,j,k]:=by
 match l,h with
 |[a,b,c,d,e,f,g,i,j,k],_=>exact⟨a,b,c,d,e,f,g,i,j,k,rfl⟩
theorem ZJb {s:List UInt8} (h:(Z6a 47 s).length≠10):pSo s=SoR soZ false:=by
 unfold pSo
 rw[ZC9.mpr fun x _ hx=>h (by rw[←hx,ZBW];rfl)]
theorem ZJc (s:List UInt8) (hs:s.length≤2097152):(ZFt (Z6a 47 s)).B2:=by
 have g:∀i,((Z6a 47 s).getD i []).length≤2097152:=fun i=>by
  by_cases hi:i<(Z6a 47 s).length
  ·have:(Z6a 47 s).getD i []∈Z6a 47 s:=by
    rw[List.getD_eq_getElem?_getD,List.getElem?_eq_getElem hi]
    exact List.getElem_mem hi
   exact Nat.le_trans (Z7S this) hs
  ·rw[List.getD_eq_getElem?_getD,List.getElem?_eq_none (by omega)]
   simp
 have a0:=Z7p ((Z6a 47 s).getD 0 [])
 have a2:=Z7p ((Z6a 47 s).getD 2 [])
 have a3:=Z7p ((Z6a 47 s).getD 3 [])
 have a4:=Z7p ((Z6a 47 s).getD 4 [])
 have a5:=ZH4 ((Z6a 47 s).getD 5 [])
 have g5:=g 5
 simp only[So.B2,So.sz,ZFt]
 omega
theorem ZHW (w:List (List UInt8)):(ZFt w).nb:=⟨ZEy _,ZEy _,ZEy _,ZEy _,ZEy _⟩
theorem ZHX (w:List (List UInt8)):(ZFt w).wr<1000000000:=by
 have:(num (w.getD 9 [])).natAbs<1000000000:=ZKO _
 show num (w.getD 9 [])<1000000000
 omega
theorem ZM8 (s:List UInt8):(bif ZL6 (Z6a 47 s)&&(Z9s (ZFt (Z6a 47 s))&&decide (ZBt (ZFt (Z6a 47 s))=s))then SoR (ZFt (Z6a 47 s)) true else SoR soZ false)=pSo s:=by
 unfold pSo
 cases hp:ZAM s with
 |some x=>
  obtain⟨h1,h2⟩:=ZAE.mp hp
  have hc:Z6a 47 s=ZHQ x:=by rw[←h2];exact ZBW x
  obtain⟨e1,e2⟩:=ZFK h1
  rw[hc,e1,e2,h1.1]
  have:ZBt x=s:=by unfold ZBt;rw[if_pos h1.1];exact h2
  rw[this]
  simp
 |none=>
  have hn:=ZC9.mp hp
  by_cases hv:Z9s (ZFt (Z6a 47 s))=true
  ·have hP:SoP (ZFt (Z6a 47 s)):=⟨hv,ZHX _⟩
   have:¬ZBt (ZFt (Z6a 47 s))=s:=fun e=>hn _ hP (by unfold ZBt at e;rw[if_pos hv]at e;exact e)
   rw[decide_eq_false this]
   simp
  ·rw[(Bool.not_eq_true _).mp hv]
   simp
theorem ZM9 (s:List UInt8) (h10:(Z6a 47 s).length=10):(bif !decide (ZBt (ZFt (Z6a 47 s))=s)then SoR soZ false else SoR (ZFt (Z6a 47 s)) true)=pSo s:=by
 unfold pSo
 cases hp:ZAM s with
 |some x=>
  obtain⟨h1,h2⟩:=ZAE.mp hp
  have hc:Z6a 47 s=ZHQ x:=by rw[←h2];exact ZBW x
  obtain⟨e1,e2⟩:=ZFK h1
  rw[hc,e1]
  have:ZBt x=s:=by unfold ZBt;rw[if_pos h1.1];exact h2
  rw[this]
  simp
 |none=>
  have hn:=ZC9.mp hp
  have:¬ZBt (ZFt (Z6a 47 s))=s:=fun e=>by
   unfold ZBt at e
   by_cases hv:Z9s (ZFt (Z6a 47 s))=true
   ·rw[if_pos hv]at e
    exact hn _ ⟨hv,ZHX _⟩ e
   ·rw[if_neg hv]at e
    rw[←e]at h10
    simp[Z6a,ZAX]at h10
  rw[decide_eq_false this]
  rfl
theorem ZMQ (l:List (List UInt8)):eqI (lenI (l.map StE)) 10=decide (l.length=10):=ZEz StE l 10
theorem ZIA (a:Bool) (x:List UInt8) (hx:x.length≤2097152):callI tE Z6Y [.bool a,.str (S x)]=some [.sl ((Z5c x).map Rw.e),.bool (a&&isR x)]:=by
 rw[ZCN,ZDR x (by omega),ZFs]
 cases a<;>rfl
theorem ZJd (a:Bool) (x:List UInt8) (hx:x.length≤2097152):callI tE Z6D [.bool a,.str (S x)]=some [.int (num x),.bool (a&&isN x)]:=by
 rw[ZCO,ZC2 x (by omega),ZIO]
 cases a<;>rfl
theorem ZMR {m:Rows} {k n:Nat} (h:m.length=n) (hk:k<n):inR (k:Int) (lenI m)=true:=ZDl (by omega) (by show(k:Int)<(m.length:Int);omega)
theorem ZKF (s:List UInt8) (hs:s.length≤2097152):callI tE Z9N [.str (S s)]=some (pSo s):=by
 have hc:=ZAY 47 s
 have hsub:∀x∈Z6a 47 s,x.length≤2097152:=fun x hx=>Nat.le_trans (Z7S hx) hs
 have hsz:=ZJc s hs
 have hnb:=ZHW (Z6a 47 s)
 have hi:=ZM8 s
 rw[ZD6,show((47:Int))=(((47:UInt8).toNat:Nat):Int)from rfl,ZLJ 47 s (by omega)]
 simp only[gA,ZMQ]
 by_cases h10:(Z6a 47 s).length=10
 ·rw[decide_eq_true h10,Bool.not_true,cond_false]
  obtain⟨a,b,c,d,e,f,g,i,j,k,hw⟩:=ZKa h10
  rw[hw]at hsub hsz hnb hi⊢
  have q0:∀n:Nat,n<10→inR (n:Int) (lenI ([a,b,c,d,e,f,g,i,j,k].map StE))=true:=fun n hn=>ZMR (n:=10) rfl hn
  have i0:=q0 0 (by omega)
  have i1:=q0 1 (by omega)
  have i2:=q0 2 (by omega)
  have i3:=q0 3 (by omega)
  have i4:=q0 4 (by omega)
  have i5:=q0 5 (by omega)
  have i6:=q0 6 (by omega)
  have i7:=q0 7 (by omega)
  have i8:=q0 8 (by omega)
  have i9:=q0 9 (by omega)
  simp only[Int.natCast_zero,Int.natCast_one,Int.cast_ofNat_Int]at i0 i1 i2 i3 i4 i5 i6 i7 i8 i9
  have g0:at' ([a,b,c,d,e,f,g,i,j,k].map StE) (tn 0)=[.str (S a)]:=rfl
  have g1:at' ([a,b,c,d,e,f,g,i,j,k].map StE) (tn 1)=[.str (S b)]:=rfl
  have g2:at' ([a,b,c,d,e,f,g,i,j,k].map StE) (tn 2)=[.str (S c)]:=rfl
  have g3:at' ([a,b,c,d,e,f,g,i,j,k].map StE) (tn 3)=[.str (S d)]:=rfl
  have g4:at' ([a,b,c,d,e,f,g,i,j,k].map StE) (tn 4)=[.str (S e)]:=rfl
  have g5:at' ([a,b,c,d,e,f,g,i,j,k].map StE) (tn 5)=[.str (S f)]:=rfl
  have g6:at' ([a,b,c,d,e,f,g,i,j,k].map StE) (tn 6)=[.str (S g)]:=rfl
  have g7:at' ([a,b,c,d,e,f,g,i,j,k].map StE) (tn 7)=[.str (S i)]:=rfl
  have g8:at' ([a,b,c,d,e,f,g,i,j,k].map StE) (tn 8)=[.str (S j)]:=rfl
  have g9:at' ([a,b,c,d,e,f,g,i,j,k].map StE) (tn 9)=[.str (S k)]:=rfl
  obtain⟨m,m1,m2⟩:=ZIZ f (hsub f (by simp))
  simp only[i0,i1,i2,i3,i4,i5,i6,i7,i8,i9,cond_true,g0,g1,g2,g3,g4,g5,g6,g7,g8,g9,gA,ZIA _ a (hsub a (by simp)),ZJd _ b (hsub b (by simp)),ZIA _ c (hsub c (by simp)),ZIA _ d (hsub d (by simp)),ZIA _ e (hsub e (by simp)),m1,ZJd _ g (hsub g (by simp)),ZJd _ i (hsub i (by simp)),ZJd _ j (hsub j (by simp)),ZJd _ k (hsub k (by simp)),Bool.true_and]
  have hso:ZFt [a,b,c,d,e,f,g,i,j,k]=⟨Z5c a,num b,Z5c c,Z5c d,Z5c e,Z9I f,num g,num i,num j,num k⟩:=rfl
  have hal:ZL6 [a,b,c,d,e,f,g,i,j,k]=(isR a&&(isN b&&(isR c&&(isR d&&(isR e&&(ZHV f&&(isN g&&(isN i&&(isN j&&isN k))))))))):=rfl
  rw[hso]at hsz hnb hi
  rw[hal]at hi
  rw[←hi]
  cases hf:ZHV f with
  |false=>
   simp only[Bool.false_and,Bool.and_false,cond_false]
   cases isR a&&isN b&&isR c&&isR d&&isR e&&isN g&&isN i&&isN j&&isN k<;>rfl
  |true=>
   rw[m2 hf]
   have hx:(isR a&&isN b&&isR c&&isR d&&isR e&&isN g&&isN i&&isN j&&isN k)=(isR a&&(isN b&&(isR c&&(isR d&&(isR e&&(true&&(isN g&&(isN i&&(isN j&&isN k))))))))):=by simp only[Bool.true_and,Bool.and_assoc]
   rw[hx]
   generalize(isR a&&(isN b&&(isR c&&(isR d&&(isR e&&(true&&(isN g&&(isN i&&(isN j&&isN k)))))))))=B
   cases B
   ·rfl
   ·have v1:=ZD9 _ hsz
    have v2:=ZGz _ hsz hnb
    simp only at v1 v2
    simp only[Bool.not_true,cond_false,v1,v2,gA,ZCt,Bool.true_and]
    cases Z9s ⟨Z5c a,num b,Z5c c,Z5c d,Z5c e,Z9I f,num g,num i,num j,num k⟩
    ·rfl
    ·simp only[Bool.not_true,cond_false,Bool.true_and]
     cases decide (ZBt ⟨Z5c a,num b,Z5c c,Z5c d,Z5c e,Z9I f,num g,num i,num j,num k⟩=s)<;>rfl
 ·rw[decide_eq_false h10,ZJb h10];rfl
theorem ZIb (s:List UInt8) (hs:s.length≤2097152) (f:List UInt8) (hf:f.length≤2097152) (w:List (List UInt8)) (hw:w.length=10) (h5:w.getD 5 []=f) (K:Rows→Option (List Dat)) {x0:ByteArray} {x1 x2 x4 x5 x6 x7 x8 x10 x11 x12 x13 x14:Int} {x16 x17 x18 x19 x20 x21 x22 x23 x24:Rows}
  (hK:∀(i:Int) (m:Rows),ltI i (lenI ((Z6a 124 f).map StE))=false∨f=[]→inR 5 (lenI (w.map StE))=true→Z5m x0 x1 x2 i x4 x5 x6 x7 x8 (w.map StE) x10 x11 x12 x13 x14 ((Z6a 124 f).map StE) x16 x17 x18 x19 x20 x21 x22 x23 x24 m=K m):
  Z5m x0 x1 x2 0 x4 x5 x6 x7 x8 (w.map StE) x10 x11 x12 x13 x14 ((Z6a 124 f).map StE) x16 x17 x18 x19 x20 x21 x22 x23 x24 []=K ((Z9I f).map rsE):=by
 have hc:=ZAY 124 f
 have i5:inR 5 (lenI (w.map StE))=true:=ZDl (by omega) (by rw[Z5L];omega)
 by_cases h0:f=[]
 ·rw[hK 0 [] (.inr h0) i5]
  unfold Z9I
  rw[if_pos h0];rfl
 ·have a5:at' (w.map StE) (tn 5)=StE f:=by
   obtain⟨u,z,v,hu,hul⟩:=ZD8 (show 5<w.length by omega)
   rw[hu,←hul,ZLa]at h5
   subst h5
   exact ZDs hu hul
  have:=Z6d (l:=Z6a 124 f) (L:=fun(t:List (List Rw)) i=>Z5m x0 x1 x2 i x4 x5 x6 x7 x8 (w.map StE) x10 x11 x12 x13 x14 ((Z6a 124 f).map StE) x16 x17 x18 x19 x20 x21 x22 x23 x24 (t.map rsE)) (F:=fun _ _=>K ((Z9I f).map rsE)) (I:=fun t u _=>t=u.map Z5c) (by omega) (fun u x v t e hI=>by
   have hx:x.length≤2097152:=Nat.le_trans (Z7S (show x∈Z6a 124 f by rw[e];simp)) hf
   have hul:u.length<(Z6a 124 f).length:=by rw[e];simp
   have hat:at' ((Z6a 124 f).map StE) u.length=StE x:=ZDs e rfl
   refine .inl ⟨(u++[x]).map Z5c,?_,rfl,rfl⟩
   show Z5m _ _ _ _ _ _ _ _ _ _ _ _ _ _ _ _ _ _ _ _ _ _ _ _ _ _=Z5m _ _ _ _ _ _ _ _ _ _ _ _ _ _ _ _ _ _ _ _ _ _ _ _ _ _
   rw[Z9W,show ltI (u.length:Int) (lenI ((Z6a 124 f).map StE))=true by rw[Z5L];exact ltT (by omega),cond_true,i5,cond_true,a5,ZBq hul]
   have hne:eqS (S f) (S [])=false:=by rw[ZCt,decide_eq_false h0]
   have z0:(S f==S [])=(S f==S []):=rfl
   simp only[StE,gA,hne,Bool.not_false,cond_true,Z86,hat,ZDS x (show x.length<1073741824 by omega),ZFs,hI,Z5b,List.length_map]
   rw[show fitM (Nat.succ u.length) 24=true from Z97 (by omega),cond_true,ZDu]
   simp) (fun t ht=>by
   show Z5m _ _ _ _ _ _ _ _ _ _ _ _ _ _ _ _ _ _ _ _ _ _ _ _ _ _=_
   rw[hK _ _ (.inl (ZEd _)) i5,ht]
   unfold Z9I
   rw[if_neg h0]) [] rfl
  exact this
theorem ZKG (s:List UInt8) (hs:s.length≤2097152):callI tE Z8N [.str (S s)]=some (pSo s):=by
 have hc:=ZAY 47 s
 have hsub:∀x∈Z6a 47 s,x.length≤2097152:=fun x hx=>Nat.le_trans (Z7S hx) hs
 have hsz:=ZJc s hs
 have hnb:=ZHW (Z6a 47 s)
 rw[ZD7,show((47:Int))=(((47:UInt8).toNat:Nat):Int)from rfl,ZLK 47 s (by omega)]
 simp only[gA,ZMQ]
 by_cases h10:(Z6a 47 s).length=10
 ·have hi:=ZM9 s h10
  rw[decide_eq_true h10,Bool.not_true,cond_false]
  obtain⟨a,b,c,d,e,f,g,i,j,k,hw⟩:=ZKa h10
  rw[hw]at hsub hsz hnb hi⊢
  have q0:∀n:Nat,n<10→inR (n:Int) (lenI ([a,b,c,d,e,f,g,i,j,k].map StE))=true:=fun n hn=>ZMR (n:=10) rfl hn
  have i0:=q0 0 (by omega)
  have i1:=q0 1 (by omega)
  have i2:=q0 2 (by omega)
  have i3:=q0 3 (by omega)
  have i4:=q0 4 (by omega)
  have i5:=q0 5 (by omega)
  have i6:=q0 6 (by omega)
  have i7:=q0 7 (by omega)
  have i8:=q0 8 (by omega)
  have i9:=q0 9 (by omega)
  simp only[Int.natCast_zero,Int.natCast_one,Int.cast_ofNat_Int]at i0 i1 i2 i3 i4 i5 i6 i7 i8 i9
  have g0:at' ([a,b,c,d,e,f,g,i,j,k].map StE) (tn 0)=[.str (S a)]:=rfl
  have g1:at' ([a,b,c,d,e,f,g,i,j,k].map StE) (tn 1)=[.str (S b)]:=rfl
  have g2:at' ([a,b,c,d,e,f,g,i,j,k].map StE) (tn 2)=[.str (S c)]:=rfl
  have g3:at' ([a,b,c,d,e,f,g,i,j,k].map StE) (tn 3)=[.str (S d)]:=rfl
  have g4:at' ([a,b,c,d,e,f,g,i,j,k].map StE) (tn 4)=[.str (S e)]:=rfl
  have g5:at' ([a,b,c,d,e,f,g,i,j,k].map StE) (tn 5)=[.str (S f)]:=rfl
  have g6:at' ([a,b,c,d,e,f,g,i,j,k].map StE) (tn 6)=[.str (S g)]:=rfl
  have g7:at' ([a,b,c,d,e,f,g,i,j,k].map StE) (tn 7)=[.str (S i)]:=rfl
  have g8:at' ([a,b,c,d,e,f,g,i,j,k].map StE) (tn 8)=[.str (S j)]:=rfl
  have g9:at' ([a,b,c,d,e,f,g,i,j,k].map StE) (tn 9)=[.str (S k)]:=rfl
  have pr:∀x∈[a,b,c,d,e,f,g,i,j,k],callI tE Z65 [.str (S x)]=some [.sl ((Z5c x).map Rw.e),.bool (isR x)]:=fun x hx=>by
   have:=hsub x hx
   rw[ZDS x (by omega),ZFs]
  have pn:∀x∈[a,b,c,d,e,f,g,i,j,k],callI tE Z5W [.str (S x)]=some [.int (num x),.bool (isN x)]:=fun x hx=>by
   have:=hsub x hx
   rw[ZC3 x (by omega),ZIO]
  have hcf:callI tE Z7N [.str (S f),.int 124]=some [.sl ((Z6a 124 f).map StE)]:=by
   have:=hsub f (by simp)
   exact ZLK 124 f (by omega)
  simp only[i0,i1,i2,i3,i4,i5,cond_true,g0,g1,g2,g3,g4,g5,gA,pr a (by simp),pn b (by simp),pr c (by simp),pr d (by simp),pr e (by simp),hcf]
  have hso:ZFt [a,b,c,d,e,f,g,i,j,k]=⟨Z5c a,num b,Z5c c,Z5c d,Z5c e,Z9I f,num g,num i,num j,num k⟩:=rfl
  rw[hso]at hsz hnb hi
  have v2:=ZH0 _ hsz hnb
  simp only at v2
  refine(ZIb s hs f (hsub f (by simp)) [a,b,c,d,e,f,g,i,j,k] rfl rfl (fun M=>(callI tE Z6g [.sl ((Z5c a).map Rw.e),.int (num b),.sl ((Z5c c).map Rw.e),.sl ((Z5c d).map Rw.e),.sl ((Z5c e).map Rw.e),.sl M,.int (num g),.int (num i),.int (num j),.int (num k)]).bind fun r4=>bif !(eqS (gs r4) (S s))then some (SoR soZ false)else some [.sl ((Z5c a).map Rw.e),.int (num b),.sl ((Z5c c).map Rw.e),.sl ((Z5c d).map Rw.e),.sl ((Z5c e).map Rw.e),.sl M,.int (num g),.int (num i),.int (num j),.int (num k),.bool true]) (fun ii M hend hin=>?_)).trans ?_
  ·rw[Z9W]
   rcases hend with hend|hend
   ·rw[hend,cond_false]
    simp only[i6,i7,i8,i9,cond_true,g6,g7,g8,g9,gA,pn g (by simp),pn i (by simp),pn j (by simp),pn k (by simp)]
    rfl
   ·have hne:eqS (S f) (S [])=true:=by rw[ZCt,decide_eq_true hend]
    simp only[hin,g5,hne,Bool.not_true,cond_false,i6,i7,i8,i9,cond_true,g6,g7,g8,g9,gA,pn g (by simp),pn i (by simp),pn j (by simp),pn k (by simp)]
    cases ltI ii (lenI ((Z6a 124 f).map StE))<;>rfl
  ·simp only[v2,gA,ZCt]
   rw[←hi]
   cases decide (ZBt ⟨Z5c a,num b,Z5c c,Z5c d,Z5c e,Z9I f,num g,num i,num j,num k⟩=s)<;>rfl
 ·rw[decide_eq_false h10,ZJb h10];rfl
def ZDC (c:Ck):List UInt8:=Z85 [33] [ZBl c.so,Z6x c.em]
def Z8C (c:Ck):List UInt8:=if ZGJ c then ZDC c else[]
theorem ZDD (c:Ck):ZDC c=ZBl c.so++[33]++Z6x c.em:=by simp[ZDC,Z85]
theorem ZDw {c:Ck} (h:ZGJ c=true):Z9s c.so=true∧aok c.em=true∧w64 ((c.em.length:Int)+ZIV c.so)=c.so.inp.length∧c.em=(Z9J c.so.inp).take c.em.length:=by
 simp only[ZGJ,Bool.and_eq_true,decide_eq_true_eq]at h
 exact h
theorem ZH5 (c:Ck) (h:c.B2) (hb:c.so.nb):callI tE Z70 [.sl (c.so.inp.map Rw.e),.int c.so.pos,.sl (c.so.heap.map Rw.e),.sl (c.so.dfd.map Rw.e),.sl (c.so.out.map Rw.e),.sl (c.so.runs.map rsE),.int c.so.lp,.int c.so.rp,.int c.so.ph,.int c.so.wr,.sl (c.em.map Rw.e)]=some [.str (S (Z8C c))]:=by
 have hso:c.so.B2:=by simp only[Ck.B2,Ck.sz,So.B2]at*;omega
 have hl:=ZGy c.so hb hso.b.p.2.2.2.2
 have hm:=Z6L c.em
 rw[ZBh,ZI3 c h]
 simp only[gA]
 unfold Z8C
 by_cases hv:ZGJ c=true
 ·have hs:=(ZDw hv).1
  have ht:ZBt c.so=ZBl c.so:=if_pos hs
  rw[hv,if_pos rfl,Bool.not_true,cond_false]
  simp only[ZGz c.so hso hb,ZCb,gA,ht]
  rw[Z5n (by simp;omega),Z6c,cond_true,Z5n (by simp;omega),Z6c,cond_true,ZDD]
 ·rw[if_neg hv,(Bool.not_eq_true _).mp hv];rfl
theorem ZFL (c:Ck) (h:c.B2) (hb:c.so.nb):callI tE Z6U [.sl (c.so.inp.map Rw.e),.int c.so.pos,.sl (c.so.heap.map Rw.e),.sl (c.so.dfd.map Rw.e),.sl (c.so.out.map Rw.e),.sl (c.so.runs.map rsE),.int c.so.lp,.int c.so.rp,.int c.so.ph,.int c.so.wr,.sl (c.em.map Rw.e)]=some [.str (S (Z8C c))]:=by
 have hso:c.so.B2:=by simp only[Ck.B2,Ck.sz,So.B2]at*;omega
 have hem:c.em.length≤1073741824:=by simp only[Ck.B2,Ck.sz]at h;omega
 have hl:=ZGy c.so hb hso.b.p.2.2.2.2
 have hm:=Z6L c.em
 rw[ZBi,ZK7 c h]
 simp only[gA]
 unfold Z8C
 by_cases hv:ZGJ c=true
 ·have hs:=(ZDw hv).1
  have ht:ZBt c.so=ZBl c.so:=if_pos hs
  rw[hv,if_pos rfl,Bool.not_true,cond_false]
  simp only[ZH0 c.so hso hb,Z9p c.em (show c.em.length<1099511627776 by omega),gA,ht]
  rw[Z5n (by simp;omega),Z6c,cond_true,Z5n (by simp;omega),Z6c,cond_true,ZDD]
 ·rw[if_neg hv,(Bool.not_eq_true _).mp hv];rfl
noncomputable def ZAu (s:List UInt8):So:=(ZAM s).getD soZ
noncomputable def ZKb (s:List UInt8):Bool:=(ZAM s).isSome
theorem ZKc (s:List UInt8):pSo s=SoR (ZAu s) (ZKb s):=by
 unfold pSo ZAu ZKb
 cases ZAM s<;>rfl
theorem ZFu {s:List UInt8} {x:So} (h:ZAM s=some x):x=ZFt (Z6a 47 s):=by
 obtain⟨h1,h2⟩:=ZAE.mp h
 rw[←h2,ZBW]
 exact(ZFK h1).1.symm
theorem ZIB (s:List UInt8) (hs:s.length≤2097152):(ZFt (Z6a 47 s)).sz≤100000000:=by
 have g:∀i,((Z6a 47 s).getD i []).length≤2097152:=fun i=>by
  by_cases hi:i<(Z6a 47 s).length
  ·have:(Z6a 47 s).getD i []∈Z6a 47 s:=by
    rw[List.getD_eq_getElem?_getD,List.getElem?_eq_getElem hi]
    exact List.getElem_mem hi
   exact Nat.le_trans (Z7S this) hs
  ·rw[List.getD_eq_getElem?_getD,List.getElem?_eq_none (by omega)]
   simp
 have a0:=Z7p ((Z6a 47 s).getD 0 [])
 have a2:=Z7p ((Z6a 47 s).getD 2 [])
 have a3:=Z7p ((Z6a 47 s).getD 3 [])
 have a4:=Z7p ((Z6a 47 s).getD 4 [])
 have a5:=ZH4 ((Z6a 47 s).getD 5 [])
 have g5:=g 5
 simp only[So.sz,ZFt]
 omega
theorem ZHY (s:List UInt8) (hs:s.length≤2097152):(ZAu s).sz≤100000000∧(ZAu s).nb∧(ZAu s).wr<1000000000:=by
 unfold ZAu
 cases hp:ZAM s with
 |none=>
  have z:I64 0:=⟨by decide,by decide⟩
  exact⟨by decide,⟨z,z,z,z,z⟩,by decide⟩
 |some x=>
  have:=ZFu hp
  subst this
  exact⟨ZIB s hs,ZHW _,ZHX _⟩
def CkP (c:Ck):Prop:=ZGJ c=true∧c.so.wr<1000000000
theorem ZGQ (s:So):(33:UInt8)∉ZBl s:=ZBk (by decide) _ (fun x hx=>by
 have hR:∀l,(33:UInt8)∉Z6x l:=fun l=>ZAq (by decide) (by decide) (by decide) (by decide) l
 have hN:∀n,(33:UInt8)∉fmt n:=fun n=>Z8x (by decide) (by decide) n
 have hU:=ZDA (b:=33) (by decide) (by decide) (by decide) (by decide) (by decide) s.runs
 simp only[ZHQ,List.mem_cons,List.not_mem_nil,or_false]at hx
 rcases hx with rfl|rfl|rfl|rfl|rfl|rfl|rfl|rfl|rfl|rfl
 ·exact hR _
 ·exact hN _
 ·exact hR _
 ·exact hR _
 ·exact hR _
 ·exact hU
 ·exact hN _
 ·exact hN _
 ·exact hN _
 ·exact hN _)
theorem ZDE (c:Ck):Z6a 33 (ZDC c)=[ZBl c.so,Z6x c.em]:=ZCF 33 _ (by simp) (fun x hx=>by
 simp only[List.mem_cons,List.not_mem_nil,or_false]at hx
 rcases hx with rfl|rfl
 ·exact ZGQ _
 ·exact ZAq (by decide) (by decide) (by decide) (by decide) _)
theorem ZCI {c:Ck} (h:CkP c):ZAM (ZBl c.so)=some c.so∧Z5c (Z6x c.em)=c.em∧isR (Z6x c.em)=true:=by
 obtain⟨h1,h2⟩:=h
 obtain⟨q1,q2,_⟩:=ZDw h1
 exact⟨ZAE.mpr ⟨⟨q1,h2⟩,rfl⟩,(ZB7 q2).1,(ZB7 q2).2⟩
theorem ZJe (a b:Ck) (ha:CkP a) (hb:CkP b) (h:ZDC a=ZDC b):a=b:=by
 have e:=ZDE a
 rw[h,ZDE b]at e
 simp only[List.cons.injEq,and_true]at e
 obtain⟨a1,a2,_⟩:=ZCI ha
 obtain⟨b1,b2,_⟩:=ZCI hb
 rw[←e.1,b1]at a1
 rw[←e.2,b2]at a2
 cases a;cases b
 simp only at a1 a2
 cases a1;cases a2;rfl
noncomputable def Z9u (s:List UInt8):Option Ck:=unf CkP ZDC s
theorem ZB8 {s:List UInt8} {x:Ck}:Z9u s=some x↔CkP x∧ZDC x=s:=ZEK ZJe
theorem ZCA {s:List UInt8}:Z9u s=none↔∀x:Ck,CkP x→ZDC x≠s:=ZEL
def ckZ:Ck:=⟨soZ,[]⟩
def CkR (x:Ck) (b:Bool):List Dat:=[.sl (x.so.inp.map Rw.e),.int x.so.pos,.sl (x.so.heap.map Rw.e),.sl (x.so.dfd.map Rw.e),.sl (x.so.out.map Rw.e),.sl (x.so.runs.map rsE),.int x.so.lp,.int x.so.rp,.int x.so.ph,.int x.so.wr,.sl (x.em.map Rw.e),.bool b]
noncomputable def ZCB (s:List UInt8):Ck:=(Z9u s).getD ckZ
noncomputable def ZIi (s:List UInt8):Bool:=(Z9u s).isSome
noncomputable def pCk (s:List UInt8):List Dat:=CkR (ZCB s) (ZIi s)
theorem ZHZ {s:List UInt8} (h:Z9u s=none):pCk s=CkR ckZ false:=by
 unfold pCk ZCB ZIi
 rw[h];rfl
theorem ZIC {s:List UInt8} {c:Ck} (h:Z9u s=some c):pCk s=CkR c true:=by
 unfold pCk ZCB ZIi
 rw[h];rfl
theorem ZKd {s:List UInt8} (h:(Z6a 33 s).length≠2):pCk s=CkR ckZ false:=
 ZHZ (ZCA.mpr fun x _ hx=>h (by rw[←hx,ZDE];rfl))
theorem ZID (s:List UInt8) (hs:s.length≤2097152):(ZCB s).sz≤100000024:=by
 unfold ZCB
 cases hp:Z9u s with
 |none=>decide
 |some c=>
  obtain⟨h1,h2⟩:=ZB8.mp hp
  have hf:=(ZCI h1).1
  have hl:(ZBl c.so).length≤2097152:=by
   rw[ZDD]at h2
   have:=congrArg List.length h2
   simp only[List.length_append]at this
   omega
  have h3:=ZFu hf
  have h4:=ZIB _ hl
  rw[←h3]at h4
  have h5:=Z6V (ZDw h1.1).2.1
  show c.so.sz+c.em.length≤_
  omega
theorem ZLl {s a b:List UInt8} {c:Ck} (hw:Z6a 33 s=[a,b]) (h:Z9u s=some c):ZKb a=true∧ZAu a=c.so∧isR b=true∧Z5c b=c.em∧ZGJ c=true∧ZDC c=s:=by
 obtain⟨h1,h2⟩:=ZB8.mp h
 have e:=ZDE c
 rw[h2,hw]at e
 simp only[List.cons.injEq,and_true]at e
 obtain⟨a1,a2,a3⟩:=ZCI h1
 rw[←e.1]at a1
 rw[←e.2]at a2 a3
 refine⟨?_,?_,a3,a2,h1.1,h2⟩
 ·unfold ZKb;rw[a1];rfl
 ·unfold ZAu;rw[a1];rfl
theorem ZMA {s a b:List UInt8} (hw:Z6a 33 s=[a,b]):(bif ZKb a&&(isR b&&ZGJ ⟨ZAu a,Z5c b⟩)then CkR ⟨ZAu a,Z5c b⟩ true else CkR ckZ false)=pCk s:=by
 have hj:=ZEI 33 s
 rw[hw]at hj
 cases hp:Z9u s with
 |some c=>
  obtain⟨q1,q2,q3,q4,q5,_⟩:=ZLl hw hp
  rw[ZIC hp,q1,q2,q3,q4]
  show(bif true&&(true&&ZGJ c)then CkR c true else CkR ckZ false)=_
  rw[q5];rfl
 |none=>
  rw[ZHZ hp]
  have hn:=ZCA.mp hp
  cases h1:ZKb a with
  |false=>rfl
  |true=>
   cases h2:isR b with
   |false=>rfl
   |true=>
    by_cases h3:ZGJ ⟨ZAu a,Z5c b⟩=true
    ·unfold ZKb at h1
     cases hx:ZAM a with
     |none=>rw[hx]at h1;cases h1
     |some x=>
      obtain⟨x1,x2⟩:=ZAE.mp hx
      have hg:ZAu a=x:=by unfold ZAu;rw[hx];rfl
      rw[hg]at h3
      refine absurd ?_ (hn ⟨x,Z5c b⟩ ⟨h3,x1.2⟩)
      rw[ZDD]
      show ZBl x++[33]++Z6x (Z5c b)=s
      rw[x2,(ZKD h2).2]
      simpa[Z85]using hj
    ·rw[(Bool.not_eq_true _).mp h3];rfl
theorem ZMB {s a b:List UInt8} (hs:s.length≤2097152) (hw:Z6a 33 s=[a,b]):(bif !decide (Z8C ⟨ZAu a,Z5c b⟩=s)then CkR ckZ false else CkR ⟨ZAu a,Z5c b⟩ true)=pCk s:=by
 have ha:a.length≤2097152:=Nat.le_trans (Z7S (show a∈Z6a 33 s by rw[hw];simp)) hs
 cases hp:Z9u s with
 |some c=>
  obtain⟨q1,q2,q3,q4,q5,q6⟩:=ZLl hw hp
  rw[ZIC hp,q2,q4]
  have:Z8C c=s:=by unfold Z8C;rw[if_pos q5];exact q6
  show(bif !decide (Z8C c=s)then CkR ckZ false else CkR c true)=_
  rw[this];simp
 |none=>
  rw[ZHZ hp]
  have hn:=ZCA.mp hp
  have:¬Z8C ⟨ZAu a,Z5c b⟩=s:=fun e=>by
   unfold Z8C at e
   by_cases hv:ZGJ ⟨ZAu a,Z5c b⟩=true
   ·rw[if_pos hv]at e
    exact hn _ ⟨hv,(ZHY a ha).2.2⟩ e
   ·rw[if_neg hv]at e
    rw[←e]at hw
    simp[Z6a,ZAX]at hw
  rw[decide_eq_false this]
  rfl
theorem ZKH (s:List UInt8) (hs:s.length≤2097152):callI tE Z8F [.str (S s)]=some (pCk s):=by
 have hc:=ZAY 33 s
 have hsub:∀x∈Z6a 33 s,x.length≤2097152:=fun x hx=>Nat.le_trans (Z7S hx) hs
 rw[ZBr,show((33:Int))=(((33:UInt8).toNat:Nat):Int)from rfl,ZLJ 33 s (by omega)]
 simp only[gA]
 rw[show eqI (lenI ((Z6a 33 s).map StE)) 2=decide ((Z6a 33 s).length=2)from ZEz StE _ 2]
 by_cases h2:(Z6a 33 s).length=2
 ·rw[decide_eq_true h2,Bool.not_true,cond_false]
  obtain⟨a,b,hw⟩:=ZLM h2
  have hi:=ZMA hw
  rw[hw]at hsub⊢
  have i0:inR 0 (lenI ([a,b].map StE))=true:=rfl
  have i1:inR 1 (lenI ([a,b].map StE))=true:=rfl
  have g0:at' ([a,b].map StE) (tn 0)=[.str (S a)]:=rfl
  have g1:at' ([a,b].map StE) (tn 1)=[.str (S b)]:=rfl
  have ha:=hsub a (by simp)
  have hb:=hsub b (by simp)
  obtain⟨z1,z2,z3⟩:=ZHY a ha
  have z4:=Z7p b
  have v:=ZI3 ⟨ZAu a,Z5c b⟩ (by show(ZAu a).sz+(Z5c b).length≤1073741800;omega)
  simp only at v
  simp only[i0,i1,g0,g1,cond_true,gA,ZKF a ha,ZKc,SoR,ZDR b (by omega),ZFs,v]
  rw[←hi]
  cases ZKb a
  ·rfl
  ·cases isR b
   ·rfl
   ·cases ZGJ ⟨ZAu a,Z5c b⟩<;>rfl
 ·rw[decide_eq_false h2,ZKd h2];rfl
theorem ZKI (s:List UInt8) (hs:s.length≤2097152):callI tE Z8G [.str (S s)]=some (pCk s):=by
 have hc:=ZAY 33 s
 have hsub:∀x∈Z6a 33 s,x.length≤2097152:=fun x hx=>Nat.le_trans (Z7S hx) hs
 rw[ZBs,show((33:Int))=(((33:UInt8).toNat:Nat):Int)from rfl,ZLK 33 s (by omega)]
 simp only[gA]
 rw[show eqI (lenI ((Z6a 33 s).map StE)) 2=decide ((Z6a 33 s).length=2)from ZEz StE _ 2]
 by_cases h2:(Z6a 33 s).length=2
 ·rw[decide_eq_true h2,Bool.not_true,cond_false]
  obtain⟨a,b,hw⟩:=ZLM h2
  have hi:=ZMB hs hw
  rw[hw]at hsub⊢
  have i0:inR 0 (lenI ([a,b].map StE))=true:=rfl
  have i1:inR 1 (lenI ([a,b].map StE))=true:=rfl
  have g0:at' ([a,b].map StE) (tn 0)=[.str (S a)]:=rfl
  have g1:at' ([a,b].map StE) (tn 1)=[.str (S b)]:=rfl
  have ha:=hsub a (by simp)
  have hb:=hsub b (by simp)
  obtain⟨z1,z2,z3⟩:=ZHY a ha
  have z4:=Z7p b
  have v:=ZFL ⟨ZAu a,Z5c b⟩ (by show(ZAu a).sz+(Z5c b).length≤1073741800;omega) z2
  simp only at v
  simp only[i0,i1,g0,g1,cond_true,gA,ZKG a ha,ZKc,SoR,ZDS b (show b.length<1073741824 by omega),ZFs,v,ZCt]
  rw[←hi]
  cases decide (Z8C ⟨ZAu a,Z5c b⟩=s)<;>rfl
 ·rw[decide_eq_false h2,ZKd h2];rfl
def So.zero:So:=⟨[],0,[],[],[],[],0,0,0,0⟩
def Jn.zero:Jn:=⟨[],0,0⟩
def Ag.zero:Ag:=⟨[],0,false⟩
def Tk.zero:Tk:=⟨0,[],[],[],0⟩
def Opr.zero:Opr:=⟨0,So.zero,Jn.zero,Ag.zero⟩
def ZJf (l:List Rw):So×Bool:=if aok l then(⟨l,0,[],[],[],[],0,0,1,0⟩,true)else(So.zero,false)
def SoB (x:So×Bool):List Dat:=x.1.e++[.bool x.2]
theorem ZKe (l:List Rw):callI tE Z92 [.sl (l.map Rw.e)]=some (SoB (ZJf l)):=by
 rw[ZE9,ZBJ]
 simp only[gA]
 unfold ZJf
 cases h:aok l
 ·rfl
 ·have:=Z6V h
  rw[ZDm l (by omega)];rfl
theorem ZKf (l:List Rw) (hl:l.length≤1073741824):callI tE Z94 [.sl (l.map Rw.e)]=some (SoB (ZJf l)):=by
 rw[ZEC,ZA7 l (by omega)]
 simp only[gA]
 unfold ZJf
 cases h:aok l
 ·rfl
 ·rw[Z5b,show fitM (0+l.length) 24=true from Z97 (by omega)];rfl
theorem ZIE:∀{l:List (List Rw)},szL List.length l=l.length+l.flatten.length
 |[]=>rfl
 |a::l=>by
  have:=ZIE (l:=l)
  simp only[szL,List.length_cons,List.flatten_cons,List.length_append];omega
theorem ZFM {s:So} (hv:Z9s s=true):s.sz≤200∧s.runs.length≤24:=by
 obtain⟨o1,⟨o2,o2'⟩,o3,o4,o5,o6,o7⟩:=Z7E hv
 obtain⟨r1,r2,r3⟩:=ZDe hv
 have a1:=Z6V o1
 have a2:=Z6V r1
 have a3:=Z6V r2
 have a4:=Z6V r3
 have hr:=ZGO o3
 have hs:=ZIE (l:=s.runs)
 have hf:s.runs.flatten.length≤24:=by
  by_cases h1:s.ph=1
  ·have:=(ZB5 o7 h1).2.2.2.2.length_eq
   simp only[List.length_append,List.length_take]at this
   omega
  ·have:=(Z7c o7 h1).2.2.2.1.length_eq
   omega
 simp only[So.sz]
 exact⟨by omega,by omega⟩
theorem ZGR {s:So} (hv:Z9s s=true):s.B2:=by have:=(ZFM hv).1;show s.sz≤1073741800;omega
theorem ZEO (s:So):(rest s).length≤s.inp.length:=by
 unfold rest
 have:=(Z6o s.inp).length_eq
 split
 ·simp;omega
 ·split
  ·simp
  ·omega
theorem ZFN {s:So} (hv:Z9s s=true):ZCT s≤1000:=by
 obtain⟨o1,⟨o2,o2'⟩,o3,o4,o5,o6,o7⟩:=Z7E hv
 obtain⟨r1,r2,r3⟩:=ZDe hv
 have a1:=Z6V o1
 have a2:=Z6V r1
 have a3:=Z6V r2
 have hr:=(ZFM hv).2
 have m1:s.inp.length*(s.inp.length+2)≤24*26:=Nat.mul_le_mul (by omega) (by omega)
 unfold ZCT
 split
 ·split<;>omega
 ·rename_i h1
  split
  ·have hl:=(Z7c o7 h1).2.2.2.1.length_eq
   have hrl:=ZGO o3
   have m2:(s.runs.length-1)*(s.inp.length+2)≤23*26:=Nat.mul_le_mul (by omega) (by omega)
   omega
  ·split<;>omega
def ZEP (l:List Int):Bool:=(l.all fun g=>win g 8 60)&&decide (0<l.length)
theorem ZLm {l:List Int} (h:ZEP l=true):(∀g∈l,win g 8 60=true)∧0<l.length:=by
 simp only[ZEP,Bool.and_eq_true,decide_eq_true_eq,List.all_eq_true]at h
 exact h
theorem ZJg (l:List Int):ltI 0 (lenI (l.map ZAv))=decide (0<l.length):=by
 rw[Z5L];unfold ltI;congr 1;apply propext;omega
theorem ZIF (l:List Int) (hl:l.length≤4611686018427387904):∀(v u:List Int),l=u++v→Z8S (l.map ZAv) (l.map ZAv) (lenI (l.map ZAv)) (u.length:Int)=some [.bool ((v.all fun g=>win g 8 60)&&decide (0<l.length))]
 |[],u,e=>by
  rw[List.append_nil]at e
  rw[ZAD,show ltI (u.length:Int) (lenI (l.map ZAv))=false by rw[e];exact ZEd u,cond_false,ZJg];rfl
 |c::v,u,e=>by
  have hul:u.length<l.length:=by rw[e];simp
  have ih:=ZIF l hl v (u++[c]) (by rw[e];simp)
  rw[List.length_append]at ih
  simp only[List.length_cons,List.length_nil,Nat.zero_add]at ih
  have h1:ltI (u.length:Int) (lenI (l.map ZAv))=true:=by rw[e];exact ZFO u v c
  have h2:at' (l.map ZAv) u.length=ZAv c:=by rw[e];exact ZEG u v c
  have h3:inR (u.length:Int) (lenI (l.map ZAv))=true:=by rw[e];exact ZFP u v c
  rw[ZAD,h1,h3,Z86,h2,Z7n (i:=u.length) (by omega),ih]
  simp only[cond_true,ZAv,ZI8,gA,List.all_cons]
  cases win c 8 60<;>rfl
theorem ZJh (l:List Int) (hl:l.length≤4611686018427387904):callI tE Z89 [.sl (l.map ZAv)]=some [.bool (ZEP l)]:=by
 rw[ZEF];exact ZIF l hl l [] rfl
theorem ZIG (l:List Int) (hl:l.length≤4611686018427387904):∀(v u:List Int),l=u++v→Z8Q (l.map ZAv) (u.length:Int)=some [.bool ((v.all fun g=>win g 8 60)&&decide (0<l.length))]
 |[],u,e=>by
  rw[List.append_nil]at e
  rw[ZAA,show ltI (u.length:Int) (lenI (l.map ZAv))=false by rw[e];exact ZEd u,cond_false,ZJg];rfl
 |c::v,u,e=>by
  have hul:u.length<l.length:=by rw[e];simp
  have ih:=ZIG l hl v (u++[c]) (by rw[e];simp)
  rw[List.length_append]at ih
  simp only[List.length_cons,List.length_nil,Nat.zero_add]at ih
  have h1:ltI (u.length:Int) (lenI (l.map ZAv))=true:=by rw[e];exact ZFO u v c
  have h2:at' (l.map ZAv) u.length=ZAv c:=by rw[e];exact ZEG u v c
  have h3:inR (u.length:Int) (lenI (l.map ZAv))=true:=by rw[e];exact ZFP u v c
  rw[ZAA,h1,h3,Z86,h2,Z7n (i:=u.length) (by omega),ih]
  simp only[cond_true,ZAv,ZCW,gA,List.all_cons]
  cases win c 8 60<;>rfl
theorem ZJi (l:List Int) (hl:l.length≤4611686018427387904):callI tE Z8A [.sl (l.map ZAv)]=some [.bool (ZEP l)]:=by
 rw[ZED];exact ZIG l hl l [] rfl
def gAt (l:List Int) (n:Nat):Int:=l.getD (n%l.length) 0
theorem ZJj {l:List Int} (h:ZEP l=true) (n:Nat):eqI (lenI (l.map ZAv)) 0=false∧inR (Int.tmod (n:Int) (lenI (l.map ZAv))) (lenI (l.map ZAv))=true∧gn (at' (l.map ZAv) (tn (Int.tmod (n:Int) (lenI (l.map ZAv)))))=gAt l n∧win (gAt l n) 8 60=true:=by
 obtain⟨h1,h2⟩:=ZLm h
 have hk:n%l.length<l.length:=Nat.mod_lt _ h2
 have hx:l[n%l.length]?=some (l[n%l.length]):=List.getElem?_eq_getElem hk
 have e:Int.tmod (n:Int) (lenI (l.map ZAv))=((n%l.length:Nat):Int):=by rw[Z5L];rfl
 have hg:gAt l n=l[n%l.length]:=by unfold gAt;simp[List.getD_eq_getElem?_getD,hx]
 rw[e]
 refine⟨eqF (by rw[Z5L];omega),ZKW hx,?_,?_⟩
 ·rw[Z86,ZKV hx,hg];rfl
 ·rw[hg];exact h1 _ (List.getElem_mem hk)
theorem ZBm {s:So} {l:List Int} {n k:Nat} (hv:Z9s s=true) (hg:ZEP l=true) (h4:¬s.ph=4) (hk:ZCT s≤k) (hw:s.wr+4*(k:Int)≤1000000000000):∃(s':So) (em:List Rw),ZBu s (gAt l n)=(s',em,true)∧Z9s s'=true∧ZCT s'<ZCT s∧s'.wr≤s.wr+4∧s'.inp=s.inp∧rest s=em++rest s':=by
 have hb:ZHS s (gAt l n)=true:=by
  simp only[ZHS,Bool.and_eq_true,Bool.not_eq_true']
  exact⟨hv,(ZJj hg n).2.2.2,eqF h4⟩
 obtain⟨h1,h2⟩:=ZL5 hb (by omega)
 generalize hst:ZBu s (gAt l n)=r at*
 obtain⟨s',em,b⟩:=r
 simp only at h1 h2
 subst h2
 exact⟨s',em,rfl,h1.ok,h1.less,h1.wr.2,h1.inp,h1.rest⟩
theorem ZMC (gs:List Int) (hg:ZEP gs=true) {x1 x2 x3 y1 y2 y3 y4 y5:Int} {z1 z2 z3 z4 z5:Rows}:∀(k:Nat) (s:So) (n:Nat) (acc:List Rw),ZCT s≤k→Z9s s=true→s.wr+4*(k:Int)≤1000000000000→n+k≤1000000000→acc.length+24*k≤1000000000→
  ∃s':So,Z9Y (gs.map ZAv) x1 x2 x3 (n:Int) s.pos s.lp s.rp s.ph s.wr y1 y2 y3 y4 y5 (acc.map Rw.e) (s.inp.map Rw.e) (s.heap.map Rw.e) (s.dfd.map Rw.e) (s.out.map Rw.e) (s.runs.map rsE) z1 z2 z3 z4 z5=some (s'.e++[.bool true,.sl ((acc++rest s).map Rw.e)]):=by
 intro k
 induction k with
 |zero=>
  intro s n acc hm hv hw hn hl
  have h4:s.ph=4:=by
   by_cases h:s.ph=4
   ·exact h
   ·obtain⟨s',em,_,_,h2,_⟩:=ZBm (n:=n) hv hg h (k:=0) hm hw
    omega
  refine⟨s,?_⟩
  rw[Z9a,eqT h4,Bool.not_true,cond_false]
  have:rest s=[]:=by unfold rest;rw[if_neg (by omega),if_pos h4]
  rw[this,List.append_nil];rfl
 |succ k ih=>
  intro s n acc hm hv hw hn hl
  by_cases h4:s.ph=4
  ·refine⟨s,?_⟩
   rw[Z9a,eqT h4,Bool.not_true,cond_false]
   have:rest s=[]:=by unfold rest;rw[if_neg (by omega),if_pos h4]
   rw[this,List.append_nil];rfl
  ·obtain⟨s',em,e1,e2,e3,e4,e5,e6⟩:=ZBm (n:=n) hv hg h4 (k:=k+1) hm hw
   obtain⟨q1,q2,q3,q4⟩:=ZJj hg n
   have hs:=ZJW s (gAt gs n) (ZGR hv)
   rw[e1]at hs
   have hem:em.length≤24:=by
    have:=congrArg List.length e6
    have r1:=ZEO s
    have r2:=Z6V (Z7E hv).1
    simp only[List.length_append]at this
    omega
   obtain⟨s2,ih2⟩:=ih s' (n+1) (acc++em) (by omega) e2 (by omega) (by omega) (by simp only[List.length_append];omega)
   refine⟨s2,?_⟩
   rw[Z9a,eqF h4,Bool.not_false,cond_true,q1,Bool.not_false,cond_true,q2,cond_true,q3,hs]
   simp only[StR,gA,Bool.not_true,cond_false,ZCj,Z5b]
   rw[Z97 (by omega),cond_true,Z7n (i:=n) (by omega)]
   simp only[gA,Bool.not_true,cond_false]
   rw[Z9z,ih2,e6,List.append_assoc]
theorem ZJk (gs:List Int) (hg:ZEP gs=true) {x1:Int} {z:Rows}:∀(k:Nat) (s:So) (n:Nat) (acc:List Rw),ZCT s≤k→Z9s s=true→s.wr+4*(k:Int)≤1000000000000→n+k≤1000000000→acc.length+24*k≤1000000000→
  Z6n (gs.map ZAv) x1 (n:Int) s.pos s.lp s.rp s.ph s.wr (acc.map Rw.e) (s.inp.map Rw.e) (s.heap.map Rw.e) (s.dfd.map Rw.e) (s.out.map Rw.e) (s.runs.map rsE) z=some [.sl ((acc++rest s).map Rw.e),.bool true]:=by
 intro k
 induction k with
 |zero=>
  intro s n acc hm hv hw hn hl
  have h4:s.ph=4:=by
   by_cases h:s.ph=4
   ·exact h
   ·obtain⟨s',em,_,_,h2,_⟩:=ZBm (n:=n) hv hg h (k:=0) hm hw
    omega
  rw[Z8L,eqT h4,Bool.not_true,cond_false]
  have:rest s=[]:=by unfold rest;rw[if_neg (by omega),if_pos h4]
  rw[this,List.append_nil]
 |succ k ih=>
  intro s n acc hm hv hw hn hl
  by_cases h4:s.ph=4
  ·rw[Z8L,eqT h4,Bool.not_true,cond_false]
   have:rest s=[]:=by unfold rest;rw[if_neg (by omega),if_pos h4]
   rw[this,List.append_nil]
  ·obtain⟨s',em,e1,e2,e3,e4,e5,e6⟩:=ZBm (n:=n) hv hg h4 (k:=k+1) hm hw
   obtain⟨q1,q2,q3,q4⟩:=ZJj hg n
   have hs:=ZJX s (gAt gs n) (ZGR hv)
   rw[e1]at hs
   have hem:em.length≤24:=by
    have:=congrArg List.length e6
    have r1:=ZEO s
    have r2:=Z6V (Z7E hv).1
    simp only[List.length_append]at this
    omega
   have ih2:=ih s' (n+1) (acc++em) (by omega) e2 (by omega) (by omega) (by simp only[List.length_append];omega)
   rw[Z8L,eqF h4,Bool.not_false,cond_true,q1,Bool.not_false,cond_true,q2,cond_true,q3,hs]
   simp only[StR,gA,Z5b]
   rw[Z97 (by omega),cond_true,Z7n (i:=n) (by omega),Z9z,ih2,e6,List.append_assoc]
def Z8T (l:List Rw):So:=⟨l,0,[],[],[],[],0,0,1,0⟩
theorem ZAb {l:List Rw} (h:aok l=true):Z9s (Z8T l)=true∧rest (Z8T l)=Z9J l∧(Z8T l).wr=0:=
 ⟨ZAL h ⟨by simp[Z8T],by simp[Z8T]⟩ (fun r hr=>by cases hr) (by simp[Z8T]) .nil (fun r hr=>by cases hr) (ZBU rfl rfl rfl (.inr rfl) (by simp[ZDd,Z8T,Z8v]) (by simp[Z8T])),rfl,rfl⟩
theorem ZEQ (l:List Rw):ZJf l=if aok l then(Z8T l,true)else(So.zero,false):=rfl
theorem ZH6:∀(k:Nat) (s:List UInt8),s.length≤k→k<1000000000→∀r∈(Z7G s).1,r.length≤s.length:=by
 intro k
 induction k with
 |zero=>
  intro s h _ r hr
  have:s=[]:=List.length_eq_zero_iff.mp (by omega)
  subst this;rw[Z7T]at hr;cases hr
 |succ k ih=>
  intro s h hk r hr
  by_cases hs:s=[]
  ·subst hs;rw[Z7T]at hr;cases hr
  ·cases hf:ZCa s with
   |none=>rw[ZBO hs hf]at hr;cases hr
   |some a=>
    obtain⟨y,e⟩:=Z9o.mp hf
    have hrl:0<(Z8o a).length∧a.length≤(Z8o a).length:=by unfold Z8o;(first|omega|(simp only[List.length_append,List.length_cons,List.length_nil,List.length_map,List.length_take,List.length_drop,List.length_replicate,Z5z]at* <;>omega))
    rw[e]at h hr⊢
    rw[ZAZ]at hr
    simp only[List.length_append]at h⊢
    rcases List.mem_cons.mp hr with rfl|hr
    ·omega
    ·have:=ih y (by omega) (by omega) r hr
     omega
theorem ZIH {gs:List Int} (hg:ZEP gs=true) (s:So) (acc:List Rw) (hv:Z9s s=true) (hw:s.wr≤1000000000) (hl:acc.length≤100000100):∃s':So,callI tE Z7K [.int 1,.sl (s.inp.map Rw.e),.int s.pos,.sl (s.heap.map Rw.e),.sl (s.dfd.map Rw.e),.sl (s.out.map Rw.e),.sl (s.runs.map rsE),.int s.lp,.int s.rp,.int s.ph,.int s.wr,.sl (gs.map ZAv),.sl (acc.map Rw.e)]=some (s'.e++[.bool true,.sl ((acc++rest s).map Rw.e)]):=by
 obtain⟨s',h⟩:=ZMC gs hg (x1:=0) (x2:=0) (x3:=0) (y1:=0) (y2:=0) (y3:=0) (y4:=0) (y5:=0) (z1:=[]) (z2:=[]) (z3:=[]) (z4:=[]) (z5:=[]) 1000 s 0 acc (ZFN hv) hv (by omega) (by omega) (by omega)
 exact⟨s',by rw[ZFA];exact h⟩
theorem ZLn {gs:List Int} (hg:ZEP gs=true) (s:So) (acc:List Rw) (z:Rows) (hv:Z9s s=true) (hw:s.wr≤1000000000) (hl:acc.length≤100000100):Z6n (gs.map ZAv) 0 0 s.pos s.lp s.rp s.ph s.wr (acc.map Rw.e) (s.inp.map Rw.e) (s.heap.map Rw.e) (s.dfd.map Rw.e) (s.out.map Rw.e) (s.runs.map rsE) z=some [.sl ((acc++rest s).map Rw.e),.bool true]:=
 ZJk gs hg 1000 s 0 acc (ZFN hv) hv (by omega) (by omega) (by omega)
noncomputable def ZFv (j:List UInt8) (l:List Rw) (g:List Int):List Rw×Bool:=
 if aok l=true∧ZEP g=true then match(Z7G j).1.getLast? with
  |none=>(Z9J l,true)
  |some r=>if ZIi r=true∧(ZCB r).so.inp=l then((ZCB r).em++rest (ZCB r).so,true)else([],false)
 else([],false)
theorem ZHa {r:List UInt8} (h:ZIi r=true):Z9u r=some (ZCB r)∧CkP (ZCB r):=by
 unfold ZIi ZCB at*
 cases hp:Z9u r with
 |none=>rw[hp]at h;cases h
 |some c=>exact⟨rfl,(ZB8.mp hp).1⟩
theorem ZJl (j:List UInt8) (l:List Rw) (g:List Int) (hj:j.length≤1048576) (hg:g.length≤1073741824) (hl:l.length≤1073741824):callI tE Z8h [.str (S j),.sl (l.map Rw.e),.sl (g.map ZAv)]=some [.sl ((ZFv j l g).1.map Rw.e),.bool (ZFv j l g).2]:=by
 rw[ZDa,ZKe,ZEQ]
 unfold ZFv
 cases ha:aok l with
 |false=>rw[if_neg (by simp),if_neg (by simp)];rfl
 |true=>
  rw[if_pos rfl]
  simp only[SoB,So.e,gA,List.cons_append,List.nil_append,ZJh g (by omega)]
  cases hgr:ZEP g with
  |false=>rw[if_neg (by simp)];rfl
  |true=>
   rw[if_pos (by simp)]
   simp only[Bool.not_true,cond_false,ZHJ j (by omega),gA,ZIP]
   cases hr:(Z7G j).1.getLast? with
   |none=>
    obtain⟨s',hf⟩:=ZIH hgr (Z8T l) [] (ZAb ha).1 (by rw[(ZAb ha).2.2];omega) (by simp)
    rw[List.nil_append,(ZAb ha).2.1]at hf
    simp only[gA,cond_false]
    rw[List.map_nil]at hf
    rw[hf]
    simp only[So.e,gA,List.cons_append,List.nil_append,Bool.not_true,cond_false,List.drop_succ_cons,List.drop_zero]
   |some r=>
    have hrl:=ZH6 j.length j (Nat.le_refl _) (by omega) r (List.mem_of_getLast? hr)
    have hz:=ZID r (by omega)
    simp only[gA,cond_true,ZKH r (by omega)]
    unfold pCk
    cases hc:ZIi r with
    |false=>rw[if_neg (by simp)];rfl
    |true=>
     obtain⟨hp,h1,h2⟩:=ZHa hc
     generalize ZCB r=c at*
     obtain⟨c1,c2,_⟩:=ZDw h1
     have hil:=Z6V (Z7E c1).1
     have hel:=Z6V c2
     simp only[CkR,gA,Bool.not_true,cond_false,ZGe c.so.inp l (by omega)]
     by_cases he:c.so.inp=l
     ·rw[decide_eq_true he,if_pos (by simp[he])]
      obtain⟨s',hf⟩:=ZIH hgr c.so c.em c1 (by omega) (by omega)
      simp only[Bool.not_true,cond_false,hf,So.e,gA,List.cons_append,List.nil_append,List.drop_succ_cons,List.drop_zero]
     ·rw[decide_eq_false he,if_neg (by simp[he])];rfl
theorem ZL7 (j:List UInt8) (l:List Rw) (g:List Int) (hj:j.length≤1048576) (hg:g.length≤1073741824) (hl:l.length≤1073741824):callI tE Z8i [.str (S j),.sl (l.map Rw.e),.sl (g.map ZAv)]=some [.sl ((ZFv j l g).1.map Rw.e),.bool (ZFv j l g).2]:=by
 rw[ZDZ,ZKf l hl,ZEQ]
 unfold ZFv
 cases ha:aok l with
 |false=>rw[if_neg (by simp),if_neg (by simp)];rfl
 |true=>
  rw[if_pos rfl]
  simp only[SoB,So.e,gA,List.cons_append,List.nil_append,ZJi g (by omega)]
  cases hgr:ZEP g with
  |false=>rw[if_neg (by simp)];rfl
  |true=>
   rw[if_pos (by simp)]
   simp only[Bool.not_true,cond_false,ZHK j (by omega),gA,ZIP]
   cases hr:(Z7G j).1.getLast? with
   |none=>
    have hf:=ZLn hgr (Z8T l) [] [] (ZAb ha).1 (by rw[(ZAb ha).2.2];omega) (by simp)
    rw[List.nil_append,(ZAb ha).2.1]at hf
    simp only[gA,cond_false]
    exact hf
   |some r=>
    have hrl:=ZH6 j.length j (Nat.le_refl _) (by omega) r (List.mem_of_getLast? hr)
    have hz:=ZID r (by omega)
    simp only[gA,cond_true,ZKI r (by omega)]
    unfold pCk
    cases hc:ZIi r with
    |false=>rw[if_neg (by simp)];rfl
    |true=>
     obtain⟨hp,h1,h2⟩:=ZHa hc
     generalize ZCB r=c at*
     obtain⟨c1,c2,_⟩:=ZDw h1
     have hil:=Z6V (Z7E c1).1
     have hel:=Z6V c2
     simp only[CkR,gA,Bool.not_true,cond_false,ZHj c.so.inp l (by omega)]
     by_cases he:c.so.inp=l
     ·rw[decide_eq_true he,if_pos (by simp[he])]
      have hf:=ZLn hgr c.so c.em (c.em.map Rw.e) c1 (by omega) (by omega)
      rw[Bool.not_true,cond_false,Z5b,Z97 (by omega),cond_true,hf]
     ·rw[decide_eq_false he,if_neg (by simp[he])];rfl
noncomputable def apB (j r:List UInt8):List UInt8×Bool:=if((Z7G j).2&&leN (j++Z8o r).length 20000)=true then(j++Z8o r,true)else(j,false)
theorem ZGS (j r:List UInt8):ZLD j r=[.str (S (apB j r).1),.bool (apB j r).2]:=by
 unfold ZLD apB
 cases(Z7G j).2&&leN (j++Z8o r).length 20000<;>rfl
theorem ZDk {j r:List UInt8} (h:j.length≤20000):(apB j r).1.length≤20000:=by
 unfold apB
 split
 ·rename_i hh
  simp only[Bool.and_eq_true,leN,decide_eq_true_eq]at hh
  exact hh.2
 ·exact h
noncomputable def ZHb (g:List Int) (k:Nat):Nat→So→Nat→List Rw→List UInt8→List UInt8×Bool
 |0,_,_,_,j=>(j,true)
 |f+1,s,n,acc,j=>
  if s.ph=4 then(j,true)
  else if n%k+1=k then
   (let r:=apB j (Z8C ⟨(ZBu s (gAt g n)).1,acc++(ZBu s (gAt g n)).2.1⟩)
       if r.2=true then ZHb g k f (ZBu s (gAt g n)).1 (n+1) (acc++(ZBu s (gAt g n)).2.1) r.1 else r)
  else ZHb g k f (ZBu s (gAt g n)).1 (n+1) (acc++(ZBu s (gAt g n)).2.1) j
theorem ZH7 {s:So} (hv:Z9s s=true) (hw:s.wr≤1000000000000):s.nb:=by
 obtain⟨o1,⟨o2,o2'⟩,o3,o4,o5,o6,o7⟩:=Z7E hv
 have a1:=Z6V o1
 have hsz:=ZFM hv
 have key:(0≤s.lp∧s.lp≤1000)∧(0≤s.rp∧s.rp≤1000)∧(0≤s.ph∧s.ph≤4):=by
  by_cases h1:s.ph=1
  ·obtain⟨q1,q2,_⟩:=ZB5 o7 h1
   omega
  ·obtain⟨q1,_,_,q4,q5⟩:=Z7c o7 h1
   rcases ZBT q5 with p|p|p
   ·obtain⟨a,b,r,e,h2,h3,_⟩:=ZCH q5 p
    have hs:=hsz.1
    simp only[So.sz,e,szL]at hs
    omega
   ·obtain⟨h2,h3,h4,h5⟩:=ZB6 q5 p
    omega
   ·obtain⟨h2,h3,h4,h5⟩:=ZDB q5 p
    omega
 obtain⟨k1,k2,k3⟩:=key
 exact⟨⟨by omega,by omega⟩,⟨by omega,by omega⟩,⟨by omega,by omega⟩,⟨by omega,by omega⟩,⟨by omega,by omega⟩⟩
theorem ZDF {c:Ck} (hw:c.so.wr≤1000000000000):(Z8C c).length≤1000000:=by
 unfold Z8C
 split
 ·rename_i h
  have hv:=(ZDw h).1
  obtain⟨b1,b2,b3,b4,b5⟩:=ZH7 hv hw
  have hsz:=ZFM hv
  have hs:=hsz.1
  simp only[So.sz]at hs
  have a1:=Z6Q b1
  have a2:=Z6Q b2
  have a3:=Z6Q b3
  have a4:=Z6Q b4
  have a5:=Z6Q b5
  have l1:=Z6L c.so.inp
  have l2:=Z6L c.so.heap
  have l3:=Z6L c.so.dfd
  have l4:=Z6L c.so.out
  have l5:=ZAr c.so.runs
  have l6:=Z6L c.em
  rw[ZDD,ZGL]
  simp only[List.length_append,List.length_cons,List.length_nil]
  omega
 ·simp
theorem ZII {n k:Nat} (h:0<k):(n+1)%k=0↔n%k+1=k:=by
 have h1:=Nat.mod_lt n h
 rw[←Nat.mod_add_mod]
 constructor
 ·intro h2
  by_cases h3:n%k+1<k
  ·rw[Nat.mod_eq_of_lt h3]at h2;omega
  ·omega
 ·intro h2
  rw[h2,Nat.mod_self]
theorem ZIJ (a b:Nat):Int.tmod (a:Int) (b:Int)=((a%b:Nat):Int):=rfl
theorem ZLw {s:So} {acc:List Rw} (hv:Z9s s=true) (hl:acc.length≤1000000):(⟨s,acc⟩:Ck).B2:=by
 have:=(ZFM hv).1
 show s.sz+acc.length≤1073741800
 omega
end Go.Proofs.YtceoogjanfbdcaaGreat.Vai
