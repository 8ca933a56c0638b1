/- What the law of this claim leans on; no condition. -/
import Derived.Test.YtnihikajdbcoaaaEnv
import Derived.Test.YtnihikajdbcoaaaVaiD
namespace Go.Proofs.Ytnihikajdbcoaaa.Vai
open Go
set_option linter.unusedSimpArgs false
set_option linter.unusedVariables false
set_option linter.unnecessarySimpa false
abbrev Rows:=List (List Dat)
abbrev Z5N:FuncId:=24
abbrev Z79:FuncId:=42
abbrev Z6W:FuncId:=25
abbrev Z6a:FuncId:=9
abbrev Z6w:FuncId:=55
abbrev Z72:FuncId:=43
abbrev Z6P:FuncId:=26
abbrev Z6b:FuncId:=10
abbrev Z6C:FuncId:=44
abbrev Z5h:FuncId:=27
abbrev Z5z:FuncId:=11
abbrev Z7P:FuncId:=4
abbrev Z6c:FuncId:=60
abbrev Z6N:FuncId:=56
abbrev Z6x:FuncId:=45
abbrev Z5V:FuncId:=28
abbrev Z5o:FuncId:=29
abbrev Z5q:FuncId:=12
abbrev Z5r:FuncId:=13
abbrev Z5X:FuncId:=30
abbrev Z5m:FuncId:=14
abbrev Z5Y:FuncId:=5
abbrev Z7A:FuncId:=46
abbrev Z5L:FuncId:=31
abbrev Z7B:FuncId:=47
abbrev Z6X:FuncId:=32
abbrev Z6d:FuncId:=15
abbrev Z6Q:FuncId:=57
abbrev Z73:FuncId:=48
abbrev Z6R:FuncId:=33
abbrev Z6e:FuncId:=16
abbrev Z6D:FuncId:=49
abbrev Z5i:FuncId:=34
abbrev Z60:FuncId:=17
abbrev Z6f:FuncId:=6
abbrev Z6E:FuncId:=61
abbrev Z6O:FuncId:=58
abbrev Z6y:FuncId:=50
abbrev Z5W:FuncId:=35
abbrev Z5p:FuncId:=36
abbrev Z5s:FuncId:=18
abbrev Z5t:FuncId:=19
abbrev Z5j:FuncId:=37
abbrev Z5n:FuncId:=20
abbrev Z5Z:FuncId:=7
abbrev Z7C:FuncId:=51
abbrev Z5M:FuncId:=38
abbrev Z7D:FuncId:=52
abbrev Z6Y:FuncId:=39
abbrev Z6g:FuncId:=21
abbrev Z6S:FuncId:=59
abbrev Z74:FuncId:=53
abbrev Z6T:FuncId:=40
abbrev Z6h:FuncId:=22
abbrev Z6F:FuncId:=54
abbrev Z5k:FuncId:=41
abbrev Z61:FuncId:=23
abbrev Z7Q:FuncId:=8
abbrev Z5a:FuncId:=3
set_option maxRecDepth 100000
theorem Z8E (a0:Rows) (a1:Int):callI tE Z5N [.sl a0,.int a1]=(bif(ltI (w64 (a1-(lenI a0))) 0)then(some [(.int (-1))])else(some [(.int (w64 (a1-(lenI a0))))])):=(callI_run rfl (by kernel_rfl)).trans (by kernel_rfl)
theorem Z82 (a0:Rows) (a1:Int):callI tE Z6w [.sl a0,.int a1]=(bif(ltI (w64 (a1-(lenI a0))) 0)then(some [(.int (-1))])else(some [(.int (w64 (a1-(lenI a0))))])):=(callI_run rfl (by kernel_rfl)).trans (by kernel_rfl)
theorem Z8k (a0 a1 a2:Int):callI tE Z6c [.int a0,.int a1,.int a2]=(bif(leI a1 a0)then(some [(.bool (leI a0 a2))])else(some [(.bool Bool.false)])):=(callI_run rfl (by kernel_rfl)).trans (by kernel_rfl)
theorem Z7j (a0 a1 a2:Int):callI tE Z6N [.int a0,.int a1,.int a2]=(((callI tE Z6c [(.int a0),(.int 0),(.int 9)])).bind (fun r0=>(bif(gb r0)then(((callI tE Z6c [(.int a1),(.int 0),(.int 99)])).bind (fun r1=>(bif(gb r1)then(((callI tE Z6c [(.int a2),(.int 0),(.int 3)])).bind (fun r2=>(some [(.bool (gb r2))])))else(some [(.bool Bool.false)]))))else(some [(.bool Bool.false)])))):=(callI_run rfl (by kernel_rfl)).trans (by kernel_rfl)
theorem Z83 (a0 a1 a2:Int):callI tE Z6x [.int a0,.int a1,.int a2]=(((callI tE Z6N [(.int a0),(.int a1),(.int a2)])).bind (fun r0=>(bif(!(gb r0))then(some [(.int 0)])else(some [(.int (w64 (1+a2)))])))):=(callI_run rfl (by kernel_rfl)).trans (by kernel_rfl)
noncomputable def Z5b (x0:Rows) (x1 x2:Int):Option (List Dat):=loopK tE Z5V 0 ⟨[(0,(.ro 93 Bool.false x0)),(3,(.i .i64 x1)),(4,(.i .i64 x2))],[]⟩
theorem Z6U (x0:Rows) (x1 x2:Int):Z5b x0 x1 x2=(bif(ltI x2 (lenI x0))then(bif(inR x2 (lenI x0))then(((callI tE Z6x [(.int (gn (at' x0 (tn x2)))),(.int (gn (tk 1 (at' x0 (tn x2))))),(.int (gn (tk 2 (at' x0 (tn x2)))))])).bind (fun r0=>(Z5b x0 (w64 (x1+(gn r0))) (w64 (x2+1)))))else none)else(some [(.int x1)])):=(loopK_run (by kernel_rfl)).trans (by kernel_rfl)
theorem Z7o (a0:Rows):callI tE Z5V [.sl a0]=(Z5b a0 0 0):=(callI_run rfl (by kernel_rfl)).trans (by kernel_rfl)
theorem Z8X (a0 a1 a2:Int):callI tE Z7A [.int a0,.int a1,.int a2]=(some [(.int a0),(.int a1),(.int a2)]):=(callI_run rfl (by kernel_rfl)).trans (by kernel_rfl)
noncomputable def Z6G (x0:Rows) (x1:Int) (x2:Rows):Option (List Dat):=loopK tE Z5L 0 ⟨[(0,(.ro 95 Bool.false x0)),(3,(.own (500000,0))),(4,(.i .i64 x1))],[((500000,0),(.row 93 x2 Bool.true 0 []))]⟩
theorem Z6q (x0:Rows) (x1:Int) (x2:Rows):Z6G x0 x1 x2=(bif(ltI x1 (lenI x0))then(bif(inR x1 (lenI x0))then(((callI tE Z7A [(.int (gn (at' x0 (tn x1)))),(.int (gn (tk 1 (at' x0 (tn x1))))),(.int (gn (tk 2 (at' x0 (tn x1)))))])).bind (fun r0=>(bif(inR x1 (lenI x2))then(Z6G x0 (w64 (x1+1)) (updR x2 (tn x1) 0 [(.int (gn r0)),(.int (gn (tk 1 r0))),(.int (gn (tk 2 r0)))]))else none)))else none)else(some [(.sl x2)])):=(loopK_run (by kernel_rfl)).trans (by kernel_rfl)
theorem Z8F (a0:Rows):callI tE Z5L [.sl a0]=(bif((leI 0 (lenI a0))&&((eqI (lenI a0) (lenI a0))&&(fitM (tn (lenI a0)) 24)))then(Z6G a0 0 (List.replicate (tn (lenI a0)) [(.int 0),(.int 0),(.int 0)]))else none):=(callI_run rfl (by kernel_rfl)).trans (by kernel_rfl)
noncomputable def Z5v (x0:Rows) (x1:Int) (x2:Rows):Option (List Dat):=loopK tE Z6Q 0 ⟨[(0,(.ro 4 Bool.false x0)),(3,(.own (500000,0))),(4,(.i .i64 x1))],[((500000,0),(.row 4 x2 Bool.true 0 []))]⟩
theorem Z6i (x0:Rows) (x1:Int) (x2:Rows):Z5v x0 x1 x2=(bif(ltI x1 (lenI x0))then(bif(inR x1 (lenI x0))then(bif(inR x1 (lenI x2))then(Z5v x0 (w64 (x1+1)) (updR x2 (tn x1) 0 [(.bool (gb (at' x0 (tn x1))))]))else none)else none)else(some [(.sl x2)])):=(loopK_run (by kernel_rfl)).trans (by kernel_rfl)
theorem Z84 (a0:Rows):callI tE Z6Q [.sl a0]=(bif((leI 0 (lenI a0))&&((eqI (lenI a0) (lenI a0))&&(fitM (tn (lenI a0)) 1)))then(Z5v a0 0 (List.replicate (tn (lenI a0)) [(.bool Bool.false)]))else none):=(callI_run rfl (by kernel_rfl)).trans (by kernel_rfl)
theorem Z8G (a0 a1 a2:Int):callI tE Z6E [.int a0,.int a1,.int a2]=(bif(leI a1 a0)then(some [(.bool (leI a0 a2))])else(some [(.bool Bool.false)])):=(callI_run rfl (by kernel_rfl)).trans (by kernel_rfl)
theorem Z7k (a0 a1 a2:Int):callI tE Z6O [.int a0,.int a1,.int a2]=(((callI tE Z6E [(.int a0),(.int 0),(.int 9)])).bind (fun r0=>(bif(gb r0)then(((callI tE Z6E [(.int a1),(.int 0),(.int 99)])).bind (fun r1=>(bif(gb r1)then(((callI tE Z6E [(.int a2),(.int 0),(.int 3)])).bind (fun r2=>(some [(.bool (gb r2))])))else(some [(.bool Bool.false)]))))else(some [(.bool Bool.false)])))):=(callI_run rfl (by kernel_rfl)).trans (by kernel_rfl)
theorem Z85 (a0 a1 a2:Int):callI tE Z6y [.int a0,.int a1,.int a2]=(((callI tE Z6O [(.int a0),(.int a1),(.int a2)])).bind (fun r0=>(bif(!(gb r0))then(some [(.int 0)])else(some [(.int (w64 (1+a2)))])))):=(callI_run rfl (by kernel_rfl)).trans (by kernel_rfl)
noncomputable def Z5c (x0:Int) (x1:Rows) (x2 x3:Int):Option (List Dat):=loopK tE Z5W 0 ⟨[(3,(.i .i64 x0)),(6,(.ro 93 Bool.false x1)),(7,(.i .i64 x2)),(8,(.i .i64 x3))],[]⟩
theorem Z6V (x0:Int) (x1:Rows) (x2 x3:Int):Z5c x0 x1 x2 x3=(bif(ltI x3 x2)then(bif(inR x3 (lenI x1))then(((callI tE Z6y [(.int (gn (at' x1 (tn x3)))),(.int (gn (tk 1 (at' x1 (tn x3))))),(.int (gn (tk 2 (at' x1 (tn x3)))))])).bind (fun r0=>(Z5c (w64 (x0+(gn r0))) x1 x2 (w64 (x3+1)))))else none)else(some [(.int x0)])):=(loopK_run (by kernel_rfl)).trans (by kernel_rfl)
theorem Z7p (a0:Rows):callI tE Z5W [.sl a0]=(Z5c 0 a0 (lenI a0) 0):=(callI_run rfl (by kernel_rfl)).trans (by kernel_rfl)
theorem Z8Y (a0 a1 a2 a3 a4 a5:Int):callI tE Z7C [.int a0,.int a1,.int a2,.int a3,.int a4,.int a5]=(bif(!(eqI a0 a3))then(some [(.bool Bool.false)])else(bif(!(eqI a1 a4))then(some [(.bool Bool.false)])else(bif(!(eqI a2 a5))then(some [(.bool Bool.false)])else(some [(.bool Bool.true)])))):=(callI_run rfl (by kernel_rfl)).trans (by kernel_rfl)
noncomputable def Z6H (x0 x1:Rows) (x2:Int):Option (List Dat):=loopK tE Z5M 0 ⟨[(0,(.ro 93 Bool.false x0)),(1,(.ro 93 Bool.false x1)),(5,(.i .i64 x2))],[]⟩
theorem Z6r (x0 x1:Rows) (x2:Int):Z6H x0 x1 x2=(bif(ltI x2 (lenI x0))then(bif(inR x2 (lenI x0))then(bif(inR x2 (lenI x1))then(((callI tE Z7C [(.int (gn (at' x0 (tn x2)))),(.int (gn (tk 1 (at' x0 (tn x2))))),(.int (gn (tk 2 (at' x0 (tn x2))))),(.int (gn (at' x1 (tn x2)))),(.int (gn (tk 1 (at' x1 (tn x2))))),(.int (gn (tk 2 (at' x1 (tn x2)))))])).bind (fun r0=>(bif(!(gb r0))then(some [(.bool Bool.false)])else(Z6H x0 x1 (w64 (x2+1))))))else none)else none)else(some [(.bool Bool.true)])):=(loopK_run (by kernel_rfl)).trans (by kernel_rfl)
theorem Z8H (a0 a1:Rows):callI tE Z5M [.sl a0,.sl a1]=(bif(!(eqI (lenI a0) (lenI a1)))then(some [(.bool Bool.false)])else(Z6H a0 a1 0)):=(callI_run rfl (by kernel_rfl)).trans (by kernel_rfl)
noncomputable def Z5w (x0 x1:Rows) (x2:Int):Option (List Dat):=loopK tE Z6S 0 ⟨[(0,(.ro 4 Bool.false x0)),(1,(.ro 4 Bool.false x1)),(5,(.i .i64 x2))],[]⟩
theorem Z6j (x0 x1:Rows) (x2:Int):Z5w x0 x1 x2=(bif(ltI x2 (lenI x0))then(bif(inR x2 (lenI x0))then(bif(inR x2 (lenI x1))then(bif(!(eqBo (gb (at' x0 (tn x2))) (gb (at' x1 (tn x2)))))then(some [(.bool Bool.false)])else(Z5w x0 x1 (w64 (x2+1))))else none)else none)else(some [(.bool Bool.true)])):=(loopK_run (by kernel_rfl)).trans (by kernel_rfl)
theorem Z86 (a0 a1:Rows):callI tE Z6S [.sl a0,.sl a1]=(bif(!(eqI (lenI a0) (lenI a1)))then(some [(.bool Bool.false)])else(Z5w a0 a1 0)):=(callI_run rfl (by kernel_rfl)).trans (by kernel_rfl)
theorem ZA6 (n:Int) (r:List Dat):gn (.int n::r)=n:=rfl
theorem ZA7 (b:Bool) (r:List Dat):gb (.bool b::r)=b:=rfl
theorem ZA8 (s:ByteArray) (r:List Dat):gs (.str s::r)=s:=rfl
theorem ZA9 (l:Rows) (r:List Dat):gl (.sl l::r)=l:=rfl
theorem ZAA (l:List Dat):tk 0 l=l:=rfl
theorem ZAB (k:Nat) (a:Dat) (l:List Dat):tk (k+1) (a::l)=tk k l:=rfl
theorem Z9i {α β:Type} (a:α) (f:α→Option β):(some a).bind f=f a:=rfl
theorem gA:(∀(n:Int) (r:List Dat),gn (.int n::r)=n)∧(∀(b:Bool) (r:List Dat),gb (.bool b::r)=b)∧(∀(s:ByteArray) (r:List Dat),gs (.str s::r)=s)∧(∀(l:Rows) (r:List Dat),gl (.sl l::r)=l)∧(∀l:List Dat,tk 0 l=l)∧(∀(k:Nat) (a:Dat) (l:List Dat),tk (k+1) (a::l)=tk k l)∧(∀{α β:Type} (a:α) (f:α→Option β),(some a).bind f=f a)∧(∀{α:Type} (k:Nat) (a:α) (l:List α),List.drop (k+1) (a::l)=List.drop k l)∧(∀{α:Type} (l:List α),List.drop 0 l=l)∧(∀{α:Type} (a d:α) (l:List α),(a::l).headD d=a)∧(∀{α:Type} (a d:α) (l:List α),(a::l).getD 0 d=a)∧∀{α:Type} (k:Nat) (a d:α) (l:List α),(a::l).getD (k+1) d=l.getD k d:=
 ⟨ZA6,ZA7,ZA8,ZA9,ZAA,ZAB,Z9i,fun _ _ _=>rfl,fun _=>rfl,fun _ _ _=>rfl,fun _ _ _=>rfl,fun _ _ _ _=>rfl⟩
theorem ltT {a b:Int} (h:a<b):ltI a b=true:=by simpa[ltI]using h
theorem ltF {a b:Int} (h:b≤a):ltI a b=false:=by simpa[ltI]using h
theorem leT {a b:Int} (h:a≤b):leI a b=true:=by simpa[leI]using h
theorem eqT {a b:Int} (h:a=b):eqI a b=true:=by simpa[eqI]using h
theorem eqF {a b:Int} (h:a≠b):eqI a b=false:=by simpa[eqI]using h
theorem Z7M (a:Int):eqI a a=true:=by simp[eqI]
theorem ZAC {a b:Nat} (h:a≤b):leN a b=true:=by simpa[leN]using h
theorem Z9U {n b:Nat} (h:n*b≤70368744177664):fitM n b=true:=ZAC h
theorem Z9x {i n:Int} (h:0≤i) (h2:i<n):inR i n=true:=by simp[inR,leT h,ltT h2]
theorem Z7s (i:Nat):tn (i:Int)=i:=rfl
theorem Z7t {n:Int} (h: -9223372036854775808≤n∧n≤9223372036854775807):w64 n=n:=wrap64 ⟨h.1,by omega⟩
theorem Z7q {i:Nat} (h:i<9223372036854775807):w64 ((i:Int)+1)=((i+1:Nat):Int):=by
 rw[Z7t ⟨by omega,by omega⟩];omega
theorem Z9j {α:Type} (b:Bool) (x y:α):(bif !b then x else y)=bif b then y else x:=by cases b<;>rfl
theorem Z6k (p q:Rows) (r:List Dat):at' (p++r::q) p.length=r:=by
 simp[List.getD_eq_getElem?_getD]
theorem Z70 (p q:Rows) (r:List Dat):ltI (p.length:Int) (lenI (p++r::q))=true:=ltT (by show(p.length:Int)<((p++r::q).length:Int);simp only[List.length_append,List.length_cons];omega)
theorem Z6s (p q:Rows) (r:List Dat):inR (p.length:Int) (lenI (p++r::q))=true:=Z9x (by omega) (by show(p.length:Int)<((p++r::q).length:Int);simp only[List.length_append,List.length_cons];omega)
theorem Z71 (p:Rows):ltI (p.length:Int) (lenI p)=false:=ltF (Int.le_refl _)
theorem Z9V (p q:Rows) (r:List Dat) (c:Nat) (ds:List Dat):updR (p++r::q) p.length c ds=p++setRange r c ds::q:=by
 unfold updR
 rw[show(p++r::q).getD p.length []=r from Z6k p q r,List.set_append_right _ _ (Nat.le_refl _)]
 simp
theorem Z8I (p:Rows) (r:List Dat):(p++[r]).length=p.length+1:=by simp
theorem Z8Z {α:Type} (p q:List α) (r:α):p++r::q=(p++[r])++q:=by simp
section
variable {α β:Type} {e:α→List Dat}
theorem Z9P (u v:List α) (a:α):at' ((u++a::v).map e) u.length=e a:=by
 simp[List.getD_eq_getElem?_getD]
theorem Z9E (u v:List α) (a:α):ltI (u.length:Int) (lenI ((u++a::v).map e))=true:=ltT (by show(u.length:Int)<(((u++a::v).map e).length:Int);simp only[List.length_append,List.length_cons,List.length_map];omega)
theorem Z9Q (u v:List α) (a:α):inR (u.length:Int) (lenI ((u++a::v).map e))=true:=Z9x (by omega) (by show(u.length:Int)<(((u++a::v).map e).length:Int);simp only[List.length_append,List.length_cons,List.length_map];omega)
theorem Z9F (l:List α):ltI (l.length:Int) (lenI (l.map e))=false:=ltF (by simp)
theorem Z8o {σ:Type} {L:σ→Int→Option β} {F:σ→List α→Option β} {I:σ→List α→List α→Prop} {l:List α} (hn:l.length<9223372036854775807)
  (hs:∀(u:List α) (a:α) (v:List α) (s:σ),l=u++a::v→I s u (a::v)→(∃s',L s u.length=L s' (w64 (u.length+1))∧I s' (u++[a]) v∧F s (a::v)=F s' v)∨L s u.length=F s (a::v))
  (he:∀s,I s l []→L s l.length=F s []) (s:σ) (h0:I s [] l):L s 0=F s l:=by
 have key:∀(v u:List α) (s:σ),l=u++v→I s u v→L s (u.length:Nat)=F s v:=by
  intro v
  induction v with
  |nil=>
   intro u s h hI
   rw[List.append_nil]at h
   subst h
   exact he s hI
  |cons a v ih=>
   intro u s h hI
   have hl:u.length<l.length:=by rw[h];simp
   rcases hs u a v s h hI with ⟨s',h1,h2,h3⟩|h1
   ·rw[h1,Z7q (by omega),h3]
    have:=ih (u++[a]) s' (by rw[h];simp) h2
    rw[List.length_append]at this
    exact this
   ·exact h1
 exact key l [] s rfl h0
end
def BdL {α:Type} (p:α→Prop) (l:List α):Prop:=l.length≤1152921504606846976∧∀a∈l,p a
def BdT (_:Bool):Prop:=True
def Z9k {α:Type} (c:α→Nat):List α→Nat
 |[]=>0
 |a::l=>c a+Z9k c l
def szL {α:Type} (f:α→Nat):List α→Nat
 |[]=>0
 |a::l=>1+f a+szL f l
theorem Z75 {α:Type} (f:α→Nat):∀l:List α,l.length≤szL f l
 |[]=>Nat.le_refl _
 |a::l=>by have:=Z75 f l;simp only[List.length_cons,szL];omega
theorem Z76 {α:Type} {f:α→Nat}:∀{l:List α} {a:α},a∈l→f a≤szL f l
 |b::l,a,h=>by
  rcases List.mem_cons.mp h with rfl|h
  ·simp only[szL];omega
  ·have:=Z76 (f:=f) h;simp only[szL];omega
section
variable {α:Type} {e:α→List Dat} {f:α→Int→α} {c g:α→Nat}
theorem Z7l {L:Rows→Int→Rows→Option (List Dat)} {z:List Dat} {P:α→Prop} (hs:∀(p q p' q':Rows) (a:α),P a→p.length=p'.length→p.length<4611686018427387904→L (p++e a::q) p.length (p'++z::q')=L (p++e a::q) (w64 (p.length+1)) (p'++e a::q'))
  (he:∀p p',p.length=p'.length→L p p.length p'=some [.sl p']):∀(l:List α) (p p':Rows),p.length=p'.length→(∀a∈l,P a)→p.length+l.length<4611686018427387904→
   L (p++l.map e) p.length (p'++List.replicate l.length z)=some [.sl (p'++l.map e)]
 |[],p,p',h,_,_=>by simpa using he p p' h
 |a::l,p,p',h,hP,h3=>by
  simp only[List.length_cons]at h3
  rw[List.map_cons,List.length_cons,List.replicate_succ,hs p (l.map e) p' (List.replicate l.length z) a (hP a (by simp)) h (by omega),Z7q (by omega),Z8Z,Z8Z p']
  have ih:=Z7l hs he l (p++[e a]) (p'++[e a]) (by simp[h]) (fun b hb=>hP b (by simp[hb])) (by simp;omega)
  rw[Z8I]at ih
  rw[ih]
  simp only[List.append_assoc,List.singleton_append]
theorem Z7m [DecidableEq α] {L:Rows→Rows→Int→Option (List Dat)} {P:α→Prop} (hs:∀(p q p' q':Rows) (a b:α),P a→p.length=p'.length→p.length<4611686018427387904→L (p++e a::q) (p'++e b::q') p.length=bif decide (a=b)then L (p++e a::q) (p'++e b::q') (w64 (p.length+1))else some [.bool false])
  (he:∀p p',p.length=p'.length→L p p' p.length=some [.bool true]):∀(l l':List α) (p p':Rows),p.length=p'.length→l.length=l'.length→(∀a∈l,P a)→p.length+l.length<4611686018427387904→
   L (p++l.map e) (p'++l'.map e) p.length=some [.bool (decide (l=l'))]
 |[],[],p,p',h,_,_,_=>by simpa using he p p' h
 |[],_::_,_,_,_,h,_,_=>by simp at h
 |_::_,[],_,_,_,h,_,_=>by simp at h
 |a::l,b::l',p,p',h,hl,hP,h3=>by
  simp only[List.length_cons]at h3 hl
  rw[List.map_cons,List.map_cons,hs p (l.map e) p' (l'.map e) a b (hP a (by simp)) h (by omega)]
  by_cases hab:a=b
  ·rw[decide_eq_true hab,cond_true,Z7q (by omega),Z8Z,Z8Z p']
   have ih:=Z7m hs he l l' (p++[e a]) (p'++[e b]) (by simp[h]) (by omega) (fun b hb=>hP b (by simp[hb])) (by simp;omega)
   rw[Z8I]at ih
   rw[ih]
   simp[hab]
  ·rw[decide_eq_false hab,cond_false]
   simp[hab]
def szv (n:Int) (s:Nat):Int:=if(s:Int)≤n then n-s else-1
theorem Z9l {n:Int} (h:0≤n):szv n 0=n:=by simp[szv,h]
theorem Z6I {n:Int} {a b:Nat} (_hn:0≤n) {X:Option (List Dat)} (hX:(a:Int)≤n→szv n a=n-a→X=some [.int (szv (n-a) b)]):(bif ltI (szv n a) 0 then some [.int (-1)]else X)=some [.int (szv n (a+b))]:=by
 by_cases h:(a:Int)≤n
 ·have e1:szv n a=n-a:=if_pos h
  rw[ltF (by rw[e1];omega),cond_false,hX h e1]
  congr 2
  unfold szv
  by_cases h2:(b:Int)≤n-a
  ·rw[if_pos h2,if_pos (by omega)];congr 1;omega
  ·rw[if_neg h2,if_neg (by omega)]
 ·have e1:szv n a= -1:=if_neg h
  rw[ltT (by rw[e1];decide),cond_true]
  unfold szv
  rw[if_neg (by omega)]
theorem Z7R {n:Int} {a:Nat} (hn:0≤n):(bif ltI (szv n a) 0 then some [Dat.int (-1)]else some [.int (szv n a)])=some [.int (szv n a)]:=by
 have:=Z6I (b:=0) hn (X:=some [.int (szv n a)]) (a:=a) (fun h h1=>by rw[h1,Z9l (by omega)])
 simpa using this
theorem Z8J {L:Rows→Int→Int→Option (List Dat)} {P:α→Prop} (hs:∀(p q:Rows) (a:α) (n:Int),P a→0≤n→n≤1048576→p.length<4611686018427387904→L (p++e a::q) n p.length=bif ltI (szv n (g a)) 0 then some [.int (-1)]else L (p++e a::q) (szv n (g a)) (w64 (p.length+1)))
  (he:∀p n,L p n p.length=some [.int n]):∀(l:List α) (p:Rows) (n:Int),(∀a∈l,P a)→0≤n→n≤1048576→p.length+l.length<4611686018427387904→
   L (p++l.map e) n p.length=some [.int (szv n (Z9k g l))]
 |[],p,n,_,h0,_,_=>by rw[List.map_nil,List.append_nil,he,Z9k,Z9l h0]
 |a::l,p,n,hP,h0,h1,h3=>by
  simp only[List.length_cons]at h3
  rw[List.map_cons,hs p (l.map e) a n (hP a (by simp)) h0 h1 (by omega)]
  refine Z6I h0 fun h2 h4=>?_
  rw[h4,Z7q (by omega),Z8Z]
  have ih:=Z8J hs he l (p++[e a]) (n-g a) (fun b hb=>hP b (by simp[hb])) (by omega) (by omega) (by simp;omega)
  rw[Z8I]at ih
  exact ih
theorem Z8K (g:α→Nat):∀l:List α,szL g l=l.length+Z9k g l
 |[]=>rfl
 |a::l=>by simp only[szL,Z8K g l,List.length_cons,Z9k];omega
theorem Z7E (p q:Bool):(bif !p then some [Dat.bool false]else some [.bool q])=some [.bool (p&&q)]:=by cases p<;>rfl
end
def Z8p (n:Int):List Dat:=[.int n]
def boE (b:Bool):List Dat:=[.bool b]
structure Rw where
 k:Int
 v:Int
 w:Int
 deriving DecidableEq
def Rw.e (x:Rw):List Dat:=[.int x.k,.int x.v,.int x.w]
def Rw.bd (x:Rw):Prop:=I64 x.k∧I64 x.v∧I64 x.w
def rsB (l:List Rw):Prop:=BdL Rw.bd l
def rsE (l:List Rw):List Dat:=[.sl (l.map Rw.e)]
structure Pr where
 l:Rw
 r:Rw
 m:Bool
 deriving DecidableEq
def Pr.e (x:Pr):List Dat:=[.int x.l.k,.int x.l.v,.int x.l.w,.int x.r.k,.int x.r.v,.int x.r.w,.bool x.m]
def Pr.bd (x:Pr):Prop:=Rw.bd x.l∧Rw.bd x.r∧BdT x.m
structure Gr where
 key:Int
 cnt:Int
 sum:Int
 lo:Int
 hi:Int
 deriving DecidableEq
def Gr.e (x:Gr):List Dat:=[.int x.key,.int x.cnt,.int x.sum,.int x.lo,.int x.hi]
def Gr.bd (x:Gr):Prop:=I64 x.key∧I64 x.cnt∧I64 x.sum∧I64 x.lo∧I64 x.hi
structure Cl where
 id:Int
 req:Int
 prio:Int
 deriving DecidableEq
def Cl.e (x:Cl):List Dat:=[.int x.id,.int x.req,.int x.prio]
def Cl.bd (x:Cl):Prop:=I64 x.id∧I64 x.req∧I64 x.prio
structure Tk where
 kind:Int
 left:List Rw
 right:List Rw
 mat:List Bool
 level:Int
 deriving DecidableEq
def Tk.e (x:Tk):List Dat:=[.int x.kind,.sl (x.left.map Rw.e),.sl (x.right.map Rw.e),.sl (x.mat.map boE),.int x.level]
def Tk.sz (x:Tk):Nat:=x.left.length+(x.right.length+(x.mat.length))
def Tk.bd (x:Tk):Prop:=I64 x.kind∧BdL Rw.bd x.left∧BdL Rw.bd x.right∧BdL BdT x.mat∧I64 x.level
structure Gt where
 rows:List Rw
 level:Int
 deriving DecidableEq
def Gt.e (x:Gt):List Dat:=[.sl (x.rows.map Rw.e),.int x.level]
def Gt.sz (x:Gt):Nat:=x.rows.length
def Gt.bd (x:Gt):Prop:=BdL Rw.bd x.rows∧I64 x.level
structure So where
 inp:List Rw
 pos:Int
 heap:List Rw
 dfd:List Rw
 out:List Rw
 runs:List (List Rw)
 lp:Int
 rp:Int
 ph:Int
 wr:Int
 deriving DecidableEq
def So.e (x:So):List Dat:=[.sl (x.inp.map Rw.e),.int x.pos,.sl (x.heap.map Rw.e),.sl (x.dfd.map Rw.e),.sl (x.out.map Rw.e),.sl (x.runs.map rsE),.int x.lp,.int x.rp,.int x.ph,.int x.wr]
def So.sz (x:So):Nat:=x.inp.length+(x.heap.length+(x.dfd.length+(x.out.length+(szL List.length x.runs))))
def So.bd (x:So):Prop:=BdL Rw.bd x.inp∧I64 x.pos∧BdL Rw.bd x.heap∧BdL Rw.bd x.dfd∧BdL Rw.bd x.out∧BdL rsB x.runs∧I64 x.lp∧I64 x.rp∧I64 x.ph∧I64 x.wr
structure Jn where
 pend:List Tk
 wr:Int
 parts:Int
 deriving DecidableEq
def Jn.e (x:Jn):List Dat:=[.sl (x.pend.map Tk.e),.int x.wr,.int x.parts]
def Jn.sz (x:Jn):Nat:=szL Tk.sz x.pend
def Jn.bd (x:Jn):Prop:=BdL Tk.bd x.pend∧I64 x.wr∧I64 x.parts
structure Ag where
 pend:List Gt
 wr:Int
 early:Bool
 deriving DecidableEq
def Ag.e (x:Ag):List Dat:=[.sl (x.pend.map Gt.e),.int x.wr,.bool x.early]
def Ag.sz (x:Ag):Nat:=szL Gt.sz x.pend
def Ag.bd (x:Ag):Prop:=BdL Gt.bd x.pend∧I64 x.wr∧BdT x.early
structure Opr where
 kind:Int
 so:So
 jn:Jn
 ag:Ag
 deriving DecidableEq
def Opr.e (x:Opr):List Dat:=[.int x.kind,.sl (x.so.inp.map Rw.e),.int x.so.pos,.sl (x.so.heap.map Rw.e),.sl (x.so.dfd.map Rw.e),.sl (x.so.out.map Rw.e),.sl (x.so.runs.map rsE),.int x.so.lp,.int x.so.rp,.int x.so.ph,.int x.so.wr,.sl (x.jn.pend.map Tk.e),.int x.jn.wr,.int x.jn.parts,.sl (x.ag.pend.map Gt.e),.int x.ag.wr,.bool x.ag.early]
def Opr.sz (x:Opr):Nat:=So.sz x.so+(Jn.sz x.jn+(Ag.sz x.ag))
def Opr.bd (x:Opr):Prop:=I64 x.kind∧So.bd x.so∧Jn.bd x.jn∧Ag.bd x.ag
structure Ou where
 rows:List Rw
 pairs:List Pr
 groups:List Gr
 deriving DecidableEq
def Ou.e (x:Ou):List Dat:=[.sl (x.rows.map Rw.e),.sl (x.pairs.map Pr.e),.sl (x.groups.map Gr.e)]
def Ou.sz (x:Ou):Nat:=x.rows.length+(x.pairs.length+(x.groups.length))
def Ou.bd (x:Ou):Prop:=BdL Rw.bd x.rows∧BdL Pr.bd x.pairs∧BdL Gr.bd x.groups
structure Sl where
 id:Int
 op:Opr
 out:Ou
 done:Bool
 deriving DecidableEq
def Sl.e (x:Sl):List Dat:=[.int x.id,.int x.op.kind,.sl (x.op.so.inp.map Rw.e),.int x.op.so.pos,.sl (x.op.so.heap.map Rw.e),.sl (x.op.so.dfd.map Rw.e),.sl (x.op.so.out.map Rw.e),.sl (x.op.so.runs.map rsE),.int x.op.so.lp,.int x.op.so.rp,.int x.op.so.ph,.int x.op.so.wr,.sl (x.op.jn.pend.map Tk.e),.int x.op.jn.wr,.int x.op.jn.parts,.sl (x.op.ag.pend.map Gt.e),.int x.op.ag.wr,.bool x.op.ag.early,.sl (x.out.rows.map Rw.e),.sl (x.out.pairs.map Pr.e),.sl (x.out.groups.map Gr.e),.bool x.done]
def Sl.sz (x:Sl):Nat:=Opr.sz x.op+(Ou.sz x.out)
def Sl.bd (x:Sl):Prop:=I64 x.id∧Opr.bd x.op∧Ou.bd x.out∧BdT x.done
structure Br where
 pool:Int
 next:Int
 act:List Cl
 wait:List Cl
 deriving DecidableEq
def Br.e (x:Br):List Dat:=[.int x.pool,.int x.next,.sl (x.act.map Cl.e),.sl (x.wait.map Cl.e)]
def Br.sz (x:Br):Nat:=x.act.length+(x.wait.length)
def Br.bd (x:Br):Prop:=I64 x.pool∧I64 x.next∧BdL Cl.bd x.act∧BdL Cl.bd x.wait
structure Sy where
 br:Br
 slots:List Sl
 round:Int
 deriving DecidableEq
def Sy.e (x:Sy):List Dat:=[.int x.br.pool,.int x.br.next,.sl (x.br.act.map Cl.e),.sl (x.br.wait.map Cl.e),.sl (x.slots.map Sl.e),.int x.round]
def Sy.sz (x:Sy):Nat:=Br.sz x.br+(szL Sl.sz x.slots)
def Sy.bd (x:Sy):Prop:=Br.bd x.br∧BdL Sl.bd x.slots∧I64 x.round
structure Xc where
 pend:List (List Rw)
 que:List (List Rw)
 got:List (List Rw)
 cap:Int
 deriving DecidableEq
def Xc.e (x:Xc):List Dat:=[.sl (x.pend.map rsE),.sl (x.que.map rsE),.sl (x.got.map rsE),.int x.cap]
def Xc.sz (x:Xc):Nat:=szL List.length x.pend+(szL List.length x.que+(szL List.length x.got))
def Xc.bd (x:Xc):Prop:=BdL rsB x.pend∧BdL rsB x.que∧BdL rsB x.got∧I64 x.cap
structure Ck where
 so:So
 em:List Rw
 deriving DecidableEq
def Ck.e (x:Ck):List Dat:=[.sl (x.so.inp.map Rw.e),.int x.so.pos,.sl (x.so.heap.map Rw.e),.sl (x.so.dfd.map Rw.e),.sl (x.so.out.map Rw.e),.sl (x.so.runs.map rsE),.int x.so.lp,.int x.so.rp,.int x.so.ph,.int x.so.wr,.sl (x.em.map Rw.e)]
def Ck.sz (x:Ck):Nat:=So.sz x.so+(x.em.length)
def Ck.bd (x:Ck):Prop:=So.bd x.so∧BdL Rw.bd x.em
theorem Z6z {p p':Rows} (h:p.length=p'.length) (q:Rows) (r:List Dat):inR (p.length:Int) (lenI (p'++r::q))=true:=by rw[h];exact Z6s p' q r
theorem Z7u {p p':Rows} (h:p.length=p'.length) (q:Rows) (r:List Dat):at' (p'++r::q) p.length=r:=by rw[h];exact Z6k p' q r
theorem Z7c {p p':Rows} (h:p.length=p'.length) (q:Rows) (r:List Dat) (c:Nat) (ds:List Dat):updR (p'++r::q) p.length c ds=p'++setRange r c ds::q:=by rw[h];exact Z9V p' q r c ds
theorem Z6Z {α:Type} (e:α→List Dat) (l:List α):lenI (l.map e)=(l.length:Int):=by show((l.map e).length:Int)=_;rw[List.length_map]
theorem Z7v (x:Rows):leI 0 (lenI x)=true:=leT (by show(0:Int)≤(x.length:Int);omega)
theorem Z8a {α:Type} {e:α→List Dat} {l l':List α} (h:l.length=l'.length):eqI (lenI (l.map e)) (lenI (l'.map e))=true:=eqT (by rw[Z6Z,Z6Z,h])
theorem Z8b {α:Type} {e:α→List Dat} {l l':List α} (h:¬l.length=l'.length):eqI (lenI (l.map e)) (lenI (l'.map e))=false:=eqF (by rw[Z6Z,Z6Z];omega)
theorem Z8v {n:Int} {x:Rows} {m:Nat} (h0:0≤n) (h1:n≤1048576) (hx:x.length=m) (h:m≤1152921504606846976):(bif ltI (w64 (n-lenI x)) 0 then some [Dat.int (-1)]else some [.int (w64 (n-lenI x))])=some [.int (szv n m)]:=by
 have e:lenI x=(m:Int):=by show(x.length:Int)=_;rw[hx]
 rw[e,Z7t ⟨by omega,by omega⟩]
 unfold szv
 by_cases h2:(m:Int)≤n
 ·rw[ltF (by omega),if_pos h2];rfl
 ·rw[ltT (by omega),if_neg h2];rfl
theorem Z8w {n:Int} {x:Rows} {m b:Nat} (h0:0≤n) (h1:n≤1048576) (hx:x.length=m) (h:m≤1152921504606846976) {X:Int→Option (List Dat)} (hX:(m:Int)≤n→X (n-m)=some [.int (szv (n-m) b)]):(bif ltI (w64 (n-lenI x)) 0 then some [Dat.int (-1)]else X (w64 (n-lenI x)))=some [.int (szv n (m+b))]:=by
 have e:lenI x=(m:Int):=by show(x.length:Int)=_;rw[hx]
 rw[e,Z7t ⟨by omega,by omega⟩]
 by_cases h2:(m:Int)≤n
 ·have:=Z6I (n:=n) (a:=m) (b:=b) h0 (X:=X (n-m)) (fun _ _=>hX h2)
  have e1:szv n m=n-m:=if_pos h2
  rw[e1]at this
  exact this
 ·rw[ltT (by omega),cond_true]
  unfold szv
  rw[if_neg (by omega)]
set_option maxRecDepth 10000
theorem Z8x {α:Type} (e:α→List Dat) (l:List α):len (l.map e)=l.length:=by show(l.map e).length=_;simp
def win (n a b:Int):Bool:=leI a n&&leI n b
theorem Z8y (n a b:Int):callI tE Z6E [.int n,.int a,.int b]=some [.bool (win n a b)]:=by
 rw[Z8G];unfold win;cases leI a n<;>rfl
theorem Z9W (n a b:Int):callI tE Z6c [.int n,.int a,.int b]=some [.bool (win n a b)]:=by
 rw[Z8k];unfold win;cases leI a n<;>rfl
theorem Z9X {n a b:Int}:win n a b=true↔a≤n∧n≤b:=by simp[win,leI]
def Rw.ok (r:Rw):Bool:=win r.k 0 9&&(win r.v 0 99&&win r.w 0 3)
theorem Rw.ok_iff {r:Rw}:r.ok=true↔(0≤r.k∧r.k≤9)∧(0≤r.v∧r.v≤99)∧0≤r.w∧r.w≤3:=by simp[Rw.ok,Z9X]
theorem Z8z (r:Rw):callI tE Z6O [.int r.k,.int r.v,.int r.w]=some [.bool r.ok]:=by
 simp only[Z7k,Z8y,gA]
 unfold Rw.ok
 cases win r.k 0 9<;>cases win r.v 0 99<;>rfl
theorem Z90 (r:Rw):callI tE Z6N [.int r.k,.int r.v,.int r.w]=some [.bool r.ok]:=by
 simp only[Z7j,Z9W,gA]
 unfold Rw.ok
 cases win r.k 0 9<;>cases win r.v 0 99<;>rfl
def Rw.cost (r:Rw):Nat:=if r.ok then 1+r.w.toNat else 0
def Z6l (l:List Rw):Nat:=(l.map Rw.cost).sum
theorem Z91 (r:Rw):r.cost≤4:=by
 unfold Rw.cost
 split
 ·rename_i h;have:=Rw.ok_iff.mp h;omega
 ·omega
theorem Z92:Z6l []=0:=rfl
theorem Z8A (a:Rw) (l:List Rw):Z6l (a::l)=a.cost+Z6l l:=by simp[Z6l]
theorem Z93 (l m:List Rw):Z6l (l++m)=Z6l l+Z6l m:=by simp[Z6l]
theorem Z9G (l:List Rw):Z6l l≤4*l.length:=by
 induction l with
 |nil=>exact Nat.le_refl _
 |cons a l ih=>have:=Z91 a;rw[Z8A,List.length_cons];omega
theorem Z8q (r:Rw):(bif !r.ok then some [Dat.int 0]else some [.int (w64 (1+r.w))])=some [.int (r.cost:Nat)]:=by
 unfold Rw.cost
 cases h:r.ok
 ·rfl
 ·have:=Rw.ok_iff.mp h
  rw[Z7t ⟨by omega,by omega⟩]
  simp only[Bool.not_true,cond_false,if_true]
  congr 3;omega
theorem Z9H (r:Rw):callI tE Z6y [.int r.k,.int r.v,.int r.w]=some [.int (r.cost:Nat)]:=by
 simp only[Z85,Z8z,gA,Z8q]
theorem Z9I (r:Rw):callI tE Z6x [.int r.k,.int r.v,.int r.w]=some [.int (r.cost:Nat)]:=by
 simp only[Z83,Z90,gA,Z8q]
theorem Z94 {u:List Rw} {a:Rw} {n:Int} (hu:u.length<1152921504606846976) (h:n=(Z6l u:Nat)):w64 (n+(a.cost:Nat))=((Z6l (u++[a]):Nat):Int):=by
 have h1:=Z9G u
 have h2:=Z91 a
 subst h
 rw[Z7t ⟨by omega,by omega⟩,Z93,Z8A,Z92];omega
theorem Z7N (l:List Rw) (h:l.length<1152921504606846976):callI tE Z5W [.sl (l.map Rw.e)]=some [.int (Z6l l:Nat)]:=by
 rw[Z7p]
 have:=Z8o (l:=l) (L:=fun s=>Z5c s (l.map Rw.e) (lenI (l.map Rw.e))) (F:=fun _ _=>some [Dat.int (Z6l l:Nat)]) (I:=fun s u _=>s=(Z6l u:Nat)) (by omega) (fun u a v s e hI=>.inl ⟨(Z6l (u++[a]):Nat),by
  subst e
  have hu:u.length<1152921504606846976:=by simp at h;omega
  show Z5c _ _ _ _=_
  rw[Z6V]
  simp only[Z9E,Z9Q,Z7s,Z9P,cond_true,gA,Rw.e,Z9H,Z94 hu hI],rfl,rfl⟩) (fun s hs=>by rw[Z6V,Z9F,cond_false,hs]) 0 rfl
 exact this
theorem Z7O (l:List Rw) (h:l.length<1152921504606846976):callI tE Z5V [.sl (l.map Rw.e)]=some [.int (Z6l l:Nat)]:=by
 rw[Z7o]
 have:=Z8o (l:=l) (L:=fun s=>Z5b (l.map Rw.e) s) (F:=fun _ _=>some [Dat.int (Z6l l:Nat)]) (I:=fun s u _=>s=(Z6l u:Nat)) (by omega) (fun u a v s e hI=>.inl ⟨(Z6l (u++[a]):Nat),by
  subst e
  have hu:u.length<1152921504606846976:=by simp at h;omega
  show Z5b _ _ _=_
  rw[Z6U]
  simp only[Z9E,Z9Q,Z7s,Z9P,cond_true,gA,Rw.e,Z9I,Z94 hu hI],rfl,rfl⟩) (fun s hs=>by rw[Z6U,Z9F,cond_false,hs]) 0 rfl
 exact this
def Rw.lt (a b:Rw):Prop:=a.k<b.k∨a.k=b.k∧(a.v<b.v∨a.v=b.v∧a.w<b.w)
instance (a b:Rw):Decidable (Rw.lt a b):=by unfold Rw.lt;infer_instance
def Rw.le (a b:Rw):Prop:=¬Rw.lt b a
instance (a b:Rw):Decidable (Rw.le a b):=by unfold Rw.le;infer_instance
theorem ZAD {α:Type} {e:α→List Dat} {l:List α} {i:Nat} (hi:i<l.length):inR (i:Int) (lenI (l.map e))=true:=Z9x (by omega) (by rw[Z6Z];omega)
def Z7d (acc:List Int) (k:Int):List Int:=if k∈acc then acc else acc++[k]
def dks (l:List Rw):List Int:=(l.map (·.k)).foldl Z7d []
theorem Z8r (l:List Rw) (r:Rw):dks (l++[r])=Z7d (dks l) r.k:=by simp[dks]
set_option maxRecDepth 100000
theorem Z8c (a0:Rows) (a1:Int):callI tE Z79 [.sl a0,.int a1]=(((callI tE Z5N [(.sl a0),(.int a1)])).bind (fun r0=>(bif(ltI (gn r0) 0)then(some [(.int (-1))])else(some [(.int (gn r0))])))):=(callI_run rfl (by kernel_rfl)).trans (by kernel_rfl)
noncomputable def Z5u (x0:Rows) (x1 x2:Int):Option (List Dat):=loopK tE Z6W 0 ⟨[(0,(.ro 84 Bool.false x0)),(1,(.i .i64 x1)),(5,(.i .i64 x2))],[]⟩
theorem Z6t (x0:Rows) (x1 x2:Int):Z5u x0 x1 x2=(bif(ltI x2 (lenI x0))then(bif(inR x2 (lenI x0))then(((callI tE Z79 [(.sl (gl (at' x0 (tn x2)))),(.int x1)])).bind (fun r0=>(bif(ltI (gn r0) 0)then(some [(.int (-1))])else(Z5u x0 (gn r0) (w64 (x2+1))))))else none)else(some [(.int x1)])):=(loopK_run (by kernel_rfl)).trans (by kernel_rfl)
theorem Z8L (a0:Rows) (a1:Int):callI tE Z6W [.sl a0,.int a1]=(bif(ltI (w64 (a1-(lenI a0))) 0)then(some [(.int (-1))])else(Z5u a0 (w64 (a1-(lenI a0))) 0)):=(callI_run rfl (by kernel_rfl)).trans (by kernel_rfl)
theorem Z7w (a0:Rows) (a1:Int) (a2 a3 a4 a5:Rows) (a6 a7 a8 a9 a10:Int):callI tE Z6a [.sl a0,.int a1,.sl a2,.sl a3,.sl a4,.sl a5,.int a6,.int a7,.int a8,.int a9,.int a10]=(((callI tE Z5N [(.sl a0),(.int a10)])).bind (fun r0=>(bif(ltI (gn r0) 0)then(some [(.int (-1))])else(((callI tE Z5N [(.sl a2),(.int (gn r0))])).bind (fun r1=>(bif(ltI (gn r1) 0)then(some [(.int (-1))])else(((callI tE Z5N [(.sl a3),(.int (gn r1))])).bind (fun r2=>(bif(ltI (gn r2) 0)then(some [(.int (-1))])else(((callI tE Z5N [(.sl a4),(.int (gn r2))])).bind (fun r3=>(bif(ltI (gn r3) 0)then(some [(.int (-1))])else(((callI tE Z6W [(.sl a5),(.int (gn r3))])).bind (fun r4=>(bif(ltI (gn r4) 0)then(some [(.int (-1))])else(some [(.int (gn r4))])))))))))))))))):=(callI_run rfl (by kernel_rfl)).trans (by kernel_rfl)
noncomputable def Z5f (x0 x1 x2:Int):Option (List Dat):=loopK tE Z5o 0 ⟨[(0,(.i .i64 x0)),(3,(.i .i64 x1)),(4,(.i .i64 x2))],[]⟩
theorem Z6J (x0 x1 x2:Int):Z5f x0 x1 x2=(bif(ltI x2 x0)then(bif(ltI x1 40)then(Z5f x0 (w64 (x1+1)) (w64 (x2*2)))else(some [(.int x1)]))else(some [(.int x1)])):=(loopK_run (by kernel_rfl)).trans (by kernel_rfl)
theorem Z7e (a0:Int):callI tE Z5o [.int a0]=(Z5f a0 0 1):=(callI_run rfl (by kernel_rfl)).trans (by kernel_rfl)
theorem Z7F (a0:Rows):callI tE Z5q [.sl a0]=(((callI tE Z5V [(.sl a0)])).bind (fun r0=>(((callI tE Z5o [(.int (lenI a0))])).bind (fun r1=>(some [(.int (w64 ((gn r0)*(w64 ((gn r1)+2)))))]))))):=(callI_run rfl (by kernel_rfl)).trans (by kernel_rfl)
theorem Z8d (a0:Rows):callI tE Z7B [.sl a0]=(((callI tE Z5L [(.sl a0)])).bind (fun r0=>(some [(.sl (gl r0))]))):=(callI_run rfl (by kernel_rfl)).trans (by kernel_rfl)
noncomputable def Z6K (x0:Rows) (x1:Int) (x2:Rows):Option (List Dat):=loopK tE Z6X 0 ⟨[(0,(.ro 84 Bool.false x0)),(3,(.own (500000,0))),(4,(.i .i64 x1))],[((500000,0),(.row 97 x2 Bool.true 0 []))]⟩
theorem Z6u (x0:Rows) (x1:Int) (x2:Rows):Z6K x0 x1 x2=(bif(ltI x1 (lenI x0))then(bif(inR x1 (lenI x0))then(((callI tE Z7B [(.sl (gl (at' x0 (tn x1))))])).bind (fun r0=>(bif(inR x1 (lenI x2))then(Z6K x0 (w64 (x1+1)) (updR x2 (tn x1) 0 [(.sl (gl r0))]))else none)))else none)else(some [(.sl x2)])):=(loopK_run (by kernel_rfl)).trans (by kernel_rfl)
theorem Z8M (a0:Rows):callI tE Z6X [.sl a0]=(bif((leI 0 (lenI a0))&&((eqI (lenI a0) (lenI a0))&&(fitM (tn (lenI a0)) 24)))then(Z6K a0 0 (List.replicate (tn (lenI a0)) [(.sl [])]))else none):=(callI_run rfl (by kernel_rfl)).trans (by kernel_rfl)
theorem Z7x (a0:Rows) (a1:Int) (a2 a3 a4 a5:Rows) (a6 a7 a8 a9:Int):callI tE Z6d [.sl a0,.int a1,.sl a2,.sl a3,.sl a4,.sl a5,.int a6,.int a7,.int a8,.int a9]=(((callI tE Z5L [(.sl a0)])).bind (fun r0=>(((callI tE Z5L [(.sl a2)])).bind (fun r1=>(((callI tE Z5L [(.sl a3)])).bind (fun r2=>(((callI tE Z5L [(.sl a4)])).bind (fun r3=>(((callI tE Z6X [(.sl a5)])).bind (fun r4=>(some [(.sl (gl r0)),(.int a1),(.sl (gl r1)),(.sl (gl r2)),(.sl (gl r3)),(.sl (gl r4)),(.int a6),(.int a7),(.int a8),(.int a9)]))))))))))):=(callI_run rfl (by kernel_rfl)).trans (by kernel_rfl)
noncomputable def Z5g (x0 x1 x2:Int):Option (List Dat):=loopK tE Z5p 0 ⟨[(0,(.i .i64 x0)),(3,(.i .i64 x1)),(4,(.i .i64 x2))],[]⟩
theorem Z6L (x0 x1 x2:Int):Z5g x0 x1 x2=(bif(ltI x2 x0)then(bif(ltI x1 40)then(Z5g x0 (w64 (x1+1)) (w64 (x2*2)))else(some [(.int x1)]))else(some [(.int x1)])):=(loopK_run (by kernel_rfl)).trans (by kernel_rfl)
theorem Z7f (a0:Int):callI tE Z5p [.int a0]=(Z5g a0 0 1):=(callI_run rfl (by kernel_rfl)).trans (by kernel_rfl)
theorem Z7G (a0:Rows):callI tE Z5s [.sl a0]=(((callI tE Z5W [(.sl a0)])).bind (fun r0=>(((callI tE Z5p [(.int (lenI a0))])).bind (fun r1=>(some [(.int (w64 ((gn r0)*(w64 ((gn r1)+2)))))]))))):=(callI_run rfl (by kernel_rfl)).trans (by kernel_rfl)
theorem Z8e (a0 a1:Rows):callI tE Z7D [.sl a0,.sl a1]=(((callI tE Z5M [(.sl a0),(.sl a1)])).bind (fun r0=>(bif(!(gb r0))then(some [(.bool Bool.false)])else(some [(.bool Bool.true)])))):=(callI_run rfl (by kernel_rfl)).trans (by kernel_rfl)
noncomputable def Z6M (x0 x1:Rows) (x2:Int):Option (List Dat):=loopK tE Z6Y 0 ⟨[(0,(.ro 97 Bool.false x0)),(1,(.ro 97 Bool.false x1)),(5,(.i .i64 x2))],[]⟩
theorem Z6v (x0 x1:Rows) (x2:Int):Z6M x0 x1 x2=(bif(ltI x2 (lenI x0))then(bif(inR x2 (lenI x0))then(bif(inR x2 (lenI x1))then(((callI tE Z7D [(.sl (gl (at' x0 (tn x2)))),(.sl (gl (at' x1 (tn x2))))])).bind (fun r0=>(bif(!(gb r0))then(some [(.bool Bool.false)])else(Z6M x0 x1 (w64 (x2+1))))))else none)else none)else(some [(.bool Bool.true)])):=(loopK_run (by kernel_rfl)).trans (by kernel_rfl)
theorem Z8N (a0 a1:Rows):callI tE Z6Y [.sl a0,.sl a1]=(bif(!(eqI (lenI a0) (lenI a1)))then(some [(.bool Bool.false)])else(Z6M a0 a1 0)):=(callI_run rfl (by kernel_rfl)).trans (by kernel_rfl)
theorem Z7y (a0:Rows) (a1:Int) (a2 a3 a4 a5:Rows) (a6 a7 a8 a9:Int) (a10:Rows) (a11:Int) (a12 a13 a14 a15:Rows) (a16 a17 a18 a19:Int):callI tE Z6g [.sl a0,.int a1,.sl a2,.sl a3,.sl a4,.sl a5,.int a6,.int a7,.int a8,.int a9,.sl a10,.int a11,.sl a12,.sl a13,.sl a14,.sl a15,.int a16,.int a17,.int a18,.int a19]=(((callI tE Z5M [(.sl a0),(.sl a10)])).bind (fun r0=>(bif(!(gb r0))then(some [(.bool Bool.false)])else(bif(!(eqI a1 a11))then(some [(.bool Bool.false)])else(((callI tE Z5M [(.sl a2),(.sl a12)])).bind (fun r1=>(bif(!(gb r1))then(some [(.bool Bool.false)])else(((callI tE Z5M [(.sl a3),(.sl a13)])).bind (fun r2=>(bif(!(gb r2))then(some [(.bool Bool.false)])else(((callI tE Z5M [(.sl a4),(.sl a14)])).bind (fun r3=>(bif(!(gb r3))then(some [(.bool Bool.false)])else(((callI tE Z6Y [(.sl a5),(.sl a15)])).bind (fun r4=>(bif(!(gb r4))then(some [(.bool Bool.false)])else(bif(!(eqI a6 a16))then(some [(.bool Bool.false)])else(bif(!(eqI a7 a17))then(some [(.bool Bool.false)])else(bif(!(eqI a8 a18))then(some [(.bool Bool.false)])else(bif(!(eqI a9 a19))then(some [(.bool Bool.false)])else(some [(.bool Bool.true)]))))))))))))))))))))):=(callI_run rfl (by kernel_rfl)).trans (by kernel_rfl)
set_option maxRecDepth 10000
def Xc.B (x:Xc):Prop:=x.sz≤1073741824
def Xc.B2 (x:Xc):Prop:=x.sz≤1073741800
theorem Xc.B2.b {x:Xc} (h:x.B2):x.B:=by simp only[Xc.B2,Xc.B]at*;omega
def So.B (s:So):Prop:=s.sz≤1073741824
def So.B2 (s:So):Prop:=s.sz≤1073741800
theorem So.B2.b {s:So} (h:s.B2):s.B:=by simp only[So.B2,So.B]at*;omega
def Ck.B2 (c:Ck):Prop:=c.sz≤1073741800
set_option maxRecDepth 100000
theorem Z8O (a0:Int) (a1 a2 a3:Rows) (a4 a5:Int):callI tE Z72 [.int a0,.sl a1,.sl a2,.sl a3,.int a4,.int a5]=(((callI tE Z5N [(.sl a1),(.int a5)])).bind (fun r0=>(bif(ltI (gn r0) 0)then(some [(.int (-1))])else(((callI tE Z5N [(.sl a2),(.int (gn r0))])).bind (fun r1=>(bif(ltI (gn r1) 0)then(some [(.int (-1))])else(((callI tE Z6w [(.sl a3),(.int (gn r1))])).bind (fun r2=>(bif(ltI (gn r2) 0)then(some [(.int (-1))])else(some [(.int (gn r2))])))))))))):=(callI_run rfl (by kernel_rfl)).trans (by kernel_rfl)
noncomputable def Z5l (x0:Rows) (x1 x2:Int):Option (List Dat):=loopK tE Z6P 0 ⟨[(0,(.ro 87 Bool.false x0)),(1,(.i .i64 x1)),(5,(.i .i64 x2))],[]⟩
theorem Z6m (x0:Rows) (x1 x2:Int):Z5l x0 x1 x2=(bif(ltI x2 (lenI x0))then(bif(inR x2 (lenI x0))then(((callI tE Z72 [(.int (gn (at' x0 (tn x2)))),(.sl (gl (tk 1 (at' x0 (tn x2))))),(.sl (gl (tk 2 (at' x0 (tn x2))))),(.sl (gl (tk 3 (at' x0 (tn x2))))),(.int (gn (tk 4 (at' x0 (tn x2))))),(.int x1)])).bind (fun r0=>(bif(ltI (gn r0) 0)then(some [(.int (-1))])else(Z5l x0 (gn r0) (w64 (x2+1))))))else none)else(some [(.int x1)])):=(loopK_run (by kernel_rfl)).trans (by kernel_rfl)
theorem Z87 (a0:Rows) (a1:Int):callI tE Z6P [.sl a0,.int a1]=(bif(ltI (w64 (a1-(lenI a0))) 0)then(some [(.int (-1))])else(Z5l a0 (w64 (a1-(lenI a0))) 0)):=(callI_run rfl (by kernel_rfl)).trans (by kernel_rfl)
theorem Z7z (a0:Rows) (a1 a2 a3:Int):callI tE Z6b [.sl a0,.int a1,.int a2,.int a3]=(((callI tE Z6P [(.sl a0),(.int a3)])).bind (fun r0=>(bif(ltI (gn r0) 0)then(some [(.int (-1))])else(some [(.int (gn r0))])))):=(callI_run rfl (by kernel_rfl)).trans (by kernel_rfl)
theorem Z7g (a0:Rows) (a1 a2:Int):callI tE Z6C [.sl a0,.int a1,.int a2]=(((callI tE Z5N [(.sl a0),(.int a2)])).bind (fun r0=>(bif(ltI (gn r0) 0)then(some [(.int (-1))])else(some [(.int (gn r0))])))):=(callI_run rfl (by kernel_rfl)).trans (by kernel_rfl)
noncomputable def Z5O (x0:Rows) (x1 x2:Int):Option (List Dat):=loopK tE Z5h 0 ⟨[(0,(.ro 90 Bool.false x0)),(1,(.i .i64 x1)),(5,(.i .i64 x2))],[]⟩
theorem Z62 (x0:Rows) (x1 x2:Int):Z5O x0 x1 x2=(bif(ltI x2 (lenI x0))then(bif(inR x2 (lenI x0))then(((callI tE Z6C [(.sl (gl (at' x0 (tn x2)))),(.int (gn (tk 1 (at' x0 (tn x2))))),(.int x1)])).bind (fun r0=>(bif(ltI (gn r0) 0)then(some [(.int (-1))])else(Z5O x0 (gn r0) (w64 (x2+1))))))else none)else(some [(.int x1)])):=(loopK_run (by kernel_rfl)).trans (by kernel_rfl)
theorem Z7S (a0:Rows) (a1:Int):callI tE Z5h [.sl a0,.int a1]=(bif(ltI (w64 (a1-(lenI a0))) 0)then(some [(.int (-1))])else(Z5O a0 (w64 (a1-(lenI a0))) 0)):=(callI_run rfl (by kernel_rfl)).trans (by kernel_rfl)
theorem Z7T (a0:Rows) (a1:Int) (a2:Bool) (a3:Int):callI tE Z5z [.sl a0,.int a1,.bool a2,.int a3]=(((callI tE Z5h [(.sl a0),(.int a3)])).bind (fun r0=>(bif(ltI (gn r0) 0)then(some [(.int (-1))])else(some [(.int (gn r0))])))):=(callI_run rfl (by kernel_rfl)).trans (by kernel_rfl)
theorem Z8l (a0:Int) (a1:Rows) (a2:Int) (a3 a4 a5 a6:Rows) (a7 a8 a9 a10:Int) (a11:Rows) (a12 a13:Int) (a14:Rows) (a15:Int) (a16:Bool) (a17:Int):callI tE Z7P [.int a0,.sl a1,.int a2,.sl a3,.sl a4,.sl a5,.sl a6,.int a7,.int a8,.int a9,.int a10,.sl a11,.int a12,.int a13,.sl a14,.int a15,.bool a16,.int a17]=(((callI tE Z6a [(.sl a1),(.int a2),(.sl a3),(.sl a4),(.sl a5),(.sl a6),(.int a7),(.int a8),(.int a9),(.int a10),(.int a17)])).bind (fun r0=>(bif(ltI (gn r0) 0)then(some [(.int (-1))])else(((callI tE Z6b [(.sl a11),(.int a12),(.int a13),(.int (gn r0))])).bind (fun r1=>(bif(ltI (gn r1) 0)then(some [(.int (-1))])else(((callI tE Z5z [(.sl a14),(.int a15),(.bool a16),(.int (gn r1))])).bind (fun r2=>(bif(ltI (gn r2) 0)then(some [(.int (-1))])else(some [(.int (gn r2))])))))))))):=(callI_run rfl (by kernel_rfl)).trans (by kernel_rfl)
theorem Z7H (a0 a1:Rows):callI tE Z5r [.sl a0,.sl a1]=(((callI tE Z5V [(.sl a0)])).bind (fun r0=>(((callI tE Z5V [(.sl a1)])).bind (fun r1=>(some [(.int (w64 (4*(w64 ((gn r0)+(gn r1))))))]))))):=(callI_run rfl (by kernel_rfl)).trans (by kernel_rfl)
noncomputable def Z5P (x0:Rows) (x1:Int) (x2:Rows):Option (List Dat):=loopK tE Z5X 0 ⟨[(0,(.ro 93 Bool.false x0)),(3,(.own (500000,0))),(4,(.i .i64 x1))],[((500000,0),(.row 3 x2 Bool.true 0 []))]⟩
noncomputable def Za (x0:Rows) (x1:Int) (x2:Bool) (x3:Int) (x4:Rows):Option (List Dat):=loopK tE Z5X 1 ⟨[(0,(.ro 93 Bool.false x0)),(3,(.own (500000,0))),(4,(.i .i64 x1)),(5,(.b x2)),(6,(.i .i64 x3))],[((500000,0),(.row 3 x4 Bool.true 0 []))]⟩
theorem Z63 (x0:Rows) (x1:Int) (x2:Rows):Z5P x0 x1 x2=(bif(ltI x1 (lenI x0))then(Za x0 x1 Bool.false 0 x2)else(some [(.sl x2)])):=(loopK_run (by kernel_rfl)).trans (by kernel_rfl)
theorem Z64 (x0:Rows) (x1:Int) (x2:Bool) (x3:Int) (x4:Rows):Za x0 x1 x2 x3 x4=(bif(ltI x3 (lenI x4))then(bif x2 then(Za x0 x1 Bool.true (w64 (x3+1)) x4)else(bif(inR x3 (lenI x4))then(bif(inR x1 (lenI x0))then(Za x0 x1 (eqI (gn (at' x4 (tn x3))) (gn (at' x0 (tn x1)))) (w64 (x3+1)) x4)else none)else none))else(bif(!x2)then(bif(inR x1 (lenI x0))then(bif(fitM (Nat.succ (len x4)) 8)then(Z5P x0 (w64 (x1+1)) (List.append x4 [[(.int (gn (at' x0 (tn x1))))]]))else none)else none)else(Z5P x0 (w64 (x1+1)) x4))):=(loopK_run (by kernel_rfl)).trans (by kernel_rfl)
theorem Z7U (a0:Rows):callI tE Z5X [.sl a0]=(Z5P a0 0 []):=(callI_run rfl (by kernel_rfl)).trans (by kernel_rfl)
theorem Z77 (a0:Rows):callI tE Z5m [.sl a0]=(((callI tE Z5V [(.sl a0)])).bind (fun r0=>(((callI tE Z5X [(.sl a0)])).bind (fun r1=>(some [(.int (w64 ((gn r0)*(w64 ((w64 (Int.tdiv (lenI (gl r1)) 2))+1)))))]))))):=(callI_run rfl (by kernel_rfl)).trans (by kernel_rfl)
theorem Z8P (a0:Int) (a1 a2 a3:Rows) (a4:Int):callI tE Z73 [.int a0,.sl a1,.sl a2,.sl a3,.int a4]=(((callI tE Z5L [(.sl a1)])).bind (fun r0=>(((callI tE Z5L [(.sl a2)])).bind (fun r1=>(((callI tE Z6Q [(.sl a3)])).bind (fun r2=>(some [(.int a0),(.sl (gl r0)),(.sl (gl r1)),(.sl (gl r2)),(.int a4)]))))))):=(callI_run rfl (by kernel_rfl)).trans (by kernel_rfl)
noncomputable def Z5x (x0:Rows) (x1:Int) (x2:Rows):Option (List Dat):=loopK tE Z6R 0 ⟨[(0,(.ro 87 Bool.false x0)),(3,(.own (500000,0))),(4,(.i .i64 x1))],[((500000,0),(.row 58 x2 Bool.true 0 []))]⟩
theorem Z6n (x0:Rows) (x1:Int) (x2:Rows):Z5x x0 x1 x2=(bif(ltI x1 (lenI x0))then(bif(inR x1 (lenI x0))then(((callI tE Z73 [(.int (gn (at' x0 (tn x1)))),(.sl (gl (tk 1 (at' x0 (tn x1))))),(.sl (gl (tk 2 (at' x0 (tn x1))))),(.sl (gl (tk 3 (at' x0 (tn x1))))),(.int (gn (tk 4 (at' x0 (tn x1)))))])).bind (fun r0=>(bif(inR x1 (lenI x2))then(Z5x x0 (w64 (x1+1)) (updR x2 (tn x1) 0 [(.int (gn r0)),(.sl (gl (tk 1 r0))),(.sl (gl (tk 2 r0))),(.sl (gl (tk 3 r0))),(.int (gn (tk 4 r0)))]))else none)))else none)else(some [(.sl x2)])):=(loopK_run (by kernel_rfl)).trans (by kernel_rfl)
theorem Z88 (a0:Rows):callI tE Z6R [.sl a0]=(bif((leI 0 (lenI a0))&&((eqI (lenI a0) (lenI a0))&&(fitM (tn (lenI a0)) 88)))then(Z5x a0 0 (List.replicate (tn (lenI a0)) [(.int 0),(.sl []),(.sl []),(.sl []),(.int 0)]))else none):=(callI_run rfl (by kernel_rfl)).trans (by kernel_rfl)
theorem Z80 (a0:Rows) (a1 a2:Int):callI tE Z6e [.sl a0,.int a1,.int a2]=(((callI tE Z6R [(.sl a0)])).bind (fun r0=>(some [(.sl (gl r0)),(.int a1),(.int a2)]))):=(callI_run rfl (by kernel_rfl)).trans (by kernel_rfl)
theorem Z7h (a0:Rows) (a1:Int):callI tE Z6D [.sl a0,.int a1]=(((callI tE Z5L [(.sl a0)])).bind (fun r0=>(some [(.sl (gl r0)),(.int a1)]))):=(callI_run rfl (by kernel_rfl)).trans (by kernel_rfl)
noncomputable def Z5d (x0:Rows) (x1:Int) (x2:Rows):Option (List Dat):=loopK tE Z5i 0 ⟨[(0,(.ro 90 Bool.false x0)),(3,(.own (500000,0))),(4,(.i .i64 x1))],[((500000,0),(.row 60 x2 Bool.true 0 []))]⟩
theorem Z65 (x0:Rows) (x1:Int) (x2:Rows):Z5d x0 x1 x2=(bif(ltI x1 (lenI x0))then(bif(inR x1 (lenI x0))then(((callI tE Z6D [(.sl (gl (at' x0 (tn x1)))),(.int (gn (tk 1 (at' x0 (tn x1)))))])).bind (fun r0=>(bif(inR x1 (lenI x2))then(Z5d x0 (w64 (x1+1)) (updR x2 (tn x1) 0 [(.sl (gl r0)),(.int (gn (tk 1 r0)))]))else none)))else none)else(some [(.sl x2)])):=(loopK_run (by kernel_rfl)).trans (by kernel_rfl)
theorem Z7V (a0:Rows):callI tE Z5i [.sl a0]=(bif((leI 0 (lenI a0))&&((eqI (lenI a0) (lenI a0))&&(fitM (tn (lenI a0)) 32)))then(Z5d a0 0 (List.replicate (tn (lenI a0)) [(.sl []),(.int 0)]))else none):=(callI_run rfl (by kernel_rfl)).trans (by kernel_rfl)
theorem Z7W (a0:Rows) (a1:Int) (a2:Bool):callI tE Z60 [.sl a0,.int a1,.bool a2]=(((callI tE Z5i [(.sl a0)])).bind (fun r0=>(some [(.sl (gl r0)),(.int a1),(.bool a2)]))):=(callI_run rfl (by kernel_rfl)).trans (by kernel_rfl)
theorem Z8m (a0:Int) (a1:Rows) (a2:Int) (a3 a4 a5 a6:Rows) (a7 a8 a9 a10:Int) (a11:Rows) (a12 a13:Int) (a14:Rows) (a15:Int) (a16:Bool):callI tE Z6f [.int a0,.sl a1,.int a2,.sl a3,.sl a4,.sl a5,.sl a6,.int a7,.int a8,.int a9,.int a10,.sl a11,.int a12,.int a13,.sl a14,.int a15,.bool a16]=(((callI tE Z6d [(.sl a1),(.int a2),(.sl a3),(.sl a4),(.sl a5),(.sl a6),(.int a7),(.int a8),(.int a9),(.int a10)])).bind (fun r0=>(((callI tE Z6e [(.sl a11),(.int a12),(.int a13)])).bind (fun r1=>(((callI tE Z60 [(.sl a14),(.int a15),(.bool a16)])).bind (fun r2=>(some [(.int a0),(.sl (gl r0)),(.int (gn (tk 1 r0))),(.sl (gl (tk 2 r0))),(.sl (gl (tk 3 r0))),(.sl (gl (tk 4 r0))),(.sl (gl (tk 5 r0))),(.int (gn (tk 6 r0))),(.int (gn (tk 7 r0))),(.int (gn (tk 8 r0))),(.int (gn (tk 9 r0))),(.sl (gl r1)),(.int (gn (tk 1 r1))),(.int (gn (tk 2 r1))),(.sl (gl r2)),(.int (gn (tk 1 r2))),(.bool (gb (tk 2 r2)))]))))))):=(callI_run rfl (by kernel_rfl)).trans (by kernel_rfl)
theorem Z7I (a0 a1:Rows):callI tE Z5t [.sl a0,.sl a1]=(((callI tE Z5W [(.sl a0)])).bind (fun r0=>(((callI tE Z5W [(.sl a1)])).bind (fun r1=>(some [(.int (w64 (4*(w64 ((gn r0)+(gn r1))))))]))))):=(callI_run rfl (by kernel_rfl)).trans (by kernel_rfl)
noncomputable def Z5Q (x0:Int) (x1:Rows) (x2 x3:Int) (x4:Rows) (x5:List (Dat×Dat)):Option (List Dat):=loopK tE Z5j 0 ⟨[(3,(.own (500000,0))),(4,(.ptr (500001,0) x0 0)),(9,(.ro 93 Bool.false x1)),(10,(.i .i64 x2)),(11,(.i .i64 x3))],[((500000,0),(.row 3 x4 Bool.true 0 [])),((500001,0),(.mp (.int .i64) .bool x5))]⟩
theorem Z66 (x0:Int) (x1:Rows) (x2 x3:Int) (x4:Rows) (x5:List (Dat×Dat)):Z5Q x0 x1 x2 x3 x4 x5=(bif(ltI x3 x2)then(bif(inR x3 (lenI x1))then(bif(!(Dat.b (Option.getD (mfind (.int .i64) (.int (gn (at' x1 (tn x3)))) x5) (.bool Bool.false))))then(bif(fitM (Nat.succ (len x4)) 8)then(Z5Q x0 x1 x2 (w64 (x3+1)) (List.append x4 [[(.int (gn (at' x1 (tn x3))))]]) (mput (.int .i64) (.int (gn (at' x1 (tn x3)))) (.bool Bool.true) x5))else none)else(Z5Q x0 x1 x2 (w64 (x3+1)) x4 x5))else none)else(some [(.sl x4)])):=(loopK_run (by kernel_rfl)).trans (by kernel_rfl)
theorem Z7X (a0:Rows):callI tE Z5j [.sl a0]=(Z5Q 0 a0 (lenI a0) 0 [] []):=(callI_run rfl (by kernel_rfl)).trans (by kernel_rfl)
theorem Z78 (a0:Rows):callI tE Z5n [.sl a0]=(((callI tE Z5W [(.sl a0)])).bind (fun r0=>(((callI tE Z5j [(.sl a0)])).bind (fun r1=>(some [(.int (w64 ((gn r0)*(w64 (1+(w64 (Int.tdiv (lenI (gl r1)) 2)))))))]))))):=(callI_run rfl (by kernel_rfl)).trans (by kernel_rfl)
theorem Z8Q (a0:Int) (a1 a2 a3:Rows) (a4 a5:Int) (a6 a7 a8:Rows) (a9:Int):callI tE Z74 [.int a0,.sl a1,.sl a2,.sl a3,.int a4,.int a5,.sl a6,.sl a7,.sl a8,.int a9]=(bif(!(eqI a0 a5))then(some [(.bool Bool.false)])else(((callI tE Z5M [(.sl a1),(.sl a6)])).bind (fun r0=>(bif(!(gb r0))then(some [(.bool Bool.false)])else(((callI tE Z5M [(.sl a2),(.sl a7)])).bind (fun r1=>(bif(!(gb r1))then(some [(.bool Bool.false)])else(((callI tE Z6S [(.sl a3),(.sl a8)])).bind (fun r2=>(bif(!(gb r2))then(some [(.bool Bool.false)])else(bif(!(eqI a4 a9))then(some [(.bool Bool.false)])else(some [(.bool Bool.true)])))))))))))):=(callI_run rfl (by kernel_rfl)).trans (by kernel_rfl)
noncomputable def Z5y (x0 x1:Rows) (x2:Int):Option (List Dat):=loopK tE Z6T 0 ⟨[(0,(.ro 58 Bool.false x0)),(1,(.ro 58 Bool.false x1)),(5,(.i .i64 x2))],[]⟩
theorem Z6o (x0 x1:Rows) (x2:Int):Z5y x0 x1 x2=(bif(ltI x2 (lenI x0))then(bif(inR x2 (lenI x0))then(bif(inR x2 (lenI x1))then(((callI tE Z74 [(.int (gn (at' x0 (tn x2)))),(.sl (gl (tk 1 (at' x0 (tn x2))))),(.sl (gl (tk 2 (at' x0 (tn x2))))),(.sl (gl (tk 3 (at' x0 (tn x2))))),(.int (gn (tk 4 (at' x0 (tn x2))))),(.int (gn (at' x1 (tn x2)))),(.sl (gl (tk 1 (at' x1 (tn x2))))),(.sl (gl (tk 2 (at' x1 (tn x2))))),(.sl (gl (tk 3 (at' x1 (tn x2))))),(.int (gn (tk 4 (at' x1 (tn x2)))))])).bind (fun r0=>(bif(!(gb r0))then(some [(.bool Bool.false)])else(Z5y x0 x1 (w64 (x2+1))))))else none)else none)else(some [(.bool Bool.true)])):=(loopK_run (by kernel_rfl)).trans (by kernel_rfl)
theorem Z89 (a0 a1:Rows):callI tE Z6T [.sl a0,.sl a1]=(bif(!(eqI (lenI a0) (lenI a1)))then(some [(.bool Bool.false)])else(Z5y a0 a1 0)):=(callI_run rfl (by kernel_rfl)).trans (by kernel_rfl)
theorem Z81 (a0:Rows) (a1 a2:Int) (a3:Rows) (a4 a5:Int):callI tE Z6h [.sl a0,.int a1,.int a2,.sl a3,.int a4,.int a5]=(((callI tE Z6T [(.sl a0),(.sl a3)])).bind (fun r0=>(bif(!(gb r0))then(some [(.bool Bool.false)])else(bif(!(eqI a1 a4))then(some [(.bool Bool.false)])else(bif(!(eqI a2 a5))then(some [(.bool Bool.false)])else(some [(.bool Bool.true)])))))):=(callI_run rfl (by kernel_rfl)).trans (by kernel_rfl)
theorem Z7i (a0:Rows) (a1:Int) (a2:Rows) (a3:Int):callI tE Z6F [.sl a0,.int a1,.sl a2,.int a3]=(((callI tE Z5M [(.sl a0),(.sl a2)])).bind (fun r0=>(bif(!(gb r0))then(some [(.bool Bool.false)])else(bif(!(eqI a1 a3))then(some [(.bool Bool.false)])else(some [(.bool Bool.true)]))))):=(callI_run rfl (by kernel_rfl)).trans (by kernel_rfl)
noncomputable def Z5e (x0 x1:Rows) (x2:Int):Option (List Dat):=loopK tE Z5k 0 ⟨[(0,(.ro 60 Bool.false x0)),(1,(.ro 60 Bool.false x1)),(5,(.i .i64 x2))],[]⟩
theorem Z67 (x0 x1:Rows) (x2:Int):Z5e x0 x1 x2=(bif(ltI x2 (lenI x0))then(bif(inR x2 (lenI x0))then(bif(inR x2 (lenI x1))then(((callI tE Z6F [(.sl (gl (at' x0 (tn x2)))),(.int (gn (tk 1 (at' x0 (tn x2))))),(.sl (gl (at' x1 (tn x2)))),(.int (gn (tk 1 (at' x1 (tn x2)))))])).bind (fun r0=>(bif(!(gb r0))then(some [(.bool Bool.false)])else(Z5e x0 x1 (w64 (x2+1))))))else none)else none)else(some [(.bool Bool.true)])):=(loopK_run (by kernel_rfl)).trans (by kernel_rfl)
theorem Z7Y (a0 a1:Rows):callI tE Z5k [.sl a0,.sl a1]=(bif(!(eqI (lenI a0) (lenI a1)))then(some [(.bool Bool.false)])else(Z5e a0 a1 0)):=(callI_run rfl (by kernel_rfl)).trans (by kernel_rfl)
theorem Z7Z (a0:Rows) (a1:Int) (a2:Bool) (a3:Rows) (a4:Int) (a5:Bool):callI tE Z61 [.sl a0,.int a1,.bool a2,.sl a3,.int a4,.bool a5]=(((callI tE Z5k [(.sl a0),(.sl a3)])).bind (fun r0=>(bif(!(gb r0))then(some [(.bool Bool.false)])else(bif(!(eqI a1 a4))then(some [(.bool Bool.false)])else(bif(!(eqBo a2 a5))then(some [(.bool Bool.false)])else(some [(.bool Bool.true)])))))):=(callI_run rfl (by kernel_rfl)).trans (by kernel_rfl)
theorem Z8n (a0:Int) (a1:Rows) (a2:Int) (a3 a4 a5 a6:Rows) (a7 a8 a9 a10:Int) (a11:Rows) (a12 a13:Int) (a14:Rows) (a15:Int) (a16:Bool) (a17:Int) (a18:Rows) (a19:Int) (a20 a21 a22 a23:Rows) (a24 a25 a26 a27:Int) (a28:Rows) (a29 a30:Int) (a31:Rows) (a32:Int) (a33:Bool):callI tE Z7Q [.int a0,.sl a1,.int a2,.sl a3,.sl a4,.sl a5,.sl a6,.int a7,.int a8,.int a9,.int a10,.sl a11,.int a12,.int a13,.sl a14,.int a15,.bool a16,.int a17,.sl a18,.int a19,.sl a20,.sl a21,.sl a22,.sl a23,.int a24,.int a25,.int a26,.int a27,.sl a28,.int a29,.int a30,.sl a31,.int a32,.bool a33]=(bif(!(eqI a0 a17))then(some [(.bool Bool.false)])else(((callI tE Z6g [(.sl a1),(.int a2),(.sl a3),(.sl a4),(.sl a5),(.sl a6),(.int a7),(.int a8),(.int a9),(.int a10),(.sl a18),(.int a19),(.sl a20),(.sl a21),(.sl a22),(.sl a23),(.int a24),(.int a25),(.int a26),(.int a27)])).bind (fun r0=>(bif(!(gb r0))then(some [(.bool Bool.false)])else(((callI tE Z6h [(.sl a11),(.int a12),(.int a13),(.sl a28),(.int a29),(.int a30)])).bind (fun r1=>(bif(!(gb r1))then(some [(.bool Bool.false)])else(((callI tE Z61 [(.sl a14),(.int a15),(.bool a16),(.sl a31),(.int a32),(.bool a33)])).bind (fun r2=>(bif(!(gb r2))then(some [(.bool Bool.false)])else(some [(.bool Bool.true)]))))))))))):=(callI_run rfl (by kernel_rfl)).trans (by kernel_rfl)
noncomputable def Z5R (x0 x1 x2 x3:Int) (x4:Rows) (x5:Int) (x6 x7 x8 x9:Rows) (x10 x11 x12 x13:Int) (x14:Rows) (x15 x16:Int) (x17:Rows) (x18:Int) (x19:Bool):Option (List Dat):=loopK tE Z5Y 0 ⟨[(1,(.ptr (500000,0) x0 0)),(3,(.i .i64 x1)),(4,(.i .i64 x2))],[((500000,0),(.box 47 [(.i .i64 x3),(.ro 93 Bool.false x4),(.i .i64 x5),(.ro 93 Bool.false x6),(.ro 93 Bool.false x7),(.ro 93 Bool.false x8),(.ro 97 Bool.false x9),(.i .i64 x10),(.i .i64 x11),(.i .i64 x12),(.i .i64 x13),(.ro 58 Bool.false x14),(.i .i64 x15),(.i .i64 x16),(.ro 60 Bool.false x17),(.i .i64 x18),(.b x19)]))]⟩
noncomputable def Z5S (x0 x1 x2 x3:Int) (x4:Rows) (x5:Int) (x6 x7 x8 x9:Rows) (x10 x11 x12 x13:Int) (x14:Rows) (x15 x16:Int) (x17:Rows) (x18:Int) (x19:Bool):Option (List Dat):=loopK tE Z5Y 1 ⟨[(1,(.ptr (500000,0) x0 0)),(5,(.i .i64 x1)),(6,(.i .i64 x2))],[((500000,0),(.box 47 [(.i .i64 x3),(.ro 93 Bool.false x4),(.i .i64 x5),(.ro 93 Bool.false x6),(.ro 93 Bool.false x7),(.ro 93 Bool.false x8),(.ro 97 Bool.false x9),(.i .i64 x10),(.i .i64 x11),(.i .i64 x12),(.i .i64 x13),(.ro 58 Bool.false x14),(.i .i64 x15),(.i .i64 x16),(.ro 60 Bool.false x17),(.i .i64 x18),(.b x19)]))]⟩
theorem Z68 (x0 x1 x2 x3:Int) (x4:Rows) (x5:Int) (x6 x7 x8 x9:Rows) (x10 x11 x12 x13:Int) (x14:Rows) (x15 x16:Int) (x17:Rows) (x18:Int) (x19:Bool):Z5R x0 x1 x2 x3 x4 x5 x6 x7 x8 x9 x10 x11 x12 x13 x14 x15 x16 x17 x18 x19=(bif(ltI x2 (lenI x14))then(bif(inR x2 (lenI x14))then(bif(inR x2 (lenI x14))then(((callI tE Z5r [(.sl (gl (List.drop 1 (at' x14 (tn x2))))),(.sl (gl (List.drop 2 (at' x14 (tn x2)))))])).bind (fun r0=>(Z5R x0 (w64 (x1+(gn r0))) (w64 (x2+1)) x3 x4 x5 x6 x7 x8 x9 x10 x11 x12 x13 x14 x15 x16 x17 x18 x19)))else none)else none)else(some [(.int x1)])):=(loopK_run (by kernel_rfl)).trans (by kernel_rfl)
theorem Z69 (x0 x1 x2 x3:Int) (x4:Rows) (x5:Int) (x6 x7 x8 x9:Rows) (x10 x11 x12 x13:Int) (x14:Rows) (x15 x16:Int) (x17:Rows) (x18:Int) (x19:Bool):Z5S x0 x1 x2 x3 x4 x5 x6 x7 x8 x9 x10 x11 x12 x13 x14 x15 x16 x17 x18 x19=(bif(ltI x2 (lenI x17))then(bif(inR x2 (lenI x17))then(((callI tE Z5m [(.sl (gl (at' x17 (tn x2))))])).bind (fun r0=>(Z5S x0 (w64 (x1+(gn r0))) (w64 (x2+1)) x3 x4 x5 x6 x7 x8 x9 x10 x11 x12 x13 x14 x15 x16 x17 x18 x19)))else none)else(some [(.int x1)])):=(loopK_run (by kernel_rfl)).trans (by kernel_rfl)
theorem Z7a (a0:Int) (a1:Rows) (a2:Int) (a3 a4 a5 a6:Rows) (a7 a8 a9 a10:Int) (a11:Rows) (a12 a13:Int) (a14:Rows) (a15:Int) (a16:Bool):callI tE Z5Y [.int a0,.sl a1,.int a2,.sl a3,.sl a4,.sl a5,.sl a6,.int a7,.int a8,.int a9,.int a10,.sl a11,.int a12,.int a13,.sl a14,.int a15,.bool a16]=(bif(eqI a0 1)then(((callI tE Z5q [(.sl a1)])).bind (fun r0=>(some [(.int (gn r0))])))else(bif(eqI a0 2)then(Z5R 0 0 0 a0 a1 a2 a3 a4 a5 a6 a7 a8 a9 a10 a11 a12 a13 a14 a15 a16)else(bif(eqI a0 3)then(Z5S 0 0 0 a0 a1 a2 a3 a4 a5 a6 a7 a8 a9 a10 a11 a12 a13 a14 a15 a16)else(some [(.int 0)])))):=(callI_run rfl (by kernel_rfl)).trans (by kernel_rfl)
noncomputable def Z5T (x0:Int) (x1:Rows) (x2 x3:Int):Option (List Dat):=loopK tE Z5Z 0 ⟨[(3,(.i .i64 x0)),(20,(.ro 58 Bool.false x1)),(21,(.i .i64 x2)),(22,(.i .i64 x3))],[]⟩
noncomputable def Z5U (x0:Int) (x1:Rows) (x2 x3:Int):Option (List Dat):=loopK tE Z5Z 1 ⟨[(3,(.i .i64 x0)),(38,(.ro 60 Bool.false x1)),(39,(.i .i64 x2)),(40,(.i .i64 x3))],[]⟩
theorem Z6A (x0:Int) (x1:Rows) (x2 x3:Int):Z5T x0 x1 x2 x3=(bif(ltI x3 x2)then(bif(inR x3 (lenI x1))then(((callI tE Z5t [(.sl (gl (tk 1 (at' x1 (tn x3))))),(.sl (gl (tk 2 (at' x1 (tn x3)))))])).bind (fun r0=>(Z5T (w64 (x0+(gn r0))) x1 x2 (w64 (x3+1)))))else none)else(some [(.int x0)])):=(loopK_run (by kernel_rfl)).trans (by kernel_rfl)
theorem Z6B (x0:Int) (x1:Rows) (x2 x3:Int):Z5U x0 x1 x2 x3=(bif(ltI x3 x2)then(bif(inR x3 (lenI x1))then(((callI tE Z5n [(.sl (gl (at' x1 (tn x3))))])).bind (fun r0=>(Z5U (w64 (x0+(gn r0))) x1 x2 (w64 (x3+1)))))else none)else(some [(.int x0)])):=(loopK_run (by kernel_rfl)).trans (by kernel_rfl)
theorem Z7b (a0:Int) (a1:Rows) (a2:Int) (a3 a4 a5 a6:Rows) (a7 a8 a9 a10:Int) (a11:Rows) (a12 a13:Int) (a14:Rows) (a15:Int) (a16:Bool):callI tE Z5Z [.int a0,.sl a1,.int a2,.sl a3,.sl a4,.sl a5,.sl a6,.int a7,.int a8,.int a9,.int a10,.sl a11,.int a12,.int a13,.sl a14,.int a15,.bool a16]=(bif(eqI a0 1)then(((callI tE Z5s [(.sl a1)])).bind (fun r0=>(some [(.int (gn r0))])))else(bif(eqI a0 2)then(Z5T 0 a11 (lenI a11) 0)else(bif(eqI a0 3)then(Z5U 0 a14 (lenI a14) 0)else(some [(.int 0)])))):=(callI_run rfl (by kernel_rfl)).trans (by kernel_rfl)
set_option maxRecDepth 10000
def Jn.B2 (j:Jn):Prop:=j.sz≤1073741800
def Ag.B2 (j:Ag):Prop:=j.sz≤1073741800
def Opr.B2 (o:Opr):Prop:=o.sz≤1073741800
def Br.B (b:Br):Prop:=b.sz≤1073741824
def Sy.B2 (y:Sy):Prop:=y.sz≤1073741800
def Z8u:Nat→Int→Int→Int→Int
 |0,_,k,_=>k
 |f+1,n,k,x=>if x<n∧k<40 then Z8u f n (w64 (k+1)) (w64 (x*2))else k
def Z95 (n:Int):Int:=Z8u 41 n 0 1
theorem Z8B (n:Int):∀(f:Nat) (k x:Int),0≤k→k+f=41→Z5g n k x=some [.int (Z8u f n k x)]
 |0,k,x,h0,h=>by
  rw[Z6L,ltF (show(40:Int)≤k by omega),cond_false]
  cases ltI x n<;>rfl
 |f+1,k,x,h0,h=>by
  rw[Z6L]
  simp only[Z8u]
  by_cases h1:x<n
  ·by_cases h2:k<40
   ·rw[ltT h1,ltT h2,if_pos ⟨h1,h2⟩,cond_true,cond_true]
    have e:w64 (k+1)=k+1:=Z7t ⟨by omega,by omega⟩
    exact Z8B n f _ _ (by omega) (by rw[e];omega)
   ·rw[ltT h1,ltF (by omega),if_neg (fun q=>h2 q.2)];rfl
  ·rw[ltF (by omega),if_neg (fun q=>h1 q.1)];rfl
theorem Z9Y (n:Int):callI tE Z5p [.int n]=some [.int (Z95 n)]:=by rw[Z7f];exact Z8B n 41 0 1 (by omega) rfl
theorem Z8C (n:Int):∀(f:Nat) (k x:Int),0≤k→k+f=41→Z5f n k x=some [.int (Z8u f n k x)]
 |0,k,x,h0,h=>by
  rw[Z6J,ltF (show(40:Int)≤k by omega),cond_false]
  cases ltI x n<;>rfl
 |f+1,k,x,h0,h=>by
  rw[Z6J]
  simp only[Z8u]
  by_cases h1:x<n
  ·by_cases h2:k<40
   ·rw[ltT h1,ltT h2,if_pos ⟨h1,h2⟩,cond_true,cond_true]
    have e:w64 (k+1)=k+1:=Z7t ⟨by omega,by omega⟩
    exact Z8C n f _ _ (by omega) (by rw[e];omega)
   ·rw[ltT h1,ltF (by omega),if_neg (fun q=>h2 q.2)];rfl
  ·rw[ltF (by omega),if_neg (fun q=>h1 q.1)];rfl
theorem Z9Z (n:Int):callI tE Z5o [.int n]=some [.int (Z95 n)]:=by rw[Z7e];exact Z8C n 41 0 1 (by omega) rfl
theorem ZA4 {α:Type} {e:α→List Dat} {l:List α} {k:Nat} {a:α} (h:l[k]?=some a):at' (l.map e) k=e a:=by
 simp[List.getD_eq_getElem?_getD,h]
theorem ZA5 {α:Type} {e:α→List Dat} {l:List α} {k:Nat} {a:α} (h:l[k]?=some a):inR (k:Int) (lenI (l.map e))=true:=ZAD (List.getElem?_eq_some_iff.mp h).1
theorem Z96 (a:List Int) (k:Int):(Z7d a k).length≤a.length+1:=by
 unfold Z7d
 split
 ·omega
 ·simp
theorem Z8D:∀(l a:List Int),(l.foldl Z7d a).length≤a.length+l.length
 |[],a=>by simp
 |k::l,a=>by
  have:=Z8D l (Z7d a k)
  have:=Z96 a k
  simp only[List.foldl_cons,List.length_cons]
  omega
theorem Z9R (l:List Rw):(dks l).length≤l.length:=by
 have:=Z8D (l.map (·.k)) []
 simpa[dks]using this
def Z8f (k:Int):Dat×Dat:=(.int k,.bool true)
theorem Z97 (k:Int):∀ks:List Int,mfind (.int .i64) (.int k) (ks.map Z8f)=if k∈ks then some (.bool true)else none
 |[]=>rfl
 |a::ks=>by
  show(bif decide (k=a)then some (Dat.bool true)else mfind (.int .i64) (.int k) (ks.map Z8f))=_
  by_cases h:k=a
  ·rw[decide_eq_true h,cond_true,if_pos (by simp[h])]
  ·rw[decide_eq_false h,cond_false]
   have:=Z97 k ks
   rw[this]
   simp[h]
theorem Z9S (k:Int):∀ks:List Int,k∉ks→mput (.int .i64) (.int k) (.bool true) (ks.map Z8f)=(ks++[k]).map Z8f
 |[],_=>rfl
 |a::ks,h=>by
  simp only[List.mem_cons,not_or]at h
  show(bif decide (k=a)then(Dat.int k,Dat.bool true)::ks.map Z8f else Z8f a::mput (.int .i64) (.int k) (.bool true) (ks.map Z8f))=_
  rw[decide_eq_false h.1,cond_false]
  have:=Z9S k ks h.2
  rw[this]
  rfl
theorem Z8s (l:List Rw) (hl:l.length≤1073741824) (x0:Int):∀(v u:List Rw),l=u++v→
  Z5Q x0 (l.map Rw.e) (lenI (l.map Rw.e)) (u.length:Int) ((dks u).map Z8p) ((dks u).map Z8f)=some [.sl ((dks l).map Z8p)]
 |[],u,e=>by
  rw[List.append_nil]at e
  subst e
  rw[Z66,Z9F,cond_false]
 |r::v,u,e=>by
  have hul:u.length<l.length:=by rw[e];simp
  have ih:=Z8s l hl x0 v (u++[r]) (by rw[e];simp)
  rw[List.length_append,Z8r]at ih
  simp only[List.length_cons,List.length_nil,Nat.zero_add]at ih
  have h1:ltI (u.length:Int) (lenI (l.map Rw.e))=true:=by rw[e];exact Z9E u v r
  have h2:at' (l.map Rw.e) u.length=r.e:=by rw[e];exact Z9P u v r
  have h3:inR (u.length:Int) (lenI (l.map Rw.e))=true:=by rw[e];exact Z9Q u v r
  have hd:=Z9R u
  rw[Z66,h1,h3,Z7s,h2,Z7q (by omega)]
  simp only[cond_true,Rw.e,gA,Z97,Z8x]
  by_cases hm:r.k∈dks u
  ·have e2:Z7d (dks u) r.k=dks u:=by unfold Z7d;rw[if_pos hm]
   rw[e2]at ih
   rw[if_pos hm]
   simp only[Option.getD_some,Dat.b,Bool.not_true,cond_false,ih]
  ·have e2:Z7d (dks u) r.k=dks u++[r.k]:=by unfold Z7d;rw[if_neg hm]
   rw[e2]at ih
   rw[if_neg hm,Z9S _ _ hm,Z9U (by omega)]
   simp only[Option.getD_none,Dat.b,Bool.not_false,cond_true]
   rw[List.map_append]at ih
   exact ih
theorem ZAE (l:List Rw) (hl:l.length≤1073741824):callI tE Z5j [.sl (l.map Rw.e)]=some [.sl ((dks l).map Z8p)]:=by
 rw[Z7X];exact Z8s l hl 0 l [] rfl
theorem Z9T {l:List Rw} {i:Nat} {r:Rw} (hr:l[i]?=some r) {D:List Int} (hD:D.length≤1073741824):∀(b a:List Int) (m:Bool),D=a++b→
  Za (l.map Rw.e) (i:Int) m (a.length:Int) (D.map Z8p)=Za (l.map Rw.e) (i:Int) (m||decide (r.k∈b)) (D.length:Int) (D.map Z8p)
 |[],a,m,e=>by
  rw[List.append_nil]at e
  subst e
  simp
 |k::b,a,m,e=>by
  have hal:a.length<D.length:=by rw[e];simp
  have ih:=fun m=>Z9T hr hD b (a++[k]) m (by rw[e];simp)
  simp only[List.length_append,List.length_cons,List.length_nil,Nat.zero_add]at ih
  have h1:ltI (a.length:Int) (lenI (D.map Z8p))=true:=by rw[e];exact Z9E a b k
  have h2:at' (D.map Z8p) a.length=Z8p k:=by rw[e];exact Z9P a b k
  have h3:inR (a.length:Int) (lenI (D.map Z8p))=true:=by rw[e];exact Z9Q a b k
  rw[Z64,h1,cond_true]
  cases m with
  |true=>
   rw[cond_true,Z7q (by omega),ih]
   simp
  |false=>
   rw[cond_false,h3,ZA5 hr,Z7s,Z7s,h2,ZA4 hr,Z7q (i:=a.length) (by omega)]
   simp only[cond_true,Z8p,Rw.e,gA]
   rw[ih]
   by_cases h:k=r.k
   ·rw[eqT h];simp[h]
   ·rw[eqF h];simp[Ne.symm h]
theorem Z8t (l:List Rw) (hl:l.length≤1073741824):∀(v u:List Rw),l=u++v→
  Z5P (l.map Rw.e) (u.length:Int) ((dks u).map Z8p)=some [.sl ((dks l).map Z8p)]
 |[],u,e=>by
  rw[List.append_nil]at e
  subst e
  rw[Z63,Z9F,cond_false]
 |r::v,u,e=>by
  have hul:u.length<l.length:=by rw[e];simp
  have ih:=Z8t l hl v (u++[r]) (by rw[e];simp)
  rw[List.length_append,Z8r]at ih
  simp only[List.length_cons,List.length_nil,Nat.zero_add]at ih
  have h1:ltI (u.length:Int) (lenI (l.map Rw.e))=true:=by rw[e];exact Z9E u v r
  have hr:l[u.length]?=some r:=by rw[e];simp
  have hd:=Z9R u
  rw[Z63,h1,cond_true,show Za (l.map Rw.e) (u.length:Int) false 0 ((dks u).map Z8p)=_ from Z9T hr (by omega) (dks u) [] false rfl]
  rw[Z64,Z9F,cond_false,ZA5 hr,Z7s,ZA4 hr,Z7q (by omega),Z8x,Z9U (by omega)]
  simp only[cond_true,Rw.e,gA,Bool.false_or]
  by_cases hm:r.k∈dks u
  ·have e2:Z7d (dks u) r.k=dks u:=by unfold Z7d;rw[if_pos hm]
   rw[e2]at ih
   rw[decide_eq_true hm]
   exact ih
  ·have e2:Z7d (dks u) r.k=dks u++[r.k]:=by unfold Z7d;rw[if_neg hm]
   rw[e2,List.map_append]at ih
   rw[decide_eq_false hm]
   exact ih
theorem ZAF (l:List Rw) (hl:l.length≤1073741824):callI tE Z5X [.sl (l.map Rw.e)]=some [.sl ((dks l).map Z8p)]:=by
 rw[Z7U];exact Z8t l hl l [] rfl
def gwB (l:List Rw):Int:=w64 ((Z6l l:Int)*w64 (w64 (Int.tdiv ((dks l).length:Int) 2)+1))
def jwB (a b:List Rw):Int:=w64 (4*w64 ((Z6l a:Int)+(Z6l b:Int)))
def swB (l:List Rw):Int:=w64 ((Z6l l:Int)*w64 (Z95 (l.length:Int)+2))
theorem ZAG (l:List Rw) (hl:l.length≤1073741824):callI tE Z5n [.sl (l.map Rw.e)]=some [.int (gwB l)]:=by
 rw[Z78,Z7N l (by omega),ZAE l hl]
 simp only[gA,Z6Z]
 rw[Int.add_comm 1];rfl
theorem ZAH (l:List Rw) (hl:l.length≤1073741824):callI tE Z5m [.sl (l.map Rw.e)]=some [.int (gwB l)]:=by
 rw[Z77,Z7O l (by omega),ZAF l hl]
 simp only[gA,Z6Z];rfl
theorem ZAI (a b:List Rw) (ha:a.length≤1073741824) (hb:b.length≤1073741824):callI tE Z5t [.sl (a.map Rw.e),.sl (b.map Rw.e)]=some [.int (jwB a b)]:=by
 rw[Z7I,Z7N a (by omega),Z7N b (by omega)];rfl
theorem ZAJ (a b:List Rw) (ha:a.length≤1073741824) (hb:b.length≤1073741824):callI tE Z5r [.sl (a.map Rw.e),.sl (b.map Rw.e)]=some [.int (jwB a b)]:=by
 rw[Z7H,Z7O a (by omega),Z7O b (by omega)];rfl
theorem ZAK (l:List Rw) (hl:l.length≤1073741824):callI tE Z5s [.sl (l.map Rw.e)]=some [.int (swB l)]:=by
 rw[Z7G,Z7N l (by omega),Z6Z,Z9Y];rfl
theorem ZAL (l:List Rw) (hl:l.length≤1073741824):callI tE Z5q [.sl (l.map Rw.e)]=some [.int (swB l)]:=by
 rw[Z7F,Z7O l (by omega),Z6Z,Z9Z];rfl
def jwL:Int→List Tk→Int
 |n,[]=>n
 |n,x::l=>jwL (w64 (n+jwB x.left x.right)) l
def gwL:Int→List Gt→Int
 |n,[]=>n
 |n,x::l=>gwL (w64 (n+gwB x.rows)) l
def Z9w (o:Opr):Int:=bif eqI o.kind 1 then swB o.so.inp else bif eqI o.kind 2 then jwL 0 o.jn.pend else bif eqI o.kind 3 then gwL 0 o.ag.pend else 0
theorem iW0 {l:List Tk} (hl:l.length≤1073741824) (hb:∀x∈l,x.left.length≤1073741824∧x.right.length≤1073741824):∀(v u:List Tk) (n:Int),l=u++v→Z5T n (l.map Tk.e) (lenI (l.map Tk.e)) (u.length:Int)=some [.int (jwL n v)]
 |[],u,n,e=>by
  rw[List.append_nil]at e
  subst e
  rw[Z6A,Z9F,cond_false];rfl
 |x::v,u,n,e=>by
  have hul:u.length<l.length:=by rw[e];simp
  have hx:=hb x (by rw[e];simp)
  have ih:=fun n=>iW0 hl hb v (u++[x]) n (by rw[e];simp)
  simp only[List.length_append,List.length_cons,List.length_nil,Nat.zero_add]at ih
  have h1:ltI (u.length:Int) (lenI (l.map Tk.e))=true:=by rw[e];exact Z9E u v x
  have h2:at' (l.map Tk.e) u.length=x.e:=by rw[e];exact Z9P u v x
  have h3:inR (u.length:Int) (lenI (l.map Tk.e))=true:=by rw[e];exact Z9Q u v x
  rw[Z6A,h1,h3,Z7s,h2,Z7q (by omega)]
  simp only[cond_true,Tk.e,gA,ZAI x.left x.right hx.1 hx.2,ih];rfl
theorem iW1 {l:List Gt} (hl:l.length≤1073741824) (hb:∀x∈l,x.rows.length≤1073741824):∀(v u:List Gt) (n:Int),l=u++v→Z5U n (l.map Gt.e) (lenI (l.map Gt.e)) (u.length:Int)=some [.int (gwL n v)]
 |[],u,n,e=>by
  rw[List.append_nil]at e
  subst e
  rw[Z6B,Z9F,cond_false];rfl
 |x::v,u,n,e=>by
  have hul:u.length<l.length:=by rw[e];simp
  have hx:=hb x (by rw[e];simp)
  have ih:=fun n=>iW1 hl hb v (u++[x]) n (by rw[e];simp)
  simp only[List.length_append,List.length_cons,List.length_nil,Nat.zero_add]at ih
  have h1:ltI (u.length:Int) (lenI (l.map Gt.e))=true:=by rw[e];exact Z9E u v x
  have h2:at' (l.map Gt.e) u.length=x.e:=by rw[e];exact Z9P u v x
  have h3:inR (u.length:Int) (lenI (l.map Gt.e))=true:=by rw[e];exact Z9Q u v x
  rw[Z6B,h1,h3,Z7s,h2,Z7q (by omega)]
  simp only[cond_true,Gt.e,gA,ZAG x.rows hx,ih];rfl
theorem sW0 {o:Opr} {l:List Tk} (ho:o.jn.pend=l) (hl:l.length≤1073741824) (hb:∀x∈l,x.left.length≤1073741824∧x.right.length≤1073741824):∀(v u:List Tk) (n:Int),l=u++v→Z5R 0 n (u.length:Int) o.kind (o.so.inp.map Rw.e) o.so.pos (o.so.heap.map Rw.e) (o.so.dfd.map Rw.e) (o.so.out.map Rw.e) (o.so.runs.map rsE) o.so.lp o.so.rp o.so.ph o.so.wr (l.map Tk.e) o.jn.wr o.jn.parts (o.ag.pend.map Gt.e) o.ag.wr o.ag.early=some [.int (jwL n v)]
 |[],u,n,e=>by
  rw[List.append_nil]at e
  rw[Z68,show ltI (u.length:Int) (lenI (l.map Tk.e))=false by rw[e];exact Z9F u,cond_false];rfl
 |x::v,u,n,e=>by
  have hul:u.length<l.length:=by rw[e];simp
  have hx:=hb x (by rw[e];simp)
  have ih:=fun n=>sW0 ho hl hb v (u++[x]) n (by rw[e];simp)
  simp only[List.length_append,List.length_cons,List.length_nil,Nat.zero_add]at ih
  have h1:ltI (u.length:Int) (lenI (l.map Tk.e))=true:=by rw[e];exact Z9E u v x
  have h2:at' (l.map Tk.e) u.length=x.e:=by rw[e];exact Z9P u v x
  have h3:inR (u.length:Int) (lenI (l.map Tk.e))=true:=by rw[e];exact Z9Q u v x
  rw[Z68,h1,h3,Z7s,h2,Z7q (by omega)]
  simp only[cond_true,Tk.e,gA,ZAJ x.left x.right hx.1 hx.2,ih];rfl
theorem sW1 {o:Opr} {l:List Gt} (ho:o.ag.pend=l) (hl:l.length≤1073741824) (hb:∀x∈l,x.rows.length≤1073741824):∀(v u:List Gt) (n:Int),l=u++v→Z5S 0 n (u.length:Int) o.kind (o.so.inp.map Rw.e) o.so.pos (o.so.heap.map Rw.e) (o.so.dfd.map Rw.e) (o.so.out.map Rw.e) (o.so.runs.map rsE) o.so.lp o.so.rp o.so.ph o.so.wr (o.jn.pend.map Tk.e) o.jn.wr o.jn.parts (l.map Gt.e) o.ag.wr o.ag.early=some [.int (gwL n v)]
 |[],u,n,e=>by
  rw[List.append_nil]at e
  rw[Z69,show ltI (u.length:Int) (lenI (l.map Gt.e))=false by rw[e];exact Z9F u,cond_false];rfl
 |x::v,u,n,e=>by
  have hul:u.length<l.length:=by rw[e];simp
  have hx:=hb x (by rw[e];simp)
  have ih:=fun n=>sW1 ho hl hb v (u++[x]) n (by rw[e];simp)
  simp only[List.length_append,List.length_cons,List.length_nil,Nat.zero_add]at ih
  have h1:ltI (u.length:Int) (lenI (l.map Gt.e))=true:=by rw[e];exact Z9E u v x
  have h2:at' (l.map Gt.e) u.length=x.e:=by rw[e];exact Z9P u v x
  have h3:inR (u.length:Int) (lenI (l.map Gt.e))=true:=by rw[e];exact Z9Q u v x
  rw[Z69,h1,h3,Z7s,h2,Z7q (by omega)]
  simp only[cond_true,Gt.e,gA,ZAH x.rows hx,ih];rfl
theorem Z9m {j:Jn} (h:j.sz≤1073741800):j.pend.length≤1073741824∧∀x∈j.pend,x.left.length≤1073741824∧x.right.length≤1073741824:=by
 have hl:=Z75 Tk.sz j.pend
 have h:szL Tk.sz j.pend≤1073741800:=h
 refine⟨by omega,fun x hx=>?_⟩
 have:=Z76 (f:=Tk.sz) hx
 simp only[Tk.sz]at this
 omega
theorem Z9n {j:Ag} (h:j.sz≤1073741800):j.pend.length≤1073741824∧∀x∈j.pend,x.rows.length≤1073741824:=by
 have hl:=Z75 Gt.sz j.pend
 have h:szL Gt.sz j.pend≤1073741800:=h
 refine⟨by omega,fun x hx=>?_⟩
 have:=Z76 (f:=Gt.sz) hx
 simp only[Gt.sz]at this
 omega
theorem Z9y (o:Opr) (h:o.sz≤1073741800):callI tE Z5Z o.e=some [.int (Z9w o)]:=by
 have h:o.so.sz+(o.jn.sz+o.ag.sz)≤1073741800:=h
 have j:=Z9m (j:=o.jn) (by omega)
 have g:=Z9n (j:=o.ag) (by omega)
 have s:o.so.inp.length≤1073741824:=by
  have:o.so.inp.length≤o.so.sz:=by simp only[So.sz];omega
  omega
 unfold Opr.e Z9w
 rw[Z7b]
 simp only[ZAK o.so.inp s,gA]
 rw[show Z5T 0 (o.jn.pend.map Tk.e) (lenI (o.jn.pend.map Tk.e)) 0=_ from iW0 j.1 j.2 o.jn.pend [] 0 rfl,show Z5U 0 (o.ag.pend.map Gt.e) (lenI (o.ag.pend.map Gt.e)) 0=_ from iW1 g.1 g.2 o.ag.pend [] 0 rfl]
 cases eqI o.kind 1<;>cases eqI o.kind 2<;>cases eqI o.kind 3<;>rfl
theorem Z9z (o:Opr) (h:o.sz≤1073741800):callI tE Z5Y o.e=some [.int (Z9w o)]:=by
 have h:o.so.sz+(o.jn.sz+o.ag.sz)≤1073741800:=h
 have j:=Z9m (j:=o.jn) (by omega)
 have g:=Z9n (j:=o.ag) (by omega)
 have s:o.so.inp.length≤1073741824:=by
  have:o.so.inp.length≤o.so.sz:=by simp only[So.sz];omega
  omega
 unfold Opr.e Z9w
 rw[Z7a]
 simp only[ZAL o.so.inp s,gA]
 rw[show Z5R 0 0 0 o.kind (o.so.inp.map Rw.e) o.so.pos (o.so.heap.map Rw.e) (o.so.dfd.map Rw.e) (o.so.out.map Rw.e) (o.so.runs.map rsE) o.so.lp o.so.rp o.so.ph o.so.wr (o.jn.pend.map Tk.e) o.jn.wr o.jn.parts (o.ag.pend.map Gt.e) o.ag.wr o.ag.early=_ from sW0 (o:=o) rfl j.1 j.2 o.jn.pend [] 0 rfl,
  show Z5S 0 0 0 o.kind (o.so.inp.map Rw.e) o.so.pos (o.so.heap.map Rw.e) (o.so.dfd.map Rw.e) (o.so.out.map Rw.e) (o.so.runs.map rsE) o.so.lp o.so.rp o.so.ph o.so.wr (o.jn.pend.map Tk.e) o.jn.wr o.jn.parts (o.ag.pend.map Gt.e) o.ag.wr o.ag.early=_ from sW1 (o:=o) rfl g.1 g.2 o.ag.pend [] 0 rfl]
 cases eqI o.kind 1<;>cases eqI o.kind 2<;>cases eqI o.kind 3<;>rfl
theorem Z7r {α:Type} {e:α→List Dat} {p:α→Prop} {t:TypeId} {te:TI} (ht:tE.T t=some te) (hp:0<te.by_) (hE:∀{ds:List Dat},OkDs tE te.ls ds→∃x,ds=e x∧p x) {d:Dat} (h:OkD tE (.sl t) d):∃l:List α,d=.sl (l.map e)∧BdL p l:=by
 obtain⟨rows,rfl,hn,hr⟩:=h.sl' ht
 have key:∀rows:Rows,(∀r∈rows,OkDs tE te.ls r)→∃l:List α,rows=l.map e∧∀a∈l,p a:=by
  intro rows
  induction rows with
  |nil=>intro _;exact⟨[],rfl,fun a ha=>by cases ha⟩
  |cons r rows ih=>
   intro hr
   obtain⟨l,h1,h2⟩:=ih (fun q hq=>hr q (List.mem_cons_of_mem _ hq))
   obtain⟨x,h3,h4⟩:=hE (hr r (by simp))
   exact⟨x::l,by rw[h1,h3];rfl,fun a ha=>(List.mem_cons.mp ha).elim (fun e=>e▸h4) (h2 a)⟩
 obtain⟨l,h1,h2⟩:=key rows hr
 refine⟨l,by rw[h1],?_,h2⟩
 have:rows.length=l.length:=by rw[h1];simp
 have h3:rows.length≤reachBytes:=Nat.le_trans (Nat.le_mul_of_pos_right _ hp) hn
 have h4:reachBytes≤1152921504606846976:=by decide
 omega
theorem OkDs.split {ls1 ls2:List Leaf} {ds:List Dat} (h:OkDs tE (ls1++ls2) ds):∃d1 d2,ds=d1++d2∧OkDs tE ls1 d1∧OkDs tE ls2 d2:=by
 induction ls1 generalizing ds with
 |nil=>exact⟨[],ds,rfl,.nil,h⟩
 |cons l ls ih=>
  obtain⟨d,r,rfl,h1,h2⟩:=h.inv
  obtain⟨d1,d2,rfl,h3,h4⟩:=ih h2
  exact⟨d::d1,d2,rfl,.cons _ _ _ _ h1 h3,h4⟩
theorem Z9a {ds:List Dat} (h:OkDs tE [.bool] ds):∃n,ds=boE n∧BdT n:=by
 obtain⟨_,_,rfl,i,h⟩:=h.inv
 obtain rfl:=h.nil_inv
 obtain⟨n,rfl⟩:=i.bool'
 exact⟨n,rfl,trivial⟩
theorem Z7n {ds:List Dat} (h:OkDs tE [.int .i64,.int .i64,.int .i64] ds):∃x:Rw,ds=Rw.e x∧Rw.bd x:=by
 obtain⟨_,_,rfl,i0,h⟩:=h.inv
 obtain⟨_,_,rfl,i1,h⟩:=h.inv
 obtain⟨_,_,rfl,i2,h⟩:=h.inv
 obtain rfl:=h.nil_inv
 obtain⟨n0,rfl,j0⟩:=i0.i64
 obtain⟨n1,rfl,j1⟩:=i1.i64
 obtain⟨n2,rfl,j2⟩:=i2.i64
 exact⟨⟨n0,n1,n2⟩,rfl,⟨j0,j1,j2⟩⟩
theorem Z9b {ds:List Dat} (h:OkDs tE [.int .i64,.sl 95,.sl 95,.sl 4,.int .i64] ds):∃x:Tk,ds=Tk.e x∧Tk.bd x:=by
 obtain⟨_,_,rfl,i0,h⟩:=h.inv
 obtain⟨_,_,rfl,i1,h⟩:=h.inv
 obtain⟨_,_,rfl,i2,h⟩:=h.inv
 obtain⟨_,_,rfl,i3,h⟩:=h.inv
 obtain⟨_,_,rfl,i4,h⟩:=h.inv
 obtain rfl:=h.nil_inv
 obtain⟨n0,rfl,j0⟩:=i0.i64
 obtain⟨n1,rfl,j1⟩:=Z7r (te:=⟨[.int .i64,.int .i64,.int .i64],24,true,[(0,3),(1,3),(2,3)]⟩) rfl (by decide) Z7n i1
 obtain⟨n2,rfl,j2⟩:=Z7r (te:=⟨[.int .i64,.int .i64,.int .i64],24,true,[(0,3),(1,3),(2,3)]⟩) rfl (by decide) Z7n i2
 obtain⟨n3,rfl,j3⟩:=Z7r (te:=⟨[.bool],1,false,[]⟩) rfl (by decide) Z9a i3
 obtain⟨n4,rfl,j4⟩:=i4.i64
 exact⟨⟨n0,n1,n2,n3,n4⟩,rfl,⟨j0,j1,j2,j3,j4⟩⟩
theorem Z8g {ds:List Dat} (h:OkDs tE [.sl 95,.int .i64] ds):∃x:Gt,ds=Gt.e x∧Gt.bd x:=by
 obtain⟨_,_,rfl,i0,h⟩:=h.inv
 obtain⟨_,_,rfl,i1,h⟩:=h.inv
 obtain rfl:=h.nil_inv
 obtain⟨n0,rfl,j0⟩:=Z7r (te:=⟨[.int .i64,.int .i64,.int .i64],24,true,[(0,3),(1,3),(2,3)]⟩) rfl (by decide) Z7n i0
 obtain⟨n1,rfl,j1⟩:=i1.i64
 exact⟨⟨n0,n1⟩,rfl,⟨j0,j1⟩⟩
theorem Z9o {ds:List Dat} (h:OkDs tE [.sl 95] ds):∃x:List Rw,ds=rsE x∧rsB x:=by
 obtain⟨_,_,rfl,i0,h⟩:=h.inv
 obtain rfl:=h.nil_inv
 obtain⟨n0,rfl,j0⟩:=Z7r (te:=⟨[.int .i64,.int .i64,.int .i64],24,true,[(0,3),(1,3),(2,3)]⟩) rfl (by decide) Z7n i0
 exact⟨n0,rfl,j0⟩
theorem ZA0 {ds:List Dat} (h:OkDs tE [.int .i64,.sl 95,.int .i64,.sl 95,.sl 95,.sl 95,.sl 84,.int .i64,.int .i64,.int .i64,.int .i64,.sl 87,.int .i64,.int .i64,.sl 90,.int .i64,.bool] ds):∃x:Opr,ds=Opr.e x∧Opr.bd x:=by
 obtain⟨_,_,rfl,i0,h⟩:=h.inv
 obtain⟨_,_,rfl,i1,h⟩:=h.inv
 obtain⟨_,_,rfl,i2,h⟩:=h.inv
 obtain⟨_,_,rfl,i3,h⟩:=h.inv
 obtain⟨_,_,rfl,i4,h⟩:=h.inv
 obtain⟨_,_,rfl,i5,h⟩:=h.inv
 obtain⟨_,_,rfl,i6,h⟩:=h.inv
 obtain⟨_,_,rfl,i7,h⟩:=h.inv
 obtain⟨_,_,rfl,i8,h⟩:=h.inv
 obtain⟨_,_,rfl,i9,h⟩:=h.inv
 obtain⟨_,_,rfl,i10,h⟩:=h.inv
 obtain⟨_,_,rfl,i11,h⟩:=h.inv
 obtain⟨_,_,rfl,i12,h⟩:=h.inv
 obtain⟨_,_,rfl,i13,h⟩:=h.inv
 obtain⟨_,_,rfl,i14,h⟩:=h.inv
 obtain⟨_,_,rfl,i15,h⟩:=h.inv
 obtain⟨_,_,rfl,i16,h⟩:=h.inv
 obtain rfl:=h.nil_inv
 obtain⟨n0,rfl,j0⟩:=i0.i64
 obtain⟨n1,rfl,j1⟩:=Z7r (te:=⟨[.int .i64,.int .i64,.int .i64],24,true,[(0,3),(1,3),(2,3)]⟩) rfl (by decide) Z7n i1
 obtain⟨n2,rfl,j2⟩:=i2.i64
 obtain⟨n3,rfl,j3⟩:=Z7r (te:=⟨[.int .i64,.int .i64,.int .i64],24,true,[(0,3),(1,3),(2,3)]⟩) rfl (by decide) Z7n i3
 obtain⟨n4,rfl,j4⟩:=Z7r (te:=⟨[.int .i64,.int .i64,.int .i64],24,true,[(0,3),(1,3),(2,3)]⟩) rfl (by decide) Z7n i4
 obtain⟨n5,rfl,j5⟩:=Z7r (te:=⟨[.int .i64,.int .i64,.int .i64],24,true,[(0,3),(1,3),(2,3)]⟩) rfl (by decide) Z7n i5
 obtain⟨n6,rfl,j6⟩:=Z7r (te:=⟨[.sl 95],24,true,[(0,22)]⟩) rfl (by decide) Z9o i6
 obtain⟨n7,rfl,j7⟩:=i7.i64
 obtain⟨n8,rfl,j8⟩:=i8.i64
 obtain⟨n9,rfl,j9⟩:=i9.i64
 obtain⟨n10,rfl,j10⟩:=i10.i64
 obtain⟨n11,rfl,j11⟩:=Z7r (te:=⟨[.int .i64,.sl 95,.sl 95,.sl 4,.int .i64],88,true,[(0,3),(1,22),(2,22),(3,56),(4,3)]⟩) rfl (by decide) Z9b i11
 obtain⟨n12,rfl,j12⟩:=i12.i64
 obtain⟨n13,rfl,j13⟩:=i13.i64
 obtain⟨n14,rfl,j14⟩:=Z7r (te:=⟨[.sl 95,.int .i64],32,true,[(0,22),(1,3)]⟩) rfl (by decide) Z8g i14
 obtain⟨n15,rfl,j15⟩:=i15.i64
 obtain⟨n16,rfl⟩:=i16.bool'
 exact⟨⟨n0,⟨n1,n2,n3,n4,n5,n6,n7,n8,n9,n10⟩,⟨n11,n12,n13⟩,⟨n14,n15,n16⟩⟩,rfl,⟨j0,⟨j1,j2,j3,j4,j5,j6,j7,j8,j9,j10⟩,⟨j11,j12,j13⟩,⟨j14,j15,trivial⟩⟩⟩
theorem Z9p (x:Rw):callI tE Z7A [.int x.k,.int x.v,.int x.w]=some [.int x.k,.int x.v,.int x.w]:=by
 simp only[Z8X,gA]
theorem Z7J (l:List Rw) (h:l.length≤1048576):callI tE Z5L [.sl (l.map Rw.e)]=some [.sl (l.map Rw.e)]:=by
 have hl:l.length≤1048576:=h
 rw[Z8F]
 have:=Z7l (L:=Z6G) (e:=Rw.e) (z:=[.int 0,.int 0,.int 0]) (P:=fun a=>(fun _=>0) a≤1048576) (fun p q p' q' a _ hpl hlt=>by
  rw[Z6q]
  simp only[Z70,Z6s,Z7s,Z6k,cond_true,cond_false,gA,Z6z hpl,Z7c hpl,Rw.e,Z9p a,setRange,List.set_cons_zero,List.set_cons_succ]) (fun p p' hpl=>by
  rw[Z6q,Z71,cond_false]) l [] [] rfl (fun a ha=>Nat.zero_le _) (by simp;omega)
 simp only[List.nil_append,List.length_nil,Int.ofNat_zero,Int.natCast_zero]at this
 rw[Z7v,Z7M,Z9U (by show(l.map Rw.e).length*_≤_;rw[List.length_map];omega)]
 simp only[Bool.and_self,cond_true]
 rw[show tn (lenI (l.map Rw.e))=l.length by show(l.map Rw.e).length=_;simp]
 exact this
theorem Z7K (l:List Rw) (n:Int) (h0:0≤n) (h1:n≤1048576) (h:BdL Rw.bd l):callI tE Z5N [.sl (l.map Rw.e),.int n]=some [.int (szv n l.length)]:=by
 rw[Z8E]
 exact Z8v h0 h1 (by simp) h.1
theorem Z9q (x y:Rw):callI tE Z7C [.int x.k,.int x.v,.int x.w,.int y.k,.int y.v,.int y.w]=some [.bool (decide (x=y))]:=by
 have e:decide (x=y)=(decide (x.k=y.k)&&(decide (x.v=y.v)&&(decide (x.w=y.w)))):=by
  cases x;cases y
  simp only[Rw.mk.injEq,Bool.decide_and]
 simp only[gA,eqI,eqBo,e,Z7E,Bool.and_true,Z8Y]
theorem Z7L (l l':List Rw) (h:l.length≤1152921504606846976):callI tE Z5M [.sl (l.map Rw.e),.sl (l'.map Rw.e)]=some [.bool (decide (l=l'))]:=by
 have hl:l.length≤1152921504606846976:=h
 rw[Z8H]
 by_cases hll:l.length=l'.length
 ·rw[Z8a hll,Bool.not_true,cond_false]
  have:=Z7m (L:=Z6H) (e:=Rw.e) (P:=fun a=>(fun _=>0) a≤1152921504606846976) (fun p q p' q' a b _ hpl hlt=>by
   rw[Z6r]
   simp only[Z70,Z6s,Z7s,Z6k,cond_true,cond_false,gA,Z6z hpl,Z7u hpl,Rw.e,Z9q a b,Z9j]) (fun p p' hpl=>by
   rw[Z6r,Z71,cond_false]) l l' [] [] rfl hll (fun a ha=>Nat.zero_le _) (by simp;omega)
  simpa using this
 ·rw[Z8b hll,Bool.not_false,cond_true,decide_eq_false (fun e=>hll (by rw[e]))]
theorem Z9J (l:List Bool) (h:l.length≤1048576):callI tE Z6Q [.sl (l.map boE)]=some [.sl (l.map boE)]:=by
 have hl:l.length≤1048576:=h
 rw[Z84]
 have:=Z7l (L:=Z5v) (e:=boE) (z:=[.bool false]) (P:=fun a=>(fun _=>0) a≤1048576) (fun p q p' q' a _ hpl hlt=>by
  rw[Z6i]
  simp only[Z70,Z6s,Z7s,Z6k,cond_true,cond_false,gA,Z6z hpl,Z7c hpl,boE,setRange,List.set_cons_zero,List.set_cons_succ]) (fun p p' hpl=>by
  rw[Z6i,Z71,cond_false]) l [] [] rfl (fun a ha=>Nat.zero_le _) (by simp;omega)
 simp only[List.nil_append,List.length_nil,Int.ofNat_zero,Int.natCast_zero]at this
 rw[Z7v,Z7M,Z9U (by show(l.map boE).length*_≤_;rw[List.length_map];omega)]
 simp only[Bool.and_self,cond_true]
 rw[show tn (lenI (l.map boE))=l.length by show(l.map boE).length=_;simp]
 exact this
theorem Z9K (l:List Bool) (n:Int) (h0:0≤n) (h1:n≤1048576) (h:BdL BdT l):callI tE Z6w [.sl (l.map boE),.int n]=some [.int (szv n l.length)]:=by
 rw[Z82]
 exact Z8v h0 h1 (by simp) h.1
theorem Z9L (l l':List Bool) (h:l.length≤1152921504606846976):callI tE Z6S [.sl (l.map boE),.sl (l'.map boE)]=some [.bool (decide (l=l'))]:=by
 have hl:l.length≤1152921504606846976:=h
 rw[Z86]
 by_cases hll:l.length=l'.length
 ·rw[Z8a hll,Bool.not_true,cond_false]
  have:=Z7m (L:=Z5w) (e:=boE) (P:=fun a=>(fun _=>0) a≤1152921504606846976) (fun p q p' q' a b _ hpl hlt=>by
   rw[Z6j]
   simp only[Z70,Z6s,Z7s,Z6k,cond_true,cond_false,gA,Z6z hpl,Z7u hpl,boE,eqBo,Z9j]) (fun p p' hpl=>by
   rw[Z6j,Z71,cond_false]) l l' [] [] rfl hll (fun a ha=>Nat.zero_le _) (by simp;omega)
  simpa using this
 ·rw[Z8b hll,Bool.not_false,cond_true,decide_eq_false (fun e=>hll (by rw[e]))]
theorem Z9r (x:List Rw) (h:x.length≤1048576):callI tE Z7B [.sl (x.map Rw.e)]=some [.sl (x.map Rw.e)]:=by
 simp only[Z8d,Z7J x (by exact h),gA]
theorem Z9c (l:List (List Rw)) (h:szL List.length l≤1048576):callI tE Z6X [.sl (l.map rsE)]=some [.sl (l.map rsE)]:=by
 have hl:l.length≤1048576:=(Nat.le_trans (Z75 _ _) h)
 rw[Z8M]
 have:=Z7l (L:=Z6K) (e:=rsE) (z:=[.sl []]) (P:=fun a=>List.length a≤1048576) (fun p q p' q' a hP hpl hlt=>by
  rw[Z6u]
  simp only[Z70,Z6s,Z7s,Z6k,cond_true,cond_false,gA,Z6z hpl,Z7c hpl,rsE,Z9r a hP,setRange,List.set_cons_zero,List.set_cons_succ]) (fun p p' hpl=>by
  rw[Z6u,Z71,cond_false]) l [] [] rfl (fun a ha=>Nat.le_trans (Z76 ha) h) (by simp;omega)
 simp only[List.nil_append,List.length_nil,Int.ofNat_zero,Int.natCast_zero]at this
 rw[Z7v,Z7M,Z9U (by show(l.map rsE).length*_≤_;rw[List.length_map];omega)]
 simp only[Bool.and_self,cond_true]
 rw[show tn (lenI (l.map rsE))=l.length by show(l.map rsE).length=_;simp]
 exact this
theorem Z9s (x:List Rw) (n:Int) (h0:0≤n) (h1:n≤1048576) (h:rsB x):callI tE Z79 [.sl (x.map Rw.e),.int n]=some [.int (szv n (x.length))]:=by
 rw[Z8c]
 have b0:BdL Rw.bd x:=h
 rw[Z7K x n (by omega) (by omega) b0]
 simp only[gA]
 exact Z7R (by omega)
theorem Z9d (l:List (List Rw)) (n:Int) (h0:0≤n) (h1:n≤1048576) (h:BdL rsB l):callI tE Z6W [.sl (l.map rsE),.int n]=some [.int (szv n (szL List.length l))]:=by
 have hl:l.length≤1152921504606846976:=h.1
 rw[Z8L,Z8K]
 refine Z8w (X:=fun m=>Z5u (l.map rsE) m 0) h0 h1 (List.length_map _) hl fun h2=>?_
 have:=Z8J (L:=Z5u) (e:=rsE) (g:=List.length) (P:=rsB) (fun p q a n hP h0 h1 hlt=>by
  rw[Z6t]
  simp only[Z70,Z6s,Z7s,Z6k,cond_true,cond_false,gA,rsE,Z9s a n h0 h1 hP]) (fun p n=>by
  rw[Z6t,Z71,cond_false]) l [] (n-l.length) (fun a ha=>h.2 a ha) (by omega) (by omega) (by simp;omega)
 simpa using this
theorem Z9t (x y:List Rw) (h:x.length≤1152921504606846976):callI tE Z7D [.sl (x.map Rw.e),.sl (y.map Rw.e)]=some [.bool (decide (x=y))]:=by
 simp only[Z8e,Z7L x y h,gA,Z7E,Bool.and_true]
theorem Z9e (l l':List (List Rw)) (h:szL List.length l≤1152921504606846976):callI tE Z6Y [.sl (l.map rsE),.sl (l'.map rsE)]=some [.bool (decide (l=l'))]:=by
 have hl:l.length≤1152921504606846976:=(Nat.le_trans (Z75 _ _) h)
 rw[Z8N]
 by_cases hll:l.length=l'.length
 ·rw[Z8a hll,Bool.not_true,cond_false]
  have:=Z7m (L:=Z6M) (e:=rsE) (P:=fun a=>List.length a≤1152921504606846976) (fun p q p' q' a b hP hpl hlt=>by
   rw[Z6v]
   simp only[Z70,Z6s,Z7s,Z6k,cond_true,cond_false,gA,Z6z hpl,Z7u hpl,rsE,Z9t a b hP,Z9j]) (fun p p' hpl=>by
   rw[Z6v,Z71,cond_false]) l l' [] [] rfl hll (fun a ha=>Nat.le_trans (Z76 ha) h) (by simp;omega)
  simpa using this
 ·rw[Z8b hll,Bool.not_false,cond_true,decide_eq_false (fun e=>hll (by rw[e]))]
theorem Z98 (x:So) (h:x.sz≤1048576):callI tE Z6d [.sl (x.inp.map Rw.e),.int x.pos,.sl (x.heap.map Rw.e),.sl (x.dfd.map Rw.e),.sl (x.out.map Rw.e),.sl (x.runs.map rsE),.int x.lp,.int x.rp,.int x.ph,.int x.wr]=some [.sl (x.inp.map Rw.e),.int x.pos,.sl (x.heap.map Rw.e),.sl (x.dfd.map Rw.e),.sl (x.out.map Rw.e),.sl (x.runs.map rsE),.int x.lp,.int x.rp,.int x.ph,.int x.wr]:=by
 simp only[Z7x,Z7J x.inp (by simp only[So.sz]at h;omega),Z7J x.heap (by simp only[So.sz]at h;omega),Z7J x.dfd (by simp only[So.sz]at h;omega),Z7J x.out (by simp only[So.sz]at h;omega),Z9c x.runs (by simp only[So.sz]at h;omega),gA]
theorem Z99 (x:So) (n:Int) (h0:0≤n) (h1:n≤1048576) (h:x.bd):callI tE Z6a [.sl (x.inp.map Rw.e),.int x.pos,.sl (x.heap.map Rw.e),.sl (x.dfd.map Rw.e),.sl (x.out.map Rw.e),.sl (x.runs.map rsE),.int x.lp,.int x.rp,.int x.ph,.int x.wr,.int n]=some [.int (szv n (x.sz))]:=by
 rw[Z7w]
 simp only[So.sz]
 obtain⟨b0,_,b2,b3,b4,b5,_,_,_,_⟩:=h
 rw[Z7K x.inp n (by omega) (by omega) b0]
 simp only[gA]
 refine Z6I (by omega) fun h0 g0=>?_
 rw[g0]
 rw[Z7K x.heap (n-(x.inp.length:Nat)) (by omega) (by omega) b2]
 simp only[gA]
 refine Z6I (by omega) fun h1 g1=>?_
 rw[g1]
 rw[Z7K x.dfd (n-(x.inp.length:Nat)-(x.heap.length:Nat)) (by omega) (by omega) b3]
 simp only[gA]
 refine Z6I (by omega) fun h2 g2=>?_
 rw[g2]
 rw[Z7K x.out (n-(x.inp.length:Nat)-(x.heap.length:Nat)-(x.dfd.length:Nat)) (by omega) (by omega) b4]
 simp only[gA]
 refine Z6I (by omega) fun h3 g3=>?_
 rw[g3]
 rw[Z9d x.runs (n-(x.inp.length:Nat)-(x.heap.length:Nat)-(x.dfd.length:Nat)-(x.out.length:Nat)) (by omega) (by omega) b5]
 simp only[gA]
 exact Z7R (by omega)
theorem Z9A (x y:So) (h:x.sz≤1152921504606846976):callI tE Z6g [.sl (x.inp.map Rw.e),.int x.pos,.sl (x.heap.map Rw.e),.sl (x.dfd.map Rw.e),.sl (x.out.map Rw.e),.sl (x.runs.map rsE),.int x.lp,.int x.rp,.int x.ph,.int x.wr,.sl (y.inp.map Rw.e),.int y.pos,.sl (y.heap.map Rw.e),.sl (y.dfd.map Rw.e),.sl (y.out.map Rw.e),.sl (y.runs.map rsE),.int y.lp,.int y.rp,.int y.ph,.int y.wr]=some [.bool (decide (x=y))]:=by
 have e:decide (x=y)=(decide (x.inp=y.inp)&&(decide (x.pos=y.pos)&&(decide (x.heap=y.heap)&&(decide (x.dfd=y.dfd)&&(decide (x.out=y.out)&&(decide (x.runs=y.runs)&&(decide (x.lp=y.lp)&&(decide (x.rp=y.rp)&&(decide (x.ph=y.ph)&&(decide (x.wr=y.wr))))))))))):=by
  cases x;cases y
  simp only[So.mk.injEq,Bool.decide_and]
 simp only[Z7L x.inp y.inp (by simp only[So.sz]at h;omega),Z7L x.heap y.heap (by simp only[So.sz]at h;omega),Z7L x.dfd y.dfd (by simp only[So.sz]at h;omega),Z7L x.out y.out (by simp only[So.sz]at h;omega),Z9e x.runs y.runs (by simp only[So.sz]at h;omega),gA,eqI,eqBo,e,Z7E,Bool.and_true,Z7y]
theorem Z9f (x:Tk) (h:x.sz≤1048576):callI tE Z73 [.int x.kind,.sl (x.left.map Rw.e),.sl (x.right.map Rw.e),.sl (x.mat.map boE),.int x.level]=some [.int x.kind,.sl (x.left.map Rw.e),.sl (x.right.map Rw.e),.sl (x.mat.map boE),.int x.level]:=by
 simp only[Z8P,Z7J x.left (by simp only[Tk.sz]at h;omega),Z7J x.right (by simp only[Tk.sz]at h;omega),Z9J x.mat (by simp only[Tk.sz]at h;omega),gA]
theorem Z9M (l:List Tk) (h:szL Tk.sz l≤1048576):callI tE Z6R [.sl (l.map Tk.e)]=some [.sl (l.map Tk.e)]:=by
 have hl:l.length≤1048576:=(Nat.le_trans (Z75 _ _) h)
 rw[Z88]
 have:=Z7l (L:=Z5x) (e:=Tk.e) (z:=[.int 0,.sl [],.sl [],.sl [],.int 0]) (P:=fun a=>Tk.sz a≤1048576) (fun p q p' q' a hP hpl hlt=>by
  rw[Z6n]
  simp only[Z70,Z6s,Z7s,Z6k,cond_true,cond_false,gA,Z6z hpl,Z7c hpl,Tk.e,Z9f a hP,setRange,List.set_cons_zero,List.set_cons_succ]) (fun p p' hpl=>by
  rw[Z6n,Z71,cond_false]) l [] [] rfl (fun a ha=>Nat.le_trans (Z76 ha) h) (by simp;omega)
 simp only[List.nil_append,List.length_nil,Int.ofNat_zero,Int.natCast_zero]at this
 rw[Z7v,Z7M,Z9U (by show(l.map Tk.e).length*_≤_;rw[List.length_map];omega)]
 simp only[Bool.and_self,cond_true]
 rw[show tn (lenI (l.map Tk.e))=l.length by show(l.map Tk.e).length=_;simp]
 exact this
theorem Z9g (x:Tk) (n:Int) (h0:0≤n) (h1:n≤1048576) (h:x.bd):callI tE Z72 [.int x.kind,.sl (x.left.map Rw.e),.sl (x.right.map Rw.e),.sl (x.mat.map boE),.int x.level,.int n]=some [.int (szv n (x.sz))]:=by
 rw[Z8O]
 simp only[Tk.sz]
 obtain⟨_,b1,b2,b3,_⟩:=h
 rw[Z7K x.left n (by omega) (by omega) b1]
 simp only[gA]
 refine Z6I (by omega) fun h0 g0=>?_
 rw[g0]
 rw[Z7K x.right (n-(x.left.length:Nat)) (by omega) (by omega) b2]
 simp only[gA]
 refine Z6I (by omega) fun h1 g1=>?_
 rw[g1]
 rw[Z9K x.mat (n-(x.left.length:Nat)-(x.right.length:Nat)) (by omega) (by omega) b3]
 simp only[gA]
 exact Z7R (by omega)
theorem Z9N (l:List Tk) (n:Int) (h0:0≤n) (h1:n≤1048576) (h:BdL Tk.bd l):callI tE Z6P [.sl (l.map Tk.e),.int n]=some [.int (szv n (szL Tk.sz l))]:=by
 have hl:l.length≤1152921504606846976:=h.1
 rw[Z87,Z8K]
 refine Z8w (X:=fun m=>Z5l (l.map Tk.e) m 0) h0 h1 (List.length_map _) hl fun h2=>?_
 have:=Z8J (L:=Z5l) (e:=Tk.e) (g:=Tk.sz) (P:=Tk.bd) (fun p q a n hP h0 h1 hlt=>by
  rw[Z6m]
  simp only[Z70,Z6s,Z7s,Z6k,cond_true,cond_false,gA,Tk.e,Z9g a n h0 h1 hP]) (fun p n=>by
  rw[Z6m,Z71,cond_false]) l [] (n-l.length) (fun a ha=>h.2 a ha) (by omega) (by omega) (by simp;omega)
 simpa using this
theorem Z9h (x y:Tk) (h:x.sz≤1152921504606846976):callI tE Z74 [.int x.kind,.sl (x.left.map Rw.e),.sl (x.right.map Rw.e),.sl (x.mat.map boE),.int x.level,.int y.kind,.sl (y.left.map Rw.e),.sl (y.right.map Rw.e),.sl (y.mat.map boE),.int y.level]=some [.bool (decide (x=y))]:=by
 have e:decide (x=y)=(decide (x.kind=y.kind)&&(decide (x.left=y.left)&&(decide (x.right=y.right)&&(decide (x.mat=y.mat)&&(decide (x.level=y.level)))))):=by
  cases x;cases y
  simp only[Tk.mk.injEq,Bool.decide_and]
 simp only[Z7L x.left y.left (by simp only[Tk.sz]at h;omega),Z7L x.right y.right (by simp only[Tk.sz]at h;omega),Z9L x.mat y.mat (by simp only[Tk.sz]at h;omega),gA,eqI,eqBo,e,Z7E,Bool.and_true,Z8Q]
theorem Z9O (l l':List Tk) (h:szL Tk.sz l≤1152921504606846976):callI tE Z6T [.sl (l.map Tk.e),.sl (l'.map Tk.e)]=some [.bool (decide (l=l'))]:=by
 have hl:l.length≤1152921504606846976:=(Nat.le_trans (Z75 _ _) h)
 rw[Z89]
 by_cases hll:l.length=l'.length
 ·rw[Z8a hll,Bool.not_true,cond_false]
  have:=Z7m (L:=Z5y) (e:=Tk.e) (P:=fun a=>Tk.sz a≤1152921504606846976) (fun p q p' q' a b hP hpl hlt=>by
   rw[Z6o]
   simp only[Z70,Z6s,Z7s,Z6k,cond_true,cond_false,gA,Z6z hpl,Z7u hpl,Tk.e,Z9h a b hP,Z9j]) (fun p p' hpl=>by
   rw[Z6o,Z71,cond_false]) l l' [] [] rfl hll (fun a ha=>Nat.le_trans (Z76 ha) h) (by simp;omega)
  simpa using this
 ·rw[Z8b hll,Bool.not_false,cond_true,decide_eq_false (fun e=>hll (by rw[e]))]
theorem Z8h (x:Gt) (h:x.sz≤1048576):callI tE Z6D [.sl (x.rows.map Rw.e),.int x.level]=some [.sl (x.rows.map Rw.e),.int x.level]:=by
 simp only[Z7h,Z7J x.rows (by simp only[Gt.sz]at h;omega),gA]
theorem Z8R (l:List Gt) (h:szL Gt.sz l≤1048576):callI tE Z5i [.sl (l.map Gt.e)]=some [.sl (l.map Gt.e)]:=by
 have hl:l.length≤1048576:=(Nat.le_trans (Z75 _ _) h)
 rw[Z7V]
 have:=Z7l (L:=Z5d) (e:=Gt.e) (z:=[.sl [],.int 0]) (P:=fun a=>Gt.sz a≤1048576) (fun p q p' q' a hP hpl hlt=>by
  rw[Z65]
  simp only[Z70,Z6s,Z7s,Z6k,cond_true,cond_false,gA,Z6z hpl,Z7c hpl,Gt.e,Z8h a hP,setRange,List.set_cons_zero,List.set_cons_succ]) (fun p p' hpl=>by
  rw[Z65,Z71,cond_false]) l [] [] rfl (fun a ha=>Nat.le_trans (Z76 ha) h) (by simp;omega)
 simp only[List.nil_append,List.length_nil,Int.ofNat_zero,Int.natCast_zero]at this
 rw[Z7v,Z7M,Z9U (by show(l.map Gt.e).length*_≤_;rw[List.length_map];omega)]
 simp only[Bool.and_self,cond_true]
 rw[show tn (lenI (l.map Gt.e))=l.length by show(l.map Gt.e).length=_;simp]
 exact this
theorem Z8i (x:Gt) (n:Int) (h0:0≤n) (h1:n≤1048576) (h:x.bd):callI tE Z6C [.sl (x.rows.map Rw.e),.int x.level,.int n]=some [.int (szv n (x.sz))]:=by
 rw[Z7g]
 simp only[Gt.sz]
 obtain⟨b0,_⟩:=h
 rw[Z7K x.rows n (by omega) (by omega) b0]
 simp only[gA]
 exact Z7R (by omega)
theorem Z8S (l:List Gt) (n:Int) (h0:0≤n) (h1:n≤1048576) (h:BdL Gt.bd l):callI tE Z5h [.sl (l.map Gt.e),.int n]=some [.int (szv n (szL Gt.sz l))]:=by
 have hl:l.length≤1152921504606846976:=h.1
 rw[Z7S,Z8K]
 refine Z8w (X:=fun m=>Z5O (l.map Gt.e) m 0) h0 h1 (List.length_map _) hl fun h2=>?_
 have:=Z8J (L:=Z5O) (e:=Gt.e) (g:=Gt.sz) (P:=Gt.bd) (fun p q a n hP h0 h1 hlt=>by
  rw[Z62]
  simp only[Z70,Z6s,Z7s,Z6k,cond_true,cond_false,gA,Gt.e,Z8i a n h0 h1 hP]) (fun p n=>by
  rw[Z62,Z71,cond_false]) l [] (n-l.length) (fun a ha=>h.2 a ha) (by omega) (by omega) (by simp;omega)
 simpa using this
theorem Z8j (x y:Gt) (h:x.sz≤1152921504606846976):callI tE Z6F [.sl (x.rows.map Rw.e),.int x.level,.sl (y.rows.map Rw.e),.int y.level]=some [.bool (decide (x=y))]:=by
 have e:decide (x=y)=(decide (x.rows=y.rows)&&(decide (x.level=y.level))):=by
  cases x;cases y
  simp only[Gt.mk.injEq,Bool.decide_and]
 simp only[Z7L x.rows y.rows (by simp only[Gt.sz]at h;omega),gA,eqI,eqBo,e,Z7E,Bool.and_true,Z7i]
theorem Z8T (l l':List Gt) (h:szL Gt.sz l≤1152921504606846976):callI tE Z5k [.sl (l.map Gt.e),.sl (l'.map Gt.e)]=some [.bool (decide (l=l'))]:=by
 have hl:l.length≤1152921504606846976:=(Nat.le_trans (Z75 _ _) h)
 rw[Z7Y]
 by_cases hll:l.length=l'.length
 ·rw[Z8a hll,Bool.not_true,cond_false]
  have:=Z7m (L:=Z5e) (e:=Gt.e) (P:=fun a=>Gt.sz a≤1152921504606846976) (fun p q p' q' a b hP hpl hlt=>by
   rw[Z67]
   simp only[Z70,Z6s,Z7s,Z6k,cond_true,cond_false,gA,Z6z hpl,Z7u hpl,Gt.e,Z8j a b hP,Z9j]) (fun p p' hpl=>by
   rw[Z67,Z71,cond_false]) l l' [] [] rfl hll (fun a ha=>Nat.le_trans (Z76 ha) h) (by simp;omega)
  simpa using this
 ·rw[Z8b hll,Bool.not_false,cond_true,decide_eq_false (fun e=>hll (by rw[e]))]
theorem Z9B (x:Jn) (h:x.sz≤1048576):callI tE Z6e [.sl (x.pend.map Tk.e),.int x.wr,.int x.parts]=some [.sl (x.pend.map Tk.e),.int x.wr,.int x.parts]:=by
 simp only[Z80,Z9M x.pend (by simp only[Jn.sz]at h;omega),gA]
theorem Z9C (x:Jn) (n:Int) (h0:0≤n) (h1:n≤1048576) (h:x.bd):callI tE Z6b [.sl (x.pend.map Tk.e),.int x.wr,.int x.parts,.int n]=some [.int (szv n (x.sz))]:=by
 rw[Z7z]
 simp only[Jn.sz]
 obtain⟨b0,_,_⟩:=h
 rw[Z9N x.pend n (by omega) (by omega) b0]
 simp only[gA]
 exact Z7R (by omega)
theorem Z9D (x y:Jn) (h:x.sz≤1152921504606846976):callI tE Z6h [.sl (x.pend.map Tk.e),.int x.wr,.int x.parts,.sl (y.pend.map Tk.e),.int y.wr,.int y.parts]=some [.bool (decide (x=y))]:=by
 have e:decide (x=y)=(decide (x.pend=y.pend)&&(decide (x.wr=y.wr)&&(decide (x.parts=y.parts)))):=by
  cases x;cases y
  simp only[Jn.mk.injEq,Bool.decide_and]
 simp only[Z9O x.pend y.pend (by simp only[Jn.sz]at h;omega),gA,eqI,eqBo,e,Z7E,Bool.and_true,Z81]
theorem Z8U (x:Ag) (h:x.sz≤1048576):callI tE Z60 [.sl (x.pend.map Gt.e),.int x.wr,.bool x.early]=some [.sl (x.pend.map Gt.e),.int x.wr,.bool x.early]:=by
 simp only[Z7W,Z8R x.pend (by simp only[Ag.sz]at h;omega),gA]
theorem Z8V (x:Ag) (n:Int) (h0:0≤n) (h1:n≤1048576) (h:x.bd):callI tE Z5z [.sl (x.pend.map Gt.e),.int x.wr,.bool x.early,.int n]=some [.int (szv n (x.sz))]:=by
 rw[Z7T]
 simp only[Ag.sz]
 obtain⟨b0,_,_⟩:=h
 rw[Z8S x.pend n (by omega) (by omega) b0]
 simp only[gA]
 exact Z7R (by omega)
theorem Z8W (x y:Ag) (h:x.sz≤1152921504606846976):callI tE Z61 [.sl (x.pend.map Gt.e),.int x.wr,.bool x.early,.sl (y.pend.map Gt.e),.int y.wr,.bool y.early]=some [.bool (decide (x=y))]:=by
 have e:decide (x=y)=(decide (x.pend=y.pend)&&(decide (x.wr=y.wr)&&(decide (x.early=y.early)))):=by
  cases x;cases y
  simp only[Ag.mk.injEq,Bool.decide_and]
 simp only[Z8T x.pend y.pend (by simp only[Ag.sz]at h;omega),gA,eqI,eqBo,e,Z7E,Bool.and_true,Z7Z]
theorem ZA1 (x:Opr) (h:x.sz≤1048576):callI tE Z6f [.int x.kind,.sl (x.so.inp.map Rw.e),.int x.so.pos,.sl (x.so.heap.map Rw.e),.sl (x.so.dfd.map Rw.e),.sl (x.so.out.map Rw.e),.sl (x.so.runs.map rsE),.int x.so.lp,.int x.so.rp,.int x.so.ph,.int x.so.wr,.sl (x.jn.pend.map Tk.e),.int x.jn.wr,.int x.jn.parts,.sl (x.ag.pend.map Gt.e),.int x.ag.wr,.bool x.ag.early]=some [.int x.kind,.sl (x.so.inp.map Rw.e),.int x.so.pos,.sl (x.so.heap.map Rw.e),.sl (x.so.dfd.map Rw.e),.sl (x.so.out.map Rw.e),.sl (x.so.runs.map rsE),.int x.so.lp,.int x.so.rp,.int x.so.ph,.int x.so.wr,.sl (x.jn.pend.map Tk.e),.int x.jn.wr,.int x.jn.parts,.sl (x.ag.pend.map Gt.e),.int x.ag.wr,.bool x.ag.early]:=by
 simp only[Z8m,Z98 x.so (by simp only[Opr.sz]at h;omega),Z9B x.jn (by simp only[Opr.sz]at h;omega),Z8U x.ag (by simp only[Opr.sz]at h;omega),gA]
theorem ZA2 (x:Opr) (n:Int) (h0:0≤n) (h1:n≤1048576) (h:x.bd):callI tE Z7P [.int x.kind,.sl (x.so.inp.map Rw.e),.int x.so.pos,.sl (x.so.heap.map Rw.e),.sl (x.so.dfd.map Rw.e),.sl (x.so.out.map Rw.e),.sl (x.so.runs.map rsE),.int x.so.lp,.int x.so.rp,.int x.so.ph,.int x.so.wr,.sl (x.jn.pend.map Tk.e),.int x.jn.wr,.int x.jn.parts,.sl (x.ag.pend.map Gt.e),.int x.ag.wr,.bool x.ag.early,.int n]=some [.int (szv n (x.sz))]:=by
 rw[Z8l]
 simp only[Opr.sz]
 obtain⟨_,b1,b2,b3⟩:=h
 rw[Z99 x.so n (by omega) (by omega) b1]
 simp only[gA]
 refine Z6I (by omega) fun h0 g0=>?_
 rw[g0]
 rw[Z9C x.jn (n-(x.so.sz:Nat)) (by omega) (by omega) b2]
 simp only[gA]
 refine Z6I (by omega) fun h1 g1=>?_
 rw[g1]
 rw[Z8V x.ag (n-(x.so.sz:Nat)-(x.jn.sz:Nat)) (by omega) (by omega) b3]
 simp only[gA]
 exact Z7R (by omega)
theorem ZA3 (x y:Opr) (h:x.sz≤1152921504606846976):callI tE Z7Q [.int x.kind,.sl (x.so.inp.map Rw.e),.int x.so.pos,.sl (x.so.heap.map Rw.e),.sl (x.so.dfd.map Rw.e),.sl (x.so.out.map Rw.e),.sl (x.so.runs.map rsE),.int x.so.lp,.int x.so.rp,.int x.so.ph,.int x.so.wr,.sl (x.jn.pend.map Tk.e),.int x.jn.wr,.int x.jn.parts,.sl (x.ag.pend.map Gt.e),.int x.ag.wr,.bool x.ag.early,.int y.kind,.sl (y.so.inp.map Rw.e),.int y.so.pos,.sl (y.so.heap.map Rw.e),.sl (y.so.dfd.map Rw.e),.sl (y.so.out.map Rw.e),.sl (y.so.runs.map rsE),.int y.so.lp,.int y.so.rp,.int y.so.ph,.int y.so.wr,.sl (y.jn.pend.map Tk.e),.int y.jn.wr,.int y.jn.parts,.sl (y.ag.pend.map Gt.e),.int y.ag.wr,.bool y.ag.early]=some [.bool (decide (x=y))]:=by
 have e:decide (x=y)=(decide (x.kind=y.kind)&&(decide (x.so=y.so)&&(decide (x.jn=y.jn)&&(decide (x.ag=y.ag))))):=by
  cases x;cases y
  simp only[Opr.mk.injEq,Bool.decide_and]
 simp only[Z9A x.so y.so (by simp only[Opr.sz]at h;omega),Z9D x.jn y.jn (by simp only[Opr.sz]at h;omega),Z8W x.ag y.ag (by simp only[Opr.sz]at h;omega),gA,eqI,eqBo,e,Z7E,Bool.and_true,Z8n]
theorem Z9u {n:Int} {s:Nat} (h:(s:Int)≤n):szv n s=n-s:=if_pos h
theorem Z9v {n:Int} {s:Nat} (h:¬(s:Int)≤n):szv n s= -1:=if_neg h
set_option maxRecDepth 100000
theorem Z6p (a0:Int) (a1:Rows) (a2:Int) (a3 a4 a5 a6:Rows) (a7 a8 a9 a10:Int) (a11:Rows) (a12 a13:Int) (a14:Rows) (a15:Int) (a16:Bool):callI tE Z5a [.int a0,.sl a1,.int a2,.sl a3,.sl a4,.sl a5,.sl a6,.int a7,.int a8,.int a9,.int a10,.sl a11,.int a12,.int a13,.sl a14,.int a15,.bool a16]=(((callI tE Z7P [(.int a0),(.sl a1),(.int a2),(.sl a3),(.sl a4),(.sl a5),(.sl a6),(.int a7),(.int a8),(.int a9),(.int a10),(.sl a11),(.int a12),(.int a13),(.sl a14),(.int a15),(.bool a16),(.int 1048576)])).bind (fun r0=>(bif(ltI (gn r0) 0)then(some [(.bool Bool.true)])else(((callI tE Z6f [(.int a0),(.sl a1),(.int a2),(.sl a3),(.sl a4),(.sl a5),(.sl a6),(.int a7),(.int a8),(.int a9),(.int a10),(.sl a11),(.int a12),(.int a13),(.sl a14),(.int a15),(.bool a16)])).bind (fun r1=>(((callI tE Z5Y [(.int (gn r1)),(.sl (gl (tk 1 r1))),(.int (gn (tk 2 r1))),(.sl (gl (tk 3 r1))),(.sl (gl (tk 4 r1))),(.sl (gl (tk 5 r1))),(.sl (gl (tk 6 r1))),(.int (gn (tk 7 r1))),(.int (gn (tk 8 r1))),(.int (gn (tk 9 r1))),(.int (gn (tk 10 r1))),(.sl (gl (tk 11 r1))),(.int (gn (tk 12 r1))),(.int (gn (tk 13 r1))),(.sl (gl (tk 14 r1))),(.int (gn (tk 15 r1))),(.bool (gb (tk 16 r1)))])).bind (fun r2=>(((callI tE Z6f [(.int a0),(.sl a1),(.int a2),(.sl a3),(.sl a4),(.sl a5),(.sl a6),(.int a7),(.int a8),(.int a9),(.int a10),(.sl a11),(.int a12),(.int a13),(.sl a14),(.int a15),(.bool a16)])).bind (fun r3=>(((callI tE Z5Z [(.int (gn r3)),(.sl (gl (tk 1 r3))),(.int (gn (tk 2 r3))),(.sl (gl (tk 3 r3))),(.sl (gl (tk 4 r3))),(.sl (gl (tk 5 r3))),(.sl (gl (tk 6 r3))),(.int (gn (tk 7 r3))),(.int (gn (tk 8 r3))),(.int (gn (tk 9 r3))),(.int (gn (tk 10 r3))),(.sl (gl (tk 11 r3))),(.int (gn (tk 12 r3))),(.int (gn (tk 13 r3))),(.sl (gl (tk 14 r3))),(.int (gn (tk 15 r3))),(.bool (gb (tk 16 r3)))])).bind (fun r4=>(bif(!(eqI (gn r4) (gn r2)))then(some [(.bool Bool.false)])else(((callI tE Z6f [(.int a0),(.sl a1),(.int a2),(.sl a3),(.sl a4),(.sl a5),(.sl a6),(.int a7),(.int a8),(.int a9),(.int a10),(.sl a11),(.int a12),(.int a13),(.sl a14),(.int a15),(.bool a16)])).bind (fun r5=>(((callI tE Z7Q [(.int (gn r3)),(.sl (gl (tk 1 r3))),(.int (gn (tk 2 r3))),(.sl (gl (tk 3 r3))),(.sl (gl (tk 4 r3))),(.sl (gl (tk 5 r3))),(.sl (gl (tk 6 r3))),(.int (gn (tk 7 r3))),(.int (gn (tk 8 r3))),(.int (gn (tk 9 r3))),(.int (gn (tk 10 r3))),(.sl (gl (tk 11 r3))),(.int (gn (tk 12 r3))),(.int (gn (tk 13 r3))),(.sl (gl (tk 14 r3))),(.int (gn (tk 15 r3))),(.bool (gb (tk 16 r3))),(.int (gn r5)),(.sl (gl (tk 1 r5))),(.int (gn (tk 2 r5))),(.sl (gl (tk 3 r5))),(.sl (gl (tk 4 r5))),(.sl (gl (tk 5 r5))),(.sl (gl (tk 6 r5))),(.int (gn (tk 7 r5))),(.int (gn (tk 8 r5))),(.int (gn (tk 9 r5))),(.int (gn (tk 10 r5))),(.sl (gl (tk 11 r5))),(.int (gn (tk 12 r5))),(.int (gn (tk 13 r5))),(.sl (gl (tk 14 r5))),(.int (gn (tk 15 r5))),(.bool (gb (tk 16 r5)))])).bind (fun r6=>(bif(!(gb r6))then(some [(.bool Bool.false)])else(some [(.bool Bool.true)])))))))))))))))))):=(callI_run rfl (by kernel_rfl)).trans (by kernel_rfl)
set_option maxRecDepth 10000
theorem pure_FnExactOpWriteBound:∀ds,OkDs tE [.int .i64,.sl 95,.int .i64,.sl 95,.sl 95,.sl 95,.sl 84,.int .i64,.int .i64,.int .i64,.int .i64,.sl 87,.int .i64,.int .i64,.sl 90,.int .i64,.bool] ds→callI tE Z5a ds=some [.bool true]:=by
 intro ds h0
 obtain⟨_,_,rfl,i0,h1⟩:=OkDs.split (ls1:=[.int .i64,.sl 95,.int .i64,.sl 95,.sl 95,.sl 95,.sl 84,.int .i64,.int .i64,.int .i64,.int .i64,.sl 87,.int .i64,.int .i64,.sl 90,.int .i64,.bool]) (ls2:=[]) h0
 obtain⟨x0,rfl,hx0⟩:=ZA0 i0
 obtain rfl:=h1.nil_inv
 show callI tE Z5a x0.e=_
 unfold Opr.e
 rw[Z6p,ZA2 x0 1048576 (by omega) (by omega) hx0]
 simp only[gA]
 by_cases hs:(x0.sz:Int)≤1048576
 ·have e1:=Z9z x0 (by omega)
  have e2:=Z9y x0 (by omega)
  unfold Opr.e at e1 e2
  rw[Z9u hs,ltF (by omega),cond_false,ZA1 x0 (by omega)]
  simp only[gA,e1,e2,ZA3 x0 x0 (by omega),decide_true,Z7M,Bool.not_true,cond_false]
 ·rw[Z9v hs];rfl
end Go.Proofs.Ytnihikajdbcoaaa.Vai
