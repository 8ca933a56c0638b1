/- What the law of this claim leans on; no condition. -/
import Derived.Test.YtnihikajdbcoaaaGreatPkFnCheckpointRoundTrip1
namespace Go.Proofs.YtnihikajdbcoaaaGreat.Vai
open Go
set_option linter.unusedSimpArgs false
set_option linter.unusedVariables false
set_option linter.unnecessarySimpa false
set_option maxRecDepth 10000
theorem ZGc (a b:Rw) (l:List Rw):isS (a::b::l)=(!decide (Rw.lt b a)&&isS (b::l)):=rfl
theorem ZIg (a:Rw):isS [a]=true:=rfl
theorem ZD8:∀{l:List Rw},isS l=true↔Srt l
 |[]=>by simp[isS]
 |[a]=>by simp[isS]
 |a::b::l=>by
  rw[ZGc,Bool.and_eq_true,ZD8 (l:=b::l)]
  unfold Srt
  rw[List.pairwise_cons (a:=a)]
  simp only[Bool.not_eq_true',decide_eq_false_iff_not]
  constructor
  ·rintro ⟨h1,h2⟩
   refine⟨fun y hy=>?_,h2⟩
   rcases List.mem_cons.mp hy with rfl|hy
   ·exact h1
   ·exact Rw.le_tr h1 ((List.pairwise_cons.mp h2).1 y hy)
  ·rintro ⟨h1,h2⟩
   exact⟨h1 b (by simp),h2⟩
theorem ZEb (l:List Rw) (hl:l.length<4611686018427387904):∀(v u:List Rw) (a:Rw),l=u++a::v→Z7v (l.map Rw.e) ((u.length+1:Nat):Int)=some [.bool (isS (a::v))]
 |[],u,a,h=>by
  rw[Z82,Z5L,ltF (by rw[h];simp),cond_false,ZIg]
 |b::v,u,a,h=>by
  have hlen:l.length=u.length+1+1+v.length:=by rw[h];simp;omega
  have a1:at' (l.map Rw.e) u.length=a.e:=ZC0 h rfl
  have a2:at' (l.map Rw.e) (u.length+1)=b.e:=ZC0 (u:=u++[a]) (v:=v) (by rw[h];simp) (by simp)
  have i1:inR ((u.length+1:Nat):Int) (lenI (l.map Rw.e))=true:=ZAr (by omega)
  have i2:inR ((u.length:Nat):Int) (lenI (l.map Rw.e))=true:=ZAr (by omega)
  have e1:w64 (((u.length+1:Nat):Int)-1)=(u.length:Int):=by rw[Z5a ⟨by omega,by omega⟩];omega
  have ih:=ZEb l hl v (u++[a]) b (by rw[h];simp)
  rw[List.length_append,List.length_singleton]at ih
  rw[Z82,show ltI ((u.length+1:Nat):Int) (lenI (l.map Rw.e))=true by rw[Z5L];exact ltT (by omega),i1,e1,i2,Z8X (by omega),ih]
  simp only[cond_true,Z8q,a1,a2,gk,gv,gw,ZCK,gA,Z9x,ZGc]
  cases decide (Rw.lt b a)<;>rfl
theorem ZEc (l:List Rw) (hl:l.length<4611686018427387904):callI tE Z7i [.sl (l.map Rw.e)]=some [.bool (isS l)]:=by
 rw[ZCY]
 cases l with
 |nil=>rw[Z82];rfl
 |cons a v=>exact ZEb (a::v) hl v [] a rfl
theorem ZEd (l:List Rw) (hl:l.length<4611686018427387904):∀(v u:List Rw) (a:Rw),l=u++a::v→Z7s (l.map Rw.e) ((u.length+1:Nat):Int)=some [.bool (isS (a::v))]
 |[],u,a,h=>by
  rw[Z81,Z5L,ltF (by rw[h];simp),cond_false,ZIg]
 |b::v,u,a,h=>by
  have hlen:l.length=u.length+1+1+v.length:=by rw[h];simp;omega
  have a1:at' (l.map Rw.e) u.length=a.e:=ZC0 h rfl
  have a2:at' (l.map Rw.e) (u.length+1)=b.e:=ZC0 (u:=u++[a]) (v:=v) (by rw[h];simp) (by simp)
  have i1:inR ((u.length+1:Nat):Int) (lenI (l.map Rw.e))=true:=ZAr (by omega)
  have i2:inR ((u.length:Nat):Int) (lenI (l.map Rw.e))=true:=ZAr (by omega)
  have e1:w64 (((u.length+1:Nat):Int)-1)=(u.length:Int):=by rw[Z5a ⟨by omega,by omega⟩];omega
  have ih:=ZEd l hl v (u++[a]) b (by rw[h];simp)
  rw[List.length_append,List.length_singleton]at ih
  rw[Z81,show ltI ((u.length+1:Nat):Int) (lenI (l.map Rw.e))=true by rw[Z5L];exact ltT (by omega),i1,e1,i2,Z8X (by omega),ih]
  simp only[cond_true,Z8q,a1,a2,gk,gv,gw,ZAG,gA,ZFN,ZGc]
  cases decide (Rw.lt b a)<;>rfl
theorem ZEe (l:List Rw) (hl:l.length<4611686018427387904):callI tE Z7g [.sl (l.map Rw.e)]=some [.bool (isS l)]:=by
 rw[ZCV]
 cases l with
 |nil=>rw[Z81];rfl
 |cons a v=>exact ZEd (a::v) hl v [] a rfl
def Z9H (r:Rw) (l:List Rw):Bool:=match l.getLast? with
 |none=>false
 |some x=>decide (Rw.lt r x)
theorem ZAs (r:Rw):Z9H r []=false:=rfl
theorem Z9b (r:Rw) (u:List Rw) (x:Rw):Z9H r (u++[x])=decide (Rw.lt r x):=by simp[Z9H]
theorem ZE2 (l:List Rw):l=[]∨∃u x,l=u++[x]:=by
 cases l.eq_nil_or_concat with
 |inl h=>exact .inl h
 |inr h=>obtain⟨u,x,h⟩:=h;exact .inr ⟨u,x,by simpa using h⟩
theorem ZIh (r:Rw) (l:List Rw) (hl:l.length<4611686018427387904):callI tE ZAX [.int r.k,.int r.v,.int r.w,.sl (l.map Rw.e)]=some [.bool (Z9H r l)]:=by
 rw[ZEa]
 rcases ZE2 l with rfl|⟨u,x,rfl⟩
 ·rfl
 ·simp only[List.length_append,List.length_cons,List.length_nil]at hl
  have a1:at' ((u++[x]).map Rw.e) u.length=x.e:=ZC0 (u:=u) (v:=[]) (by simp) rfl
  have e1:w64 (lenI ((u++[x]).map Rw.e)-1)=(u.length:Int):=by rw[Z5L,Z5a ⟨by(first|omega|(simp only[List.length_append,List.length_cons,List.length_nil,List.length_map,List.length_take,List.length_drop,List.length_replicate,Z7w]at* <;>omega)),by(first|omega|(simp only[List.length_append,List.length_cons,List.length_nil,List.length_map,List.length_take,List.length_drop,List.length_replicate,Z7w]at* <;>omega))⟩];simp
  rw[show ltI 0 (lenI ((u++[x]).map Rw.e))=true by rw[Z5L];exact ltT (by(first|omega|(simp only[List.length_append,List.length_cons,List.length_nil,List.length_map,List.length_take,List.length_drop,List.length_replicate,Z7w]at* <;>omega))),e1,ZAr (by simp)]
  simp only[cond_true,Z8q,a1,gk,gv,gw,ZCK,gA,Z9x,Z9b]
def ZAB (r:List Rw):Bool:=decide (0<r.length)&&(isS r&&aok r)
def Z9k (l:List (List Rw)):Prop:=szL List.length l≤1073741824
theorem ZFy (l:List (List Rw)) (h:Z9k l):callI tE Z7O [.sl (l.map rsE)]=some [.bool (l.all ZAB)]:=by
 have hl:=Z7l List.length l
 unfold Z9k at h
 rw[ZB8]
 have:=ZAn (l:=l) (L:=Z7E (l.map rsE) (lenI (l.map rsE))) (p:=ZAB) (no:=some [.bool false]) (yes:=some [.bool true]) (by omega) (fun u a v e=>by
  have ha:a.length≤1073741824:=Nat.le_trans (Z8W (by rw[e];simp)) h
  subst e
  rw[Z8F]
  simp only[ZEF,ZEP,Z8q,ZDt,cond_true,rsE,gA,ZEc a (show a.length<4611686018427387904 by omega),ZAc]
  rw[Z5L Rw.e a]
  unfold ZAB
  by_cases h0:a.length=0
  ·rw[eqT (by omega),h0];rfl
  ·rw[eqF (by omega),decide_eq_true (show 0<a.length by omega)]
   cases isS a
   ·rfl
   ·cases aok a<;>rfl) (by rw[Z8F,ZDu,cond_false])
 exact this.trans (ZGA _)
theorem ZFz (l:List (List Rw)) (h:Z9k l):callI tE Z7M [.sl (l.map rsE)]=some [.bool (l.all ZAB)]:=by
 have hl:=Z7l List.length l
 unfold Z9k at h
 rw[ZB6]
 have:=ZAn (l:=l) (L:=Z7D (l.map rsE)) (p:=ZAB) (no:=some [.bool false]) (yes:=some [.bool true]) (by omega) (fun u a v e=>by
  have ha:a.length≤1073741824:=Nat.le_trans (Z8W (by rw[e];simp)) h
  subst e
  rw[Z8E]
  simp only[ZEF,ZEP,Z8q,ZDt,cond_true,rsE,gA,ZEe a (show a.length<4611686018427387904 by omega),Z8x a (show a.length<4611686018427387904 by omega)]
  rw[Z5L Rw.e a]
  unfold ZAB
  by_cases h0:a.length=0
  ·rw[eqT (by omega),h0];rfl
  ·rw[eqF (by omega),decide_eq_true (show 0<a.length by omega)]
   cases isS a
   ·rfl
   ·cases aok a<;>rfl) (by rw[Z8E,ZDu,cond_false])
 exact this.trans (ZGA _)
theorem ZE3 (m:List (List Rw)):m.flatten.length≤szL List.length m:=by
 induction m with
 |nil=>simp
 |cons a m ih=>simp only[List.flatten_cons,List.length_append,szL];omega
theorem ZH7 (l:List (List Rw)) (h:Z9k l):callI tE Z7Z [.sl (l.map rsE)]=some [.sl (l.flatten.map Rw.e)]:=by
 have hl:=Z7l List.length l
 unfold Z9k at h
 rw[ZBQ]
 have:=Z6i (l:=l) (L:=fun(s:List Rw) i=>Z67 (l.map rsE) (lenI (l.map rsE)) i (s.map Rw.e)) (F:=fun _ _=>some [.sl (l.flatten.map Rw.e)]) (I:=fun s u _=>s=u.flatten) (by omega) (fun u a v s e hI=>by
  have h1:=ZE3 (u++[a])
  have h2:szL List.length (u++[a])≤szL List.length l:=by have:=ZCg List.length (u++[a]) v;rw[e,show u++a::v=(u++[a])++v by simp,this];omega
  refine .inl ⟨(u++[a]).flatten,?_,rfl,rfl⟩
  show Z67 _ _ _ _=Z67 _ _ _ _
  subst e
  rw[Z8T,hI]
  simp only[ZEF,ZEP,Z8q,ZDt,cond_true,rsE,gA,Z5o,ZAo]
  have h3:(u++[a]).flatten.length=u.flatten.length+a.length:=by rw[List.flatten_append,List.length_append];simp
  rw[show fitM (u.flatten.length+a.length) 24=true from Z9X (by omega)]
  simp) (fun s hs=>by
  show Z67 _ _ _ _=_
  rw[Z8T,ZDu,cond_false,hs]) [] rfl
 exact this
theorem ZH8 (l:List (List Rw)) (h:Z9k l):callI tE Z6Z [.sl (l.map rsE)]=some [.sl (l.flatten.map Rw.e)]:=by
 have hl:=Z7l List.length l
 unfold Z9k at h
 rw[ZBO]
 have:=Z6i (l:=l) (L:=fun(s:List Rw) i=>Z66 (l.map rsE) i (s.map Rw.e)) (F:=fun _ _=>some [.sl (l.flatten.map Rw.e)]) (I:=fun s u _=>s=u.flatten) (by omega) (fun u a v s e hI=>by
  have h1:=ZE3 (u++[a])
  have h2:szL List.length (u++[a])≤szL List.length l:=by have:=ZCg List.length (u++[a]) v;rw[e,show u++a::v=(u++[a])++v by simp,this];omega
  refine .inl ⟨(u++[a]).flatten,?_,rfl,rfl⟩
  show Z66 _ _ _=Z66 _ _ _
  subst e
  rw[Z8S,hI]
  simp only[ZEF,ZEP,Z8q,ZDt,cond_true,rsE,gA,Z5o,ZAo]
  have h3:(u++[a]).flatten.length=u.flatten.length+a.length:=by rw[List.flatten_append,List.length_append];simp
  rw[show fitM (u.flatten.length+a.length) 24=true from Z9X (by omega)]
  simp) (fun s hs=>by
  show Z66 _ _ _=_
  rw[Z8S,ZDu,cond_false,hs]) [] rfl
 exact this
def ZI4:Nat→List Rw→List Rw→List Rw
 |0,_,_=>[]
 |_+1,[],b=>b
 |_+1,a,[]=>a
 |n+1,x::a,y::b=>if Rw.le x y then x::ZI4 n a (y::b)else y::ZI4 n (x::a) b
def mrg (a b:List Rw):List Rw:=ZI4 (a.length+b.length) a b
theorem ZAO:∀(n m:Nat) (a b:List Rw),a.length+b.length≤n→a.length+b.length≤m→ZI4 n a b=ZI4 m a b
 |0,0,_,_,_,_=>rfl
 |0,m+1,a,b,h,_=>by
  have h1:a=[]:=List.length_eq_zero_iff.mp (by omega)
  have h2:b=[]:=List.length_eq_zero_iff.mp (by omega)
  subst h1;subst h2;rfl
 |n+1,0,a,b,_,h=>by
  have h1:a=[]:=List.length_eq_zero_iff.mp (by omega)
  have h2:b=[]:=List.length_eq_zero_iff.mp (by omega)
  subst h1;subst h2;rfl
 |n+1,m+1,[],b,_,_=>rfl
 |n+1,m+1,x::a,[],_,_=>rfl
 |n+1,m+1,x::a,y::b,h,h2=>by
  simp only[List.length_cons]at h h2
  simp only[ZI4]
  rw[ZAO n m a (y::b) (by simp;omega) (by simp;omega),ZAO n m (x::a) b (by simp;omega) (by simp;omega)]
theorem Z8j (b:List Rw):mrg [] b=b:=by
 cases b<;>rfl
theorem Z9O (a:List Rw):mrg a []=a:=by
 cases a<;>rfl
theorem ZD9 (x y:Rw) (a b:List Rw):mrg (x::a) (y::b)=if Rw.le x y then x::mrg a (y::b)else y::mrg (x::a) b:=by
 unfold mrg
 rw[show(x::a).length+(y::b).length=(a.length+b.length+1)+1 by simp;omega]
 simp only[ZI4]
 rw[ZAO _ (a.length+(y::b).length) a (y::b) (by simp;omega) (by simp),ZAO _ ((x::a).length+b.length) (x::a) b (by simp;omega) (by simp)]
theorem ZF6:∀(n:Nat) (a b:List Rw),a.length+b.length=n→(mrg a b).length=n
 |_,[],b,h=>by rw[Z8j];simpa using h
 |_,x::a,[],h=>by rw[Z9O];simpa using h
 |0,x::a,y::b,h=>by simp at h
 |n+1,x::a,y::b,h=>by
  simp only[List.length_cons]at h
  rw[ZD9]
  split
  ·rw[List.length_cons,ZF6 n a (y::b) (by simp;omega)]
  ·rw[List.length_cons,ZF6 n (x::a) b (by simp;omega)]
theorem Z8G (a b:List Rw):(mrg a b).length=a.length+b.length:=ZF6 _ a b rfl
theorem ZBs (r:Rw) (p:List Rw):ltI 0 (lenI ((r::p).map Rw.e))=true:=by rw[Z5L];exact ltT (by(first|omega|(simp only[List.length_append,List.length_cons,List.length_nil,List.length_map,List.length_take,List.length_drop,List.length_replicate,Z7w]at* <;>omega)))
theorem ZAg:∀(n:Nat) (a b acc:List Rw),a.length+b.length=n→acc.length+n≤2147483648→Z5Z (a.map Rw.e) (b.map Rw.e) (acc.map Rw.e)=some [.sl ((acc++mrg a b).map Rw.e)]
 |0,a,b,acc,h,_=>by
  have h1:a=[]:=List.length_eq_zero_iff.mp (by omega)
  have h2:b=[]:=List.length_eq_zero_iff.mp (by omega)
  subst h1;subst h2
  rw[Z6l]
  rw[Z8j,List.append_nil];rfl
 |n+1,[],y::b,acc,h,hl=>by
  have ih:=ZAg n [] b (acc++[y]) (by simp at h⊢;omega) (by simp;omega)
  have f1:fitM (Nat.succ (len (acc.map Rw.e))) 24=true:=by rw[Z5o];exact Z9X (by omega)
  have a1:([[Dat.int y.k,.int y.v,.int y.w]]:Rows)=[y.e]:=rfl
  have z1:lenI (([]:List Rw).map Rw.e)=0:=rfl
  have le01:leI 0 1=true:=rfl
  rw[Z6l,z1,ltF (show(0:Int)≤0 by omega)]
  simp only[cond_false,cond_true,ZBs,ZIK,ZIJ,ZBr,gk,gv,gw,f1,ZJ4,le01,Bool.and_self,ZE1,a1,ZB2]
  rw[ih,Z8j,Z8j]
  simp
 |n+1,x::a,[],acc,h,hl=>by
  have ih:=ZAg n a [] (acc++[x]) (by simp at h⊢;omega) (by simp;omega)
  have f1:fitM (Nat.succ (len (acc.map Rw.e))) 24=true:=by rw[Z5o];exact Z9X (by omega)
  have a1:([[Dat.int x.k,.int x.v,.int x.w]]:Rows)=[x.e]:=rfl
  have z1:lenI (([]:List Rw).map Rw.e)=0:=rfl
  have le01:leI 0 1=true:=rfl
  rw[Z6l,z1,eqT (show(0:Int)=0 by omega)]
  simp only[cond_false,cond_true,ZBs,ZIK,ZIJ,ZBr,gk,gv,gw,f1,ZJ4,le01,Bool.and_self,ZE1,a1,ZB2]
  rw[ih,Z9O,Z9O]
  simp
 |n+1,x::a,y::b,acc,h,hl=>by
  have f1:fitM (Nat.succ (len (acc.map Rw.e))) 24=true:=by rw[Z5o];exact Z9X (by omega)
  have a1:([[Dat.int x.k,.int x.v,.int x.w]]:Rows)=[x.e]:=rfl
  have a2:([[Dat.int y.k,.int y.v,.int y.w]]:Rows)=[y.e]:=rfl
  have le01:leI 0 1=true:=rfl
  rw[Z6l]
  simp only[cond_false,cond_true,ZBs,ZIK,ZIJ,ZBr,gk,gv,gw,f1,ZJ4,le01,Bool.and_self,ZE1,a1,a2,ZB2,ZCK,gA,ZEx]
  rw[ZD9]
  by_cases hxy:Rw.le x y
  ·rw[decide_eq_true hxy,if_pos hxy,cond_true,ZAg n a (y::b) (acc++[x]) (by simp at h⊢;omega) (by simp;omega)]
   simp
  ·rw[decide_eq_false hxy,if_neg hxy,cond_false,ZAg n (x::a) b (acc++[y]) (by simp at h⊢;omega) (by simp;omega)]
   simp
theorem ZJO (a b:List Rw) (h:a.length+b.length≤2147483648):callI tE Z70 [.sl (a.map Rw.e),.sl (b.map Rw.e)]=some [.sl ((mrg a b).map Rw.e)]:=by
 rw[ZBR]
 have:=ZAg _ a b [] rfl (by simpa using h)
 simpa using this
theorem ZAh (A B:List Rw) (hA:A.length+B.length≤2147483648):∀(n:Nat) (a b ua ub acc:List Rw),A=ua++a→B=ub++b→a.length+b.length=n→acc.length+n≤2147483648→
  Z5Y (A.map Rw.e) (B.map Rw.e) (ua.length:Nat) (ub.length:Nat) (acc.map Rw.e)=some [.sl ((acc++mrg a b).map Rw.e)]
 |0,a,b,ua,ub,acc,ha,hb,h,_=>by
  have h1:a=[]:=List.length_eq_zero_iff.mp (by omega)
  have h2:b=[]:=List.length_eq_zero_iff.mp (by omega)
  subst h1;subst h2
  rw[List.append_nil]at ha hb
  rw[Z6k,Z5L,Z5L,ltF (by rw[ha];omega),ltF (by rw[hb];omega),Z8j,List.append_nil];rfl
 |n+1,[],y::b,ua,ub,acc,ha,hb,h,hl=>by
  rw[List.append_nil]at ha
  have hBl:B.length=ub.length+(b.length+1):=by rw[hb];simp
  have ih:=ZAh A B hA n [] b ua (ub++[y]) (acc++[y]) (by simpa using ha) (by rw[hb];simp) (by simp at h⊢;omega) (by simp;omega)
  rw[List.length_append,List.length_singleton]at ih
  have f1:fitM (Nat.succ (len (acc.map Rw.e))) 24=true:=by rw[Z5o];exact Z9X (by omega)
  have a1:([[Dat.int y.k,.int y.v,.int y.w]]:Rows)=[y.e]:=rfl
  have b1:at' (B.map Rw.e) ub.length=y.e:=ZC0 hb rfl
  have b2:inR (ub.length:Int) (lenI (B.map Rw.e))=true:=ZAr (by omega)
  rw[Z6k,b2]
  simp only[Z5L,Z8q,b1,gk,gv,gw,a1,ZB2,f1]
  rw[ltF (show(A.length:Int)≤(ua.length:Int)by rw[ha];omega),ltT (show(ub.length:Int)<(B.length:Int)by omega),eqF (show(ub.length:Int)≠(B.length:Int)by omega),Z8X (show ub.length<9223372036854775807 by omega)]
  simp only[cond_true,cond_false]
  rw[ih,Z8j,Z8j]
  simp
 |n+1,x::a,[],ua,ub,acc,ha,hb,h,hl=>by
  rw[List.append_nil]at hb
  have hAl:A.length=ua.length+(a.length+1):=by rw[ha];simp
  have ih:=ZAh A B hA n a [] (ua++[x]) ub (acc++[x]) (by rw[ha];simp) (by simpa using hb) (by simp at h⊢;omega) (by simp;omega)
  rw[List.length_append,List.length_singleton]at ih
  have f1:fitM (Nat.succ (len (acc.map Rw.e))) 24=true:=by rw[Z5o];exact Z9X (by omega)
  have a1:([[Dat.int x.k,.int x.v,.int x.w]]:Rows)=[x.e]:=rfl
  have b1:at' (A.map Rw.e) ua.length=x.e:=ZC0 ha rfl
  have b2:inR (ua.length:Int) (lenI (A.map Rw.e))=true:=ZAr (by omega)
  rw[Z6k,b2]
  simp only[Z5L,Z8q,b1,gk,gv,gw,a1,ZB2,f1]
  rw[ltT (show(ua.length:Int)<(A.length:Int)by omega),eqT (show(ub.length:Int)=(B.length:Int)by rw[hb]),Z8X (show ua.length<9223372036854775807 by omega)]
  simp only[cond_true,cond_false]
  rw[ih,Z9O,Z9O]
  simp
 |n+1,x::a,y::b,ua,ub,acc,ha,hb,h,hl=>by
  have hAl:A.length=ua.length+(a.length+1):=by rw[ha];simp
  have hBl:B.length=ub.length+(b.length+1):=by rw[hb];simp
  have f1:fitM (Nat.succ (len (acc.map Rw.e))) 24=true:=by rw[Z5o];exact Z9X (by omega)
  have a1:([[Dat.int x.k,.int x.v,.int x.w]]:Rows)=[x.e]:=rfl
  have a2:([[Dat.int y.k,.int y.v,.int y.w]]:Rows)=[y.e]:=rfl
  have b1:at' (A.map Rw.e) ua.length=x.e:=ZC0 ha rfl
  have b2:inR (ua.length:Int) (lenI (A.map Rw.e))=true:=ZAr (by omega)
  have b3:at' (B.map Rw.e) ub.length=y.e:=ZC0 hb rfl
  have b4:inR (ub.length:Int) (lenI (B.map Rw.e))=true:=ZAr (by omega)
  rw[Z6k,b2,b4]
  simp only[Z5L,Z8q,b1,b3,gk,gv,gw,a1,a2,ZB2,f1,ZAG,gA,ZEx]
  rw[ltT (show(ua.length:Int)<(A.length:Int)by omega),eqF (show(ub.length:Int)≠(B.length:Int)by omega),Z8X (show ua.length<9223372036854775807 by omega),Z8X (show ub.length<9223372036854775807 by omega)]
  simp only[cond_true,cond_false]
  rw[ZD9]
  by_cases hxy:Rw.le x y
  ·have ih:=ZAh A B hA n a (y::b) (ua++[x]) ub (acc++[x]) (by rw[ha];simp) hb (by simp at h⊢;omega) (by simp;omega)
   rw[List.length_append,List.length_singleton]at ih
   rw[decide_eq_true hxy,if_pos hxy,cond_true,ih]
   simp
  ·have ih:=ZAh A B hA n (x::a) b ua (ub++[y]) (acc++[y]) ha (by rw[hb];simp) (by simp at h⊢;omega) (by simp;omega)
   rw[List.length_append,List.length_singleton]at ih
   rw[decide_eq_false hxy,if_neg hxy,cond_false,ih]
   simp
theorem ZJP (a b:List Rw) (h:a.length+b.length≤2147483648):callI tE Z6z [.sl (a.map Rw.e),.sl (b.map Rw.e)]=some [.sl ((mrg a b).map Rw.e)]:=by
 rw[ZBP]
 have:=ZAh a b h _ a b [] [] [] rfl rfl rfl (by simpa using h)
 simpa using this
def ZDS (a b:List Rw):Bool:=decide (ZAN a=ZAN b)
theorem ZAi {a b:List Rw}:ZDS a b=true↔a.Perm b:=by
 simp only[ZDS,decide_eq_true_eq]
 constructor
 ·intro h
  exact(Z7V a).symm.trans (h▸Z7V b)
 ·intro h
  exact Z7x ((Z7V a).trans (h.trans (Z7V b).symm)) (ZAA a) (ZAA b)
theorem ZEf {a b:List Rw} (h:¬a.length=b.length):ZDS a b=false:=by
 rw[←Bool.not_eq_true,ZAi]
 exact fun hh=>h hh.length_eq
theorem ZIi (a b:List Rw) (ha:a.length≤1099511627770) (hb:b.length≤1099511627770):callI tE Z7S [.sl (a.map Rw.e),.sl (b.map Rw.e)]=some [.bool (ZDS a b)]:=by
 rw[ZC8]
 by_cases h:a.length=b.length
 ·rw[ZDX h,cond_true]
  simp only[ZI1 a ha,ZI1 b hb,gA]
  rw[ZFP _ _ (by rw[Z87];omega)]
  rfl
 ·rw[ZDY h,cond_false,ZEf h]
theorem ZIj (a b:List Rw) (ha:a.length≤1099511627770) (hb:b.length≤1099511627770):callI tE Z6b [.sl (a.map Rw.e),.sl (b.map Rw.e)]=some [.bool (ZDS a b)]:=by
 rw[ZC6]
 simp only[ZI2 a ha,ZI2 b hb,gA]
 by_cases h:a.length=b.length
 ·rw[ZDX (by rw[Z87,Z87,h]),Bool.not_true,cond_false]
  have:=ZBg (L:=fun x y i=>Z7d i x y) (e:=Rw.e) (P:=fun _=>True) (fun p q p' q' a b _ hpl hlt=>by
   rw[Z8u]
   simp only[ZEN,ZDW,Z8q,ZCf,cond_true,cond_false,gA,ZCh hpl,ZCi hpl,Rw.e,ZFO,ZG7]) (fun p p' hpl=>by
   rw[Z8u,ZEO,cond_false]) (ZAN a) (ZAN b) [] [] rfl (by rw[Z87,Z87,h]) (fun a ha=>trivial) (by simp[Z87];omega)
  simpa[ZDS]using this
 ·rw[ZDY (by rw[Z87,Z87];exact h),Bool.not_false,cond_true,ZEf h]
def rc (l:List (List Rw)) (n:Nat) (p:Int):Nat:=match l[n]? with
 |none=>0
 |some r=>if p<0 then 0 else match r[p.toNat]? with
  |none=>0
  |some x=>x.cost
theorem ZH9 (l:List (List Rw)) (n:Nat) (p:Int):rc l n p≤4:=by
 unfold rc
 split
 ·omega
 ·split
  ·omega
  ·split
   ·omega
   ·exact ZAF _
def ZC2 (s:So):Nat:=if s.ph=1 then Z83 s.heap+Z83 s.dfd else if s.ph=2 then(if s.lp<0∨s.rp<0 then 0 else rc s.runs 0 s.lp+rc s.runs 1 s.rp)else if s.ph=3 then rc s.runs 0 s.lp else 0
def So.B (s:So):Prop:=s.sz≤1073741824
theorem So.B.p {s:So} (h:s.B):s.inp.length≤1073741824∧s.heap.length≤1073741824∧s.dfd.length≤1073741824∧s.out.length≤1073741824∧Z9k s.runs:=by
 simp only[So.B,So.sz]at h
 unfold Z9k
 omega
theorem ZFg (s:So) (n:Nat) (p:Int) (h:s.B):callI tE Z84 [.sl (s.inp.map Rw.e),.int s.pos,.sl (s.heap.map Rw.e),.sl (s.dfd.map Rw.e),.sl (s.out.map Rw.e),.sl (s.runs.map rsE),.int s.lp,.int s.rp,.int s.ph,.int s.wr,.int (n:Int),.int p]=some [.int (rc s.runs n p:Nat)]:=by
 have hl:=Z7l List.length s.runs
 have hb:=h.p.2.2.2.2
 unfold Z9k at hb
 rw[ZDP,Z5L]
 unfold rc
 by_cases hn:n<s.runs.length
 ·obtain⟨u,a,v,hr,rfl⟩:=ZBW hn
  have ha:a.length≤1073741824:=Nat.le_trans (Z8W (by rw[hr];simp)) hb
  have e1:s.runs[u.length]?=some a:=by rw[hr];simp
  have e2:at' (s.runs.map rsE) u.length=rsE a:=ZC0 hr rfl
  rw[leF (by omega),cond_false,e1]
  simp only[Z8q,e2,rsE,gA,Z5L]
  by_cases hp:p<0
  ·rw[ltT hp,cond_true,if_pos hp];rfl
  ·rw[ltF (by omega),cond_false,if_neg hp,ZCF (by omega) (by omega),cond_true]
   by_cases hpa:p.toNat<a.length
   ·obtain⟨u2,x,v2,hx,hu2⟩:=ZBW hpa
    have e3:a[p.toNat]?=some x:=by rw[hx,←hu2];simp
    have e4:at' (a.map Rw.e) (tn p)=x.e:=ZC0 hx hu2
    rw[leF (by omega),cond_false,e3,ZCF (by omega) (by omega),cond_true,cond_true]
    simp only[e4,gk,gv,gw,ZFM,gA]
   ·rw[leT (by omega),cond_true,List.getElem?_eq_none (by omega)];rfl
 ·rw[leT (by omega),cond_true,List.getElem?_eq_none (by omega)];rfl
theorem ZEg (l:List (List Rw)) (n:Nat) (p:Int) (h:Z9k l) (hp:0≤p):∃q:List Rw,callI tE Z6G [.sl (l.map rsE),.int (n:Int),.int p]=some [.sl (q.map Rw.e)]∧Z83 q=rc l n p∧q.length≤1∧q=(match l[n]? with
  |none=>[]
  |some r=>(match r[p.toNat]? with
   |none=>[]
   |some x=>[x])):=by
 have hl:=Z7l List.length l
 unfold Z9k at h
 rw[ZDz,Z5L]
 unfold rc
 by_cases hn:n<l.length
 ·obtain⟨u,a,v,hr,rfl⟩:=ZBW hn
  have ha:a.length≤1073741824:=Nat.le_trans (Z8W (by rw[hr];simp)) h
  have e1:l[u.length]?=some a:=by rw[hr];simp
  have e2:at' (l.map rsE) u.length=rsE a:=ZC0 hr rfl
  rw[ltT (by omega),cond_true,ZCF (by omega) (by omega),e1]
  simp only[Z8q,e2,rsE,gA,Z5L,cond_true]
  rw[if_neg (by omega)]
  by_cases hpa:p.toNat<a.length
  ·obtain⟨u2,x,v2,hx,hu2⟩:=ZBW hpa
   have e3:a[p.toNat]?=some x:=by rw[hx,←hu2];simp
   have e4:at' (a.map Rw.e) (tn p)=x.e:=ZC0 hx hu2
   rw[ltT (by omega),cond_true,e3,ZCF (by omega) (by omega),cond_true]
   exact⟨[x],by simp only[e4,gk,gv,gw];rfl,by simp[Z83],by simp,rfl⟩
  ·rw[ltF (by omega),cond_false,List.getElem?_eq_none (by omega)]
   exact⟨[],rfl,rfl,by simp,rfl⟩
 ·rw[ltF (by omega),cond_false,List.getElem?_eq_none (by omega)]
  exact⟨[],rfl,rfl,by simp,rfl⟩
theorem ZJa (s:So) (h:s.B):callI tE Z7N [.sl (s.inp.map Rw.e),.int s.pos,.sl (s.heap.map Rw.e),.sl (s.dfd.map Rw.e),.sl (s.out.map Rw.e),.sl (s.runs.map rsE),.int s.lp,.int s.rp,.int s.ph,.int s.wr]=some [.int (ZC2 s:Nat)]:=by
 obtain⟨h1,h2,h3,h4,h5⟩:=h.p
 have r0:=ZFg s 0 s.lp h
 have r1:=ZFg s 1 s.rp h
 have e0:((0:Nat):Int)=0:=rfl
 have e1:((1:Nat):Int)=1:=rfl
 rw[e0]at r0
 rw[e1]at r1
 have t1:=ZBG s.heap
 have t2:=ZBG s.dfd
 have q1:=ZH9 s.runs 0 s.lp
 have q2:=ZH9 s.runs 1 s.rp
 rw[ZB7]
 simp only[ZDZ s.heap (by omega),ZDZ s.dfd (by omega),r0,r1,gA]
 unfold ZC2
 by_cases p1:s.ph=1
 ·rw[eqT p1,cond_true,if_pos p1,Z5a ⟨by omega,by omega⟩]
  simp
 ·rw[eqF p1,cond_false,if_neg p1]
  by_cases p2:s.ph=2
  ·rw[eqT p2,cond_true,if_pos p2]
   by_cases p3:s.lp<0
   ·rw[ltT p3,if_pos (.inl p3)];rfl
   ·rw[ltF (by omega),cond_false]
    by_cases p4:s.rp<0
    ·rw[ltT p4,if_pos (.inr p4)];rfl
    ·rw[ltF (by omega),cond_false,if_neg (by omega),Z5a ⟨by omega,by omega⟩]
     simp
  ·rw[eqF p2,cond_false,if_neg p2]
   by_cases p3:s.ph=3
   ·rw[eqT p3,cond_true,if_pos p3]
   ·rw[eqF p3,cond_false,if_neg p3];rfl
theorem ZJQ (s:So) (h:s.B):callI tE Z6p [.sl (s.inp.map Rw.e),.int s.pos,.sl (s.heap.map Rw.e),.sl (s.dfd.map Rw.e),.sl (s.out.map Rw.e),.sl (s.runs.map rsE),.int s.lp,.int s.rp,.int s.ph,.int s.wr]=some [.int (ZC2 s:Nat)]:=by
 obtain⟨h1,h2,h3,h4,h5⟩:=h.p
 have t1:=ZBG s.heap
 have t2:=ZBG s.dfd
 have q1:=ZH9 s.runs 0 s.lp
 have q2:=ZH9 s.runs 1 s.rp
 rw[ZB5]
 simp only[ZA5 s.heap (by omega),ZA5 s.dfd (by omega),gA]
 unfold ZC2
 by_cases p1:s.ph=1
 ·rw[eqT p1,cond_true,if_pos p1,Z5a ⟨by omega,by omega⟩]
  simp
 ·rw[eqF p1,cond_false,if_neg p1]
  by_cases p2:s.ph=2
  ·rw[eqT p2,cond_true,if_pos p2]
   by_cases p3:s.lp<0
   ·rw[ltT p3,if_pos (.inl p3)];rfl
   ·rw[ltF (by omega),cond_false]
    by_cases p4:s.rp<0
    ·rw[ltT p4,if_pos (.inr p4)];rfl
    ·obtain⟨a,a1,a2,a3,_⟩:=ZEg s.runs 0 s.lp h5 (by omega)
     obtain⟨b,b1,b2,b3,_⟩:=ZEg s.runs 1 s.rp h5 (by omega)
     rw[show((0:Nat):Int)=0 from rfl]at a1
     rw[show((1:Nat):Int)=1 from rfl]at b1
     rw[ltF (by omega),cond_false,if_neg (by omega)]
     simp only[a1,b1,gA,ZA5 a (by omega),ZA5 b (by omega),a2,b2]
     rw[Z5a ⟨by omega,by omega⟩]
     simp
  ·rw[eqF p2,cond_false,if_neg p2]
   by_cases p3:s.ph=3
   ·rw[eqT p3,cond_true,if_pos p3]
    by_cases p4:s.lp<0
    ·rw[ltT p4,cond_true]
     unfold rc
     cases s.runs[0]?<;>simp[p4]
    ·obtain⟨a,a1,a2,a3,_⟩:=ZEg s.runs 0 s.lp h5 (by omega)
     rw[show((0:Nat):Int)=0 from rfl]at a1
     rw[ltF (by omega),cond_false]
     simp only[a1,gA,ZA5 a (by omega),a2]
   ·rw[eqF p3,cond_false,if_neg p3];rfl
def ZDA (s:So):Bool:=match s.runs with
 |a::b::_=>win s.lp 0 a.length&&(win s.rp 0 b.length&&(decide (s.out=mrg (a.take s.lp.toNat) (b.take s.rp.toNat))&&decide (s.out=(mrg a b).take (s.lp.toNat+s.rp.toNat))))
 |_=>false
def Z8H (s:So):Bool:=
 if s.ph=2 then ZDA s
 else if s.ph=3 then decide (s.runs.length=1)&&(decide (0≤s.lp∧s.lp<s.inp.length)&&(decide (s.rp=0)&&decide (s.out=[])))
 else if s.ph=4 then decide (s.runs.length≤1)&&(decide (s.lp=s.inp.length)&&(decide (s.rp=0)&&decide (s.out=[])))
 else false
def Z8a (s:So):Bool:=
 if s.ph=1 then decide (s.lp=0)&&(decide (s.rp=0)&&(decide (s.out≠[]∨s.dfd=[])&&(decide (ZC2 s≤60)&&ZDS (s.runs.flatten++(s.out++(s.heap++s.dfd))) (s.inp.take s.pos.toNat))))
 else decide (s.pos=s.inp.length)&&(decide (s.heap=[])&&(decide (s.dfd=[])&&(ZDS s.runs.flatten s.inp&&Z8H s)))
def Z9T (s:So):Bool:=aok s.inp&&(win s.pos 0 s.inp.length&&(s.runs.all ZAB&&(decide (0≤s.wr)&&(isS s.out&&((s.heap.all fun r=> !Z9H r s.out)&&Z8a s)))))
def So.B2 (s:So):Prop:=s.sz≤1073741800
theorem So.B2.b {s:So} (h:s.B2):s.B:=by simp only[So.B2,So.B]at*;omega
theorem ZFh (l:List Rw) (p:Int):List.take (tn (p-0)) (List.drop (tn 0) (l.map Rw.e))=(l.take p.toNat).map Rw.e:=by
 show List.take (p-0).toNat (List.drop 0 (l.map Rw.e))=_
 rw[Int.sub_zero,List.drop_zero,List.map_take]
theorem Z95 {α:Type} (l:List α):decide (l=[])=decide (l.length=0):=by
 cases l<;>simp
theorem ZFi (n:Nat):leI (n:Int) 60=decide (n≤60):=by
 unfold leI;congr 1;apply propext;omega
theorem ZJ5 (s:So) (h:s.B2) (hp:win s.pos 0 s.inp.length=true) (x0:Int) (x1:Rows) (n:Int):
  Z6O x0 x1 n n (s.inp.map Rw.e) s.pos (s.heap.map Rw.e) (s.dfd.map Rw.e) (s.out.map Rw.e) (s.runs.map rsE) s.lp s.rp s.ph s.wr=some [.bool (Z8a s)]:=by
 obtain⟨h1,h2,h3,h4,h5⟩:=h.b.p
 have hpp:=Z8c.mp hp
 have hfl:=ZE3 s.runs
 have hsz:s.inp.length+(s.heap.length+(s.dfd.length+(s.out.length+s.runs.flatten.length)))≤1073741800:=by
  simp only[So.B2,So.sz]at h;omega
 have ht:callI tE Z7I [.sl [[.sl (s.runs.flatten.map Rw.e)],[.sl (s.out.map Rw.e)],[.sl (s.heap.map Rw.e)],[.sl (s.dfd.map Rw.e)]]]=some [.sl ((s.runs.flatten++(s.out++(s.heap++s.dfd))).map Rw.e)]:=by
  have:=ZGa [s.runs.flatten,s.out,s.heap,s.dfd] (by simp only[szL];omega)
  simpa[rsE]using this
 have hb1:=ZIi (s.runs.flatten++(s.out++(s.heap++s.dfd))) (s.inp.take s.pos.toNat) (by(first|omega|(simp only[List.length_append,List.length_cons,List.length_nil,List.length_map,List.length_take,List.length_drop,List.length_replicate,Z7w]at* <;>omega))) (by(first|omega|(simp only[List.length_append,List.length_cons,List.length_nil,List.length_map,List.length_take,List.length_drop,List.length_replicate,Z7w]at* <;>omega)))
 have hb2:=ZIi s.runs.flatten s.inp (by omega) (by omega)
 rw[Z86,ltF (Int.le_refl n),cond_false]
 simp only[ZH7 s.runs h5,ZJa s h.b,gA,ht,hb2,ZFh,hb1]
 unfold Z8a
 by_cases p1:s.ph=1
 ·rw[eqT p1,cond_true,if_pos p1]
  by_cases q1:s.lp=0
  ·rw[eqT q1,cond_true,decide_eq_true q1]
   by_cases q2:s.rp=0
   ·rw[eqT q2,cond_true,decide_eq_true q2,leT (show 0≤s.pos by omega),show leI s.pos (lenI (s.inp.map Rw.e))=true by rw[Z5L];exact leT (by omega)]
    simp only[Bool.and_self,cond_true,ZFi,Z5L]
    by_cases q3:0<s.out.length
    ·rw[ltT (by omega),cond_true,decide_eq_true (show s.out≠[]∨s.dfd=[]from .inl (fun e=>by rw[e]at q3;simp at q3))]
     cases decide (ZC2 s≤60)<;>rfl
    ·rw[ltF (by omega),cond_false]
     have qo:s.out=[]:=List.length_eq_zero_iff.mp (by omega)
     by_cases q4:s.dfd.length=0
     ·rw[eqT (by omega),cond_true,decide_eq_true (show s.out≠[]∨s.dfd=[]from .inr (List.length_eq_zero_iff.mp q4))]
      cases decide (ZC2 s≤60)<;>rfl
     ·rw[eqF (by omega),cond_false,decide_eq_false (show¬(s.out≠[]∨s.dfd=[])from fun e=>e.elim (fun e=>e qo) (fun e=>q4 (by rw[e];rfl)))]
      rfl
   ·rw[eqF q2,decide_eq_false q2];rfl
  ·rw[eqF q1,decide_eq_false q1];rfl
 ·rw[eqF p1,cond_false,if_neg p1]
  simp only[Z5L]
  by_cases q1:s.pos=s.inp.length
  ·rw[eqT q1,Bool.not_true,cond_false,decide_eq_true q1]
   by_cases q2:s.heap.length=0
   ·rw[ltF (by omega),cond_false,Z95 s.heap,decide_eq_true q2]
    by_cases q3:s.dfd.length=0
    ·rw[ltF (by omega),cond_false,Z95 s.dfd,decide_eq_true q3]
     simp only[Bool.true_and]
     cases ZDS s.runs.flatten s.inp
     ·rfl
     ·simp only[Bool.not_true,cond_false,Bool.true_and]
      unfold Z8H
      by_cases p2:s.ph=2
      ·rw[eqT p2,cond_true,if_pos p2]
       unfold ZDA
       cases hr:s.runs with
       |nil=>rfl
       |cons a r=>
        cases r with
        |nil=>rfl
        |cons b r=>
         have ha:a.length≤1073741824:=Nat.le_trans (Z8W (by rw[hr];simp)) h5
         have hb:b.length≤1073741824:=Nat.le_trans (Z8W (by rw[hr];simp)) h5
         have g0:at' ((a::b::r).map rsE) (tn 0)=rsE a:=rfl
         have g1:at' ((a::b::r).map rsE) (tn 1)=rsE b:=rfl
         have l0:ltI ((a::b::r).length:Int) 2=false:=ltF (by simp;omega)
         have l1:inR 0 ((a::b::r).length:Int)=true:=ZCF (by omega) (by simp;omega)
         have l2:inR 1 ((a::b::r).length:Int)=true:=ZCF (by omega) (by simp;omega)
         simp only[l0,l1,l2,cond_true,cond_false,g0,g1,rsE,gA,Z5L,ZBE]
         by_cases w1:win s.lp 0 a.length=true
         ·by_cases w2:win s.rp 0 b.length=true
          ·have w3:=Z8c.mp w1
           have w4:=Z8c.mp w2
           have m1:=ZJO (a.take s.lp.toNat) (b.take s.rp.toNat) (by simp;omega)
           have m2:=ZJO a b (by omega)
           have ml:=Z8G a b
           have e1:=ZFP s.out (mrg (a.take s.lp.toNat) (b.take s.rp.toNat)) (by omega)
           have e2:=ZFP s.out ((mrg a b).take (s.lp.toNat+s.rp.toNat)) (by omega)
           have e3:w64 (s.lp+s.rp)=s.lp+s.rp:=Z5a ⟨by omega,by omega⟩
           have e4:(s.lp+s.rp).toNat=s.lp.toNat+s.rp.toNat:=by omega
           rw[w1,w2,leT w3.1,leT w3.2,leT w4.1,leT w4.2]
           simp only[Bool.not_true,cond_false,Bool.and_self,cond_true,ZFh,m1,m2,e1,gA,e3,e4,Z5L,e2]
           rw[leT (by omega),leT (by rw[ml];omega)]
           simp only[Bool.and_self,cond_true,Bool.true_and]
           cases decide (s.out=mrg (a.take s.lp.toNat) (b.take s.rp.toNat))<;>rfl
          ·rw[w1,(Bool.not_eq_true _).mp w2];rfl
         ·rw[(Bool.not_eq_true _).mp w1];rfl
      ·rw[eqF p2,cond_false,if_neg p2]
       by_cases p3:s.ph=3
       ·rw[eqT p3,cond_true,if_pos p3]
        by_cases w1:s.runs.length=1
        ·rw[eqT (by omega),cond_true,decide_eq_true w1]
         simp only[ZBE,ZGb (show s.inp.length≤1073741824 by omega),gA,Bool.true_and]
         by_cases w2:0≤s.lp∧s.lp<s.inp.length
         ·rw[decide_eq_true w2,cond_true]
          by_cases w3:s.rp=0
          ·rw[eqT w3,cond_true,decide_eq_true w3,Z95]
           unfold eqI
           simp
          ·rw[eqF w3,decide_eq_false w3];rfl
         ·rw[decide_eq_false w2];rfl
        ·rw[eqF (by omega),decide_eq_false w1];rfl
       ·rw[eqF p3,cond_false,if_neg p3]
        by_cases p4:s.ph=4
        ·rw[eqT p4,cond_true,if_pos p4]
         by_cases w1:s.runs.length≤1
         ·rw[leT (by omega),cond_true,decide_eq_true w1]
          by_cases w2:s.lp=s.inp.length
          ·rw[eqT w2,cond_true,decide_eq_true w2]
           by_cases w3:s.rp=0
           ·rw[eqT w3,cond_true,decide_eq_true w3,Z95]
            unfold eqI
            simp
           ·rw[eqF w3,decide_eq_false w3];rfl
          ·rw[eqF w2,decide_eq_false w2];rfl
         ·rw[leF (by omega),decide_eq_false w1];rfl
        ·rw[eqF p4,if_neg p4];rfl
    ·rw[ltT (by omega),Z95 s.dfd,decide_eq_false q3];simp
   ·rw[ltT (by omega),Z95 s.heap,decide_eq_false q2];rfl
  ·rw[eqF q1,decide_eq_false q1];rfl
theorem ZCR (s:So) (h:s.B2):callI tE Z64 [.sl (s.inp.map Rw.e),.int s.pos,.sl (s.heap.map Rw.e),.sl (s.dfd.map Rw.e),.sl (s.out.map Rw.e),.sl (s.runs.map rsE),.int s.lp,.int s.rp,.int s.ph,.int s.wr]=some [.bool (Z9T s)]:=by
 obtain⟨h1,h2,h3,h4,h5⟩:=h.b.p
 rw[ZAu]
 simp only[ZAc,ZBE,Z5L,ZFy s.runs h5,ZEc s.out (by omega),gA]
 unfold Z9T
 cases aok s.inp
 ·rfl
 ·by_cases hp:win s.pos 0 s.inp.length=true
  ·rw[hp]
   cases s.runs.all ZAB
   ·rfl
   ·by_cases hw:0≤s.wr
    ·rw[ltF hw,decide_eq_true hw]
     cases isS s.out
     ·rfl
     ·have:=ZAn (l:=s.heap) (L:=fun i=>Z6O 0 (s.heap.map Rw.e) (s.heap.length:Nat) i (s.inp.map Rw.e) s.pos (s.heap.map Rw.e) (s.dfd.map Rw.e) (s.out.map Rw.e) (s.runs.map rsE) s.lp s.rp s.ph s.wr) (p:=fun r=> !Z9H r s.out) (no:=some [.bool false]) (yes:=some [.bool (Z8a s)]) (by omega) (fun u a v e=>by
       have hu:u.length<s.heap.length:=by rw[e];simp
       have ha:at' (s.heap.map Rw.e) u.length=a.e:=ZC0 e rfl
       rw[Z86,ltT (by omega),cond_true,ZAr hu,cond_true]
       simp only[Z8q,ha,gk,gv,gw,ZIh a s.out (by omega),gA]
       cases Z9H a s.out<;>rfl) (ZJ5 s h hp 0 _ _)
      refine this.trans ?_
      cases s.heap.all fun r=> !Z9H r s.out<;>rfl
    ·rw[ltT (by omega),decide_eq_false hw];rfl
  ·rw[(Bool.not_eq_true _).mp hp];rfl
theorem ZJ6 (s:So) (h:s.B2) (hp:win s.pos 0 s.inp.length=true) (x0:Int):
  Z68 x0 (w64 ((s.out.length:Int)-1)) (s.heap.length:Nat) (s.inp.map Rw.e) s.pos (s.heap.map Rw.e) (s.dfd.map Rw.e) (s.out.map Rw.e) (s.runs.map rsE) s.lp s.rp s.ph s.wr=some [.bool (Z8a s)]:=by
 obtain⟨h1,h2,h3,h4,h5⟩:=h.b.p
 have hpp:=Z8c.mp hp
 have hfl:=ZE3 s.runs
 have hsz:s.inp.length+(s.heap.length+(s.dfd.length+(s.out.length+s.runs.flatten.length)))≤1073741800:=by
  simp only[So.B2,So.sz]at h;omega
 have hb1:=ZIj (s.runs.flatten++(s.out++(s.heap++s.dfd))) (s.inp.take s.pos.toNat) (by(first|omega|(simp only[List.length_append,List.length_cons,List.length_nil,List.length_map,List.length_take,List.length_drop,List.length_replicate,Z7w]at* <;>omega))) (by(first|omega|(simp only[List.length_append,List.length_cons,List.length_nil,List.length_map,List.length_take,List.length_drop,List.length_replicate,Z7w]at* <;>omega)))
 have hb2:=ZIj s.runs.flatten s.inp (by omega) (by omega)
 have f1:fitM (s.runs.flatten.length+s.out.length) 24=true:=Z9X (by omega)
 have f2:fitM ((s.runs.flatten++s.out).length+s.heap.length) 24=true:=Z9X (by(first|omega|(simp only[List.length_append,List.length_cons,List.length_nil,List.length_map,List.length_take,List.length_drop,List.length_replicate,Z7w]at* <;>omega)))
 have f3:fitM ((s.runs.flatten++s.out++s.heap).length+s.dfd.length) 24=true:=Z9X (by(first|omega|(simp only[List.length_append,List.length_cons,List.length_nil,List.length_map,List.length_take,List.length_drop,List.length_replicate,Z7w]at* <;>omega)))
 have hass:s.runs.flatten++s.out++s.heap++s.dfd=s.runs.flatten++(s.out++(s.heap++s.dfd)):=by simp
 have hlast:leI 0 (w64 ((s.out.length:Int)-1))=decide (0<s.out.length):=by
  rw[Z5a ⟨by omega,by omega⟩];unfold leI;congr 1;apply propext;omega
 rw[Z85,Z5L,ltF (Int.le_refl _),cond_false]
 simp only[ZH8 s.runs h5,ZJQ s h.b,gA,hb2,ZFh,Z5o,ZAo,f1,f2,f3,cond_true,hass,hb1,hlast,Z5L]
 unfold Z8a
 by_cases p1:s.ph=1
 ·rw[eqT p1,cond_true,if_pos p1]
  by_cases q1:s.lp=0
  ·rw[eqT q1,cond_true,decide_eq_true q1]
   by_cases q2:s.rp=0
   ·rw[eqT q2,cond_true,decide_eq_true q2,leT (show 0≤s.pos by omega),leT (show s.pos≤s.inp.length by omega)]
    simp only[Bool.and_self,cond_true,ZFi]
    by_cases q4:s.dfd.length=0
    ·rw[eqT (by omega),cond_true,decide_eq_true (show s.out≠[]∨s.dfd=[]from .inr (List.length_eq_zero_iff.mp q4))]
     cases decide (ZC2 s≤60)<;>rfl
    ·rw[eqF (by omega),cond_false]
     by_cases q3:0<s.out.length
     ·rw[decide_eq_true q3,cond_true,decide_eq_true (show s.out≠[]∨s.dfd=[]from .inl (fun e=>by rw[e]at q3;simp at q3))]
      cases decide (ZC2 s≤60)<;>rfl
     ·have qo:s.out=[]:=List.length_eq_zero_iff.mp (by omega)
      rw[decide_eq_false q3,cond_false,decide_eq_false (show¬(s.out≠[]∨s.dfd=[])from fun e=>e.elim (fun e=>e qo) (fun e=>q4 (by rw[e];rfl)))]
      rfl
   ·rw[eqF q2,decide_eq_false q2];rfl
  ·rw[eqF q1,decide_eq_false q1];rfl
 ·rw[eqF p1,cond_false,if_neg p1]
  by_cases q1:s.pos=s.inp.length
  ·rw[eqT q1,Bool.not_true,cond_false,decide_eq_true q1,Z5a (n:=(s.heap.length:Int)+(s.dfd.length:Int)) ⟨by omega,by omega⟩]
   by_cases q2:s.heap.length=0
   ·by_cases q3:s.dfd.length=0
    ·rw[ltF (by omega),cond_false,Z95 s.heap,decide_eq_true q2,Z95 s.dfd,decide_eq_true q3]
     simp only[Bool.true_and]
     unfold Z8H
     by_cases p2:s.ph=2
     ·rw[eqT p2,cond_true,if_pos p2]
      unfold ZDA
      cases hr:s.runs with
      |nil=>simp[ltI]
      |cons a r=>
       cases r with
       |nil=>simp[ltI]
       |cons b r=>
        have ha:a.length≤1073741824:=Nat.le_trans (Z8W (by rw[hr];simp)) h5
        have hb:b.length≤1073741824:=Nat.le_trans (Z8W (by rw[hr];simp)) h5
        have g0:at' ((a::b::r).map rsE) (tn 0)=rsE a:=rfl
        have g1:at' ((a::b::r).map rsE) (tn 1)=rsE b:=rfl
        have l0:ltI ((a::b::r).length:Int) 2=false:=ltF (by simp;omega)
        have l1:inR 0 ((a::b::r).length:Int)=true:=ZCF (by omega) (by simp;omega)
        have l2:inR 1 ((a::b::r).length:Int)=true:=ZCF (by omega) (by simp;omega)
        simp only[l0,l1,l2,cond_true,cond_false,g0,g1,rsE,gA,Z5L,ZCj]
        by_cases w1:win s.lp 0 a.length=true
        ·by_cases w2:win s.rp 0 b.length=true
         ·have w3:=Z8c.mp w1
          have w4:=Z8c.mp w2
          have m1:=ZJP (a.take s.lp.toNat) (b.take s.rp.toNat) (by simp;omega)
          have m2:=ZJP a b (by omega)
          have ml:=Z8G a b
          have ml2:=Z8G (a.take s.lp.toNat) (b.take s.rp.toNat)
          simp only[List.length_take]at ml2
          have e1:=ZBw (mrg (a.take s.lp.toNat) (b.take s.rp.toNat)) s.out (by omega)
          have e2:=ZBw s.out ((mrg a b).take (s.lp.toNat+s.rp.toNat)) (by omega)
          have e3:w64 (s.lp+s.rp)=s.lp+s.rp:=Z5a ⟨by omega,by omega⟩
          have e4:(s.lp+s.rp).toNat=s.lp.toNat+s.rp.toNat:=by omega
          have e5:decide (mrg (a.take s.lp.toNat) (b.take s.rp.toNat)=s.out)=decide (s.out=mrg (a.take s.lp.toNat) (b.take s.rp.toNat)):=by
           congr 1;exact propext ⟨fun e=>e.symm,fun e=>e.symm⟩
          rw[w1,w2,leT w3.1,leT w3.2,leT w4.1,leT w4.2]
          simp only[Bool.not_true,cond_false,Bool.and_self,cond_true,ZFh,m1,m2,gA,e3,e4,Z5L,e2,e1]
          rw[leT (by omega),leT (by rw[ml];omega),e5]
          simp only[Bool.and_self,cond_true,Bool.true_and]
          cases decide (s.out=(mrg a b).take (s.lp.toNat+s.rp.toNat))<;>cases decide (s.out=mrg (a.take s.lp.toNat) (b.take s.rp.toNat))<;>simp
         ·rw[w1,(Bool.not_eq_true _).mp w2];simp
        ·rw[(Bool.not_eq_true _).mp w1];simp
     ·rw[eqF p2,cond_false,if_neg p2]
      by_cases w1:s.runs.length≤1
      ·rw[ltF (by omega),cond_false]
       by_cases w2:s.rp=0
       ·rw[eqT w2,Bool.not_true,cond_false,decide_eq_true w2]
        by_cases w3:s.out.length=0
        ·rw[ltF (by omega),cond_false,Z95 s.out,decide_eq_true w3]
         cases ZDS s.runs.flatten s.inp
         ·rfl
         ·simp only[Bool.not_true,cond_false,Bool.true_and,Bool.and_true]
          by_cases p3:s.ph=3
          ·rw[eqT p3,cond_true,if_pos p3]
           by_cases w4:s.runs.length=1
           ·rw[eqT (by omega),cond_true,decide_eq_true w4]
            simp only[ZCj,ZGb (show s.inp.length≤1073741824 by omega),gA,Bool.true_and]
           ·rw[eqF (by omega),decide_eq_false w4];rfl
          ·rw[eqF p3,cond_false,if_neg p3]
           by_cases p4:s.ph=4
           ·rw[eqT p4,cond_true,if_pos p4,decide_eq_true w1]
            unfold eqI
            simp
           ·rw[eqF p4,if_neg p4];rfl
        ·rw[ltT (by omega),Z95 s.out,decide_eq_false w3]
         simp
       ·rw[eqF w2,decide_eq_false w2]
        simp
      ·rw[ltT (by omega),decide_eq_false w1,decide_eq_false (show¬s.runs.length=1 by omega)]
       simp
    ·rw[ltT (by omega),Z95 s.dfd,decide_eq_false q3];simp
   ·rw[ltT (by omega),Z95 s.heap,decide_eq_false q2];simp
  ·rw[eqF q1,decide_eq_false q1];rfl
theorem ZCS (s:So) (h:s.B2):callI tE Z63 [.sl (s.inp.map Rw.e),.int s.pos,.sl (s.heap.map Rw.e),.sl (s.dfd.map Rw.e),.sl (s.out.map Rw.e),.sl (s.runs.map rsE),.int s.lp,.int s.rp,.int s.ph,.int s.wr]=some [.bool (Z9T s)]:=by
 obtain⟨h1,h2,h3,h4,h5⟩:=h.b.p
 rw[ZAt]
 simp only[Z8x s.inp (by omega),ZCj,Z5L,ZFz s.runs h5,ZEe s.out (by omega),gA]
 unfold Z9T
 cases aok s.inp
 ·rfl
 ·by_cases hp:win s.pos 0 s.inp.length=true
  ·rw[hp]
   cases s.runs.all ZAB
   ·rfl
   ·by_cases hw:0≤s.wr
    ·rw[ltF hw,decide_eq_true hw]
     cases isS s.out
     ·rfl
     ·have hlast:leI 0 (w64 ((s.out.length:Int)-1))=decide (0<s.out.length):=by
       rw[Z5a ⟨by omega,by omega⟩];unfold leI;congr 1;apply propext;omega
      have:=ZAn (l:=s.heap) (L:=fun i=>Z68 0 (w64 ((s.out.length:Int)-1)) i (s.inp.map Rw.e) s.pos (s.heap.map Rw.e) (s.dfd.map Rw.e) (s.out.map Rw.e) (s.runs.map rsE) s.lp s.rp s.ph s.wr) (p:=fun r=> !Z9H r s.out) (no:=some [.bool false]) (yes:=some [.bool (Z8a s)]) (by omega) (fun u a v e=>by
       have hu:u.length<s.heap.length:=by rw[e];simp
       have ha:at' (s.heap.map Rw.e) u.length=a.e:=ZC0 e rfl
       rw[Z85,Z5L,ltT (by omega),cond_true,hlast]
       rcases ZE2 s.out with ho|⟨q,x,ho⟩
       ·rw[ho,ZAs];rfl
       ·have hx:at' (s.out.map Rw.e) q.length=x.e:=ZC0 (u:=q) (v:=[]) (by rw[ho]) rfl
        have hql:s.out.length=q.length+1:=by rw[ho];simp
        have hl2:w64 ((s.out.length:Int)-1)=(q.length:Int):=by rw[Z5a ⟨by omega,by omega⟩];omega
        rw[decide_eq_true (by omega:0<s.out.length),cond_true,hl2,ZCF (by omega) (by omega),ZAr (by omega)]
        simp only[cond_true,Z8q,ha,hx,gk,gv,gw,ZAG,gA,Z9x]
        rw[show Z9H a s.out=decide (Rw.lt a x)by rw[ho,Z9b]]
        cases decide (Rw.lt a x)<;>rfl) (ZJ6 s h hp 0)
      refine this.trans ?_
      cases s.heap.all fun r=> !Z9H r s.out<;>rfl
    ·rw[ltT (by omega),decide_eq_false hw];rfl
  ·rw[(Bool.not_eq_true _).mp hp];rfl
def ZGd (s:So):Int:=if Z9T s then(if s.ph=3∨s.ph=4 then w64 ((s.inp.length:Int)-s.lp)else s.inp.length)else 0
theorem ZJb (s:So) (h:s.B2):callI tE Z7z [.sl (s.inp.map Rw.e),.int s.pos,.sl (s.heap.map Rw.e),.sl (s.dfd.map Rw.e),.sl (s.out.map Rw.e),.sl (s.runs.map rsE),.int s.lp,.int s.rp,.int s.ph,.int s.wr]=some [.int (ZGd s)]:=by
 rw[ZAv,ZCR s h]
 simp only[gA,Z5L]
 unfold ZGd
 by_cases hv:Z9T s=true
 ·rw[hv,if_pos rfl]
  by_cases p3:s.ph=3
  ·rw[eqT p3,if_pos (.inl p3)];rfl
  ·rw[eqF p3]
   by_cases p4:s.ph=4
   ·rw[eqT p4,if_pos (.inr p4)];rfl
   ·rw[eqF p4,if_neg (fun e=>e.elim p3 p4)];rfl
 ·rw[(Bool.not_eq_true _).mp hv];rfl
theorem ZJc (s:So) (h:s.B2):callI tE Z80 [.sl (s.inp.map Rw.e),.int s.pos,.sl (s.heap.map Rw.e),.sl (s.dfd.map Rw.e),.sl (s.out.map Rw.e),.sl (s.runs.map rsE),.int s.lp,.int s.rp,.int s.ph,.int s.wr]=some [.int (ZGd s)]:=by
 rw[ZAw,ZCS s h]
 simp only[gA,Z5L]
 unfold ZGd
 by_cases hv:Z9T s=true
 ·rw[hv,if_pos rfl]
  by_cases p3:s.ph=3
  ·rw[eqT p3,if_pos (.inl p3)];rfl
  ·rw[eqF p3]
   by_cases p4:s.ph=4
   ·rw[eqT p4,if_pos (.inr p4)];rfl
   ·rw[eqF p4,if_neg (fun e=>e.elim p3 p4)];rfl
 ·rw[(Bool.not_eq_true _).mp hv];rfl
def ZDh (c:Ck):Bool:=Z9T c.so&&(aok c.em&&(decide (w64 ((c.em.length:Int)+ZGd c.so)=c.so.inp.length)&&decide (c.em=(ZAN c.so.inp).take c.em.length)))
def Ck.B2 (c:Ck):Prop:=c.sz≤1073741800
theorem ZHd {s:So} (h:s.B2):0≤ZGd s∧ZGd s≤s.inp.length:=by
 obtain⟨h1,h2,h3,h4,h5⟩:=h.b.p
 unfold ZGd
 by_cases hv:Z9T s=true
 ·rw[if_pos hv]
  by_cases hp:s.ph=3∨s.ph=4
  ·rw[if_pos hp]
   have hlp:0≤s.lp∧s.lp≤s.inp.length:=by
    simp only[Z9T,Bool.and_eq_true]at hv
    have ht:=hv.2.2.2.2.2.2
    unfold Z8a at ht
    rw[if_neg (by omega)]at ht
    simp only[Bool.and_eq_true]at ht
    have hl:=ht.2.2.2.2
    unfold Z8H at hl
    rw[if_neg (by omega)]at hl
    by_cases p3:s.ph=3
    ·rw[if_pos p3]at hl
     simp only[Bool.and_eq_true,decide_eq_true_eq]at hl
     omega
    ·rw[if_neg p3,if_pos (by omega)]at hl
     simp only[Bool.and_eq_true,decide_eq_true_eq]at hl
     omega
   rw[Z5a ⟨by omega,by omega⟩]
   omega
  ·rw[if_neg hp];omega
 ·rw[if_neg hv];omega
theorem ZE4 (c:Ck) (h:c.B2):callI tE Z6C [.sl (c.so.inp.map Rw.e),.int c.so.pos,.sl (c.so.heap.map Rw.e),.sl (c.so.dfd.map Rw.e),.sl (c.so.out.map Rw.e),.sl (c.so.runs.map rsE),.int c.so.lp,.int c.so.rp,.int c.so.ph,.int c.so.wr,.sl (c.em.map Rw.e)]=some [.bool (ZDh c)]:=by
 have hso:c.so.B2:=by simp only[Ck.B2,Ck.sz,So.B2]at*;omega
 have hem:c.em.length≤1073741824:=by simp only[Ck.B2,Ck.sz]at h;omega
 obtain⟨h1,h2,h3,h4,h5⟩:=hso.b.p
 have hr:=ZHd hso
 rw[ZA8]
 simp only[ZCR c.so hso,ZAc,ZJb c.so hso,ZI1 c.so.inp (by omega),gA,Z5L]
 unfold ZDh
 cases Z9T c.so
 ·rfl
 ·cases aok c.em
  ·rfl
  ·simp only[cond_true,Bool.true_and]
   by_cases hq:w64 ((c.em.length:Int)+ZGd c.so)=c.so.inp.length
   ·rw[eqT hq,decide_eq_true hq]
    rw[Z5a ⟨by omega,by omega⟩]at hq
    rw[leT (by omega),leT (by rw[Z87];omega)]
    simp only[Bool.and_self,cond_true,ZHc,ZFP c.em _ (show c.em.length≤1152921504606846976 by omega),gA,Bool.true_and]
   ·rw[eqF hq,decide_eq_false hq];rfl
theorem ZFj (c:Ck) (h:c.B2):callI tE Z6a [.sl (c.so.inp.map Rw.e),.int c.so.pos,.sl (c.so.heap.map Rw.e),.sl (c.so.dfd.map Rw.e),.sl (c.so.out.map Rw.e),.sl (c.so.runs.map rsE),.int c.so.lp,.int c.so.rp,.int c.so.ph,.int c.so.wr,.sl (c.em.map Rw.e)]=some [.bool (ZDh c)]:=by
 have hso:c.so.B2:=by simp only[Ck.B2,Ck.sz,So.B2]at*;omega
 have hem:c.em.length≤1073741824:=by simp only[Ck.B2,Ck.sz]at h;omega
 obtain⟨h1,h2,h3,h4,h5⟩:=hso.b.p
 have hr:=ZHd hso
 rw[ZA9]
 simp only[ZCS c.so hso,Z8x c.em (by omega),ZJc c.so hso,ZI2 c.so.inp (by omega),gA,Z5L]
 unfold ZDh
 cases Z9T c.so
 ·rfl
 ·cases aok c.em
  ·rfl
  ·simp only[Bool.not_true,cond_false,Bool.true_and]
   by_cases hq:w64 ((c.em.length:Int)+ZGd c.so)=c.so.inp.length
   ·rw[eqT hq,decide_eq_true hq]
    rw[Z5a ⟨by omega,by omega⟩]at hq
    rw[leT (by omega),leT (by rw[Z87];omega)]
    simp only[Bool.not_true,cond_false,Bool.and_self,cond_true,ZHc,ZBw c.em _ (show c.em.length≤1152921504606846976 by omega),gA,Bool.true_and]
   ·rw[eqF hq,decide_eq_false hq];rfl
theorem ZE5 {b:UInt8} {c:Nat}:∀{l:List (List UInt8)},(∀x∈l,x.length≤c)→(l.map fun x=>x.length+[b].length).sum≤(c+1)*l.length
 |[],_=>by simp
 |x::l,h=>by
  have h1:=h x (by simp)
  have ih:=ZE5 (b:=b) (l:=l) (fun y hy=>h y (by simp[hy]))
  simp only[List.map_cons,List.sum_cons,List.length_cons,List.length_nil]at ih⊢
  rw[Nat.mul_add];omega
theorem ZGe {b:UInt8} {c:Nat} {l:List (List UInt8)} (h:∀x∈l,x.length≤c):(Z7Q [b] l).length≤(c+1)*l.length:=Nat.le_trans (ZBI _ _) (ZE5 h)
theorem ZAP {b c:UInt8} (h:b≠c):∀l:List (List UInt8),(∀x∈l,b∉x)→b∉Z7Q [c] l
 |[],_=>by simp[Z7Q]
 |[x],hx=>by simpa[Z7Q]using hx x (by simp)
 |x::y::r,hx=>by
  have ih:=ZAP h (y::r) (fun z hz=>hx z (by simp[hz]))
  rw[Z8D (by simp)]
  simp only[List.mem_append,List.mem_singleton,not_or]
  exact⟨⟨hx x (by simp),h⟩,ih⟩
theorem ZF7 {b:UInt8} (hb:Z93 b=false) (h45:b≠45) (h46:b≠46) (h32:b≠32) (l:List Rw):b∉ZAS l:=
 ZAP h32 _ (fun x hx=>by
  obtain⟨r,_,rfl⟩:=List.mem_map.mp hx
  exact ZDd hb h45 h46 r)
theorem Z9c {b:UInt8} (hb:Z93 b=false) (h45:b≠45) (h46:b≠46) (h32:b≠32) (l:List Rw):b∉Z6c l:=by
 unfold Z6c
 split
 ·exact ZF7 hb h45 h46 h32 l
 ·simp
def Z6m (l:List (List Rw)):List UInt8:=Z7Q [124] (l.map Z6c)
theorem ZFk (l:List (List Rw)):∀x∈l.map Z6c,x.length≤1512:=fun x hx=>by
 obtain⟨r,_,rfl⟩:=List.mem_map.mp hx
 exact Z69 r
theorem Z9d (l:List (List Rw)):(Z6m l).length≤1513*l.length:=by have:=ZGe (b:=124) (ZFk l);simpa[Z6m]using this
theorem ZBX {b:UInt8} (hb:Z93 b=false) (h45:b≠45) (h46:b≠46) (h32:b≠32) (h124:b≠124) (l:List (List Rw)):b∉Z6m l:=
 ZAP h124 _ (fun x hx=>by
  obtain⟨r,_,rfl⟩:=List.mem_map.mp hx
  exact Z9c hb h45 h46 h32 r)
theorem ZF8 (l:List (List Rw)) (h:Z9k l):callI tE Z7p [.sl (l.map rsE)]=some [.str (S (Z6m l))]:=by
 have hl:=Z7l List.length l
 unfold Z9k at h
 rw[ZBq]
 have hj:=ZE5 (b:=124) (ZFk l)
 rw[List.length_map]at hj
 have:=Z6i (l:=l) (L:=fun(s:List (List UInt8)) i=>Z6B (l.map rsE) (lenI (l.map rsE)) i (s.map StE)) (F:=fun _ _=>some [.str (S (Z6m l))]) (I:=fun s u _=>s=u.map Z6c) (by omega) (fun u a v s e hI=>by
  have hul:u.length<1099511627776:=by rw[e]at hl;simp at hl;rw[e]at h;omega
  refine .inl ⟨(u++[a]).map Z6c,?_,rfl,rfl⟩
  show Z6B _ _ _ _=Z6B _ _ _ _
  have hf:fitM (Nat.succ u.length) 16=true:=Z9X (by omega)
  subst e
  rw[Z8Z,hI]
  simp only[ZEF,ZEP,Z8q,ZDt,cond_true,rsE,gA,ZB3,Z5o]
  rw[List.length_map,hf,cond_true,ZBL]
  simp) (fun s hs=>by
  show Z6B _ _ _ _=_
  rw[Z8Z,ZDu,cond_false,hs,ZF2 [124] (l.map Z6c) (by simp;omega) (by omega)];rfl) [] rfl
 exact this
theorem ZF9 (l:List (List Rw)) (h:Z9k l):callI tE Z7n [.sl (l.map rsE)]=some [.str (S (Z6m l))]:=by
 have hl:=Z7l List.length l
 unfold Z9k at h
 rw[ZBp]
 have:=Z6i (l:=l) (L:=fun s i=>Z5w (l.map rsE) (S s) i) (F:=fun _ _=>some [.str (S (Z6m l))]) (I:=fun s u _=>s=Z6m u) (by omega) (fun u a v s e hI=>by
  have hul:u.length<1099511627776:=by rw[e]at hl;simp at hl;rw[e]at h;omega
  have ha:a.length≤1073741824:=Nat.le_trans (Z8W (by rw[e];simp)) h
  have l0:=Z9d u
  have l1:=Z69 a
  refine .inl ⟨Z6m (u++[a]),?_,rfl,rfl⟩
  show Z5w _ _ _=Z5w _ _ _
  have ej:Z6m (u++[a])=if u=[]then Z6c a else Z6m u++[124]++Z6c a:=by
   unfold Z6m
   rw[List.map_append,List.map_cons,List.map_nil,ZF1]
   simp
  subst e
  rw[Z8Y,hI,ej]
  simp only[ZEF,ZEP,Z8q,ZDt,cond_true,rsE,gA,Z8h a (show a.length<1099511627776 by omega)]
  by_cases hu:u=[]
  ·have e0:Z6m u=[]:=by rw[hu];rfl
   rw[if_pos hu,ltF (by simp[hu]),e0,cond_false,Z5u (by simp;omega),Z6e]
   rfl
  ·have hul:0<u.length:=List.length_pos_iff.mpr hu
   rw[if_neg hu,ltT (by omega),cond_true,Z5u (by simp;omega),Z6e,cond_true,Z5u (by simp;omega),Z6e,cond_true]) (fun s hs=>by
  show Z5w _ _ _=_
  rw[Z8Y,ZDu,cond_false,hs]) [] rfl
 exact this
theorem Z7y:∀(n:Nat) (a b:List Rw),a.length+b.length=n→(mrg a b).Perm (a++b)
 |_,[],b,_=>by rw[Z8j];exact List.Perm.refl _
 |_,x::a,[],_=>by rw[Z9O];simp
 |0,x::a,y::b,h=>by simp at h
 |n+1,x::a,y::b,h=>by
  simp only[List.length_cons]at h
  rw[ZD9]
  split
  ·exact(Z7y n a (y::b) (by simp;omega)).cons x
  ·exact((Z7y n (x::a) b (by simp;omega)).cons y).trans (List.perm_middle.symm)
theorem ZE6 {l m:List Rw} (h:aok m=true) (hl:l.length≤m.length) (hs:∀r∈l,r∈m):aok l=true:=by
 have:=ZEu.mp h
 exact ZEu.mpr ⟨by omega,fun r hr=>this.2 r (hs r hr)⟩
theorem Z9I {s:So} (h:Z9T s=true):aok s.inp=true∧(0≤s.pos∧s.pos≤s.inp.length)∧(∀r∈s.runs,ZAB r=true)∧0≤s.wr∧Srt s.out∧(∀r∈s.heap,Z9H r s.out=false)∧Z8a s=true:=by
 simp only[Z9T,Bool.and_eq_true,Z8c,decide_eq_true_eq,List.all_eq_true,ZD8,Bool.not_eq_true']at h
 exact h
theorem Z9q {s:So} (h:Z8a s=true) (p:s.ph=1):s.lp=0∧s.rp=0∧(s.out≠[]∨s.dfd=[])∧ZC2 s≤60∧(s.runs.flatten++(s.out++(s.heap++s.dfd))).Perm (s.inp.take s.pos.toNat):=by
 unfold Z8a at h
 rw[if_pos p]at h
 simp only[Bool.and_eq_true,decide_eq_true_eq,ZAi]at h
 exact h
theorem Z9P {s:So} (h:Z8a s=true) (p:s.ph≠1):s.pos=s.inp.length∧s.heap=[]∧s.dfd=[]∧s.runs.flatten.Perm s.inp∧Z8H s=true:=by
 unfold Z8a at h
 rw[if_neg p]at h
 simp only[Bool.and_eq_true,decide_eq_true_eq,ZAi]at h
 exact h
theorem ZBY {s:So} (h:Z8H s=true) (p:s.ph=2):∃a b r,s.runs=a::b::r∧(0≤s.lp∧s.lp≤a.length)∧(0≤s.rp∧s.rp≤b.length)∧s.out=mrg (a.take s.lp.toNat) (b.take s.rp.toNat)∧s.out=(mrg a b).take (s.lp.toNat+s.rp.toNat):=by
 unfold Z8H at h
 rw[if_pos p]at h
 unfold ZDA at h
 split at h
 ·rename_i a b r hr
  simp only[Bool.and_eq_true,decide_eq_true_eq,Z8c]at h
  exact⟨a,b,r,hr,h.1,h.2.1,h.2.2.1,h.2.2.2⟩
 ·cases h
theorem ZBZ {s:So} (h:Z8H s=true) (p:s.ph=3):s.runs.length=1∧(0≤s.lp∧s.lp<s.inp.length)∧s.rp=0∧s.out=[]:=by
 unfold Z8H at h
 rw[if_neg (by omega),if_pos p]at h
 simp only[Bool.and_eq_true,decide_eq_true_eq]at h
 exact⟨h.1,h.2.1,h.2.2.1,h.2.2.2⟩
theorem ZE7 {s:So} (h:Z8H s=true) (p:s.ph=4):s.runs.length≤1∧s.lp=s.inp.length∧s.rp=0∧s.out=[]:=by
 unfold Z8H at h
 rw[if_neg (by omega),if_neg (by omega),if_pos p]at h
 simp only[Bool.and_eq_true,decide_eq_true_eq]at h
 exact⟨h.1,h.2.1,h.2.2.1,h.2.2.2⟩
theorem ZAj {s:So} (h:Z8H s=true):s.ph=2∨s.ph=3∨s.ph=4:=by
 unfold Z8H at h
 split at h
 ·exact .inl (by assumption)
 ·split at h
  ·exact .inr (.inl (by assumption))
  ·split at h
   ·exact .inr (.inr (by assumption))
   ·cases h
theorem ZDB {s:So} (h:Z9T s=true):aok s.heap=true∧aok s.dfd=true∧aok s.out=true:=by
 obtain⟨h1,h2,h3,h4,h5,h6,h7⟩:=Z9I h
 by_cases p1:s.ph=1
 ·obtain⟨q1,q2,q3,q4,q5⟩:=Z9q h7 p1
  have hlen:=q5.length_eq
  simp only[List.length_append,List.length_take]at hlen
  have hm:∀r,r∈s.runs.flatten++(s.out++(s.heap++s.dfd))→r∈s.inp:=fun r hr=>List.mem_of_mem_take (q5.mem_iff.mp hr)
  refine⟨ZE6 h1 (by omega) (fun r hr=>hm r ?_),ZE6 h1 (by omega) (fun r hr=>hm r ?_),ZE6 h1 (by omega) (fun r hr=>hm r ?_)⟩
  ·exact List.mem_append_right _ (List.mem_append_right _ (List.mem_append_left _ hr))
  ·exact List.mem_append_right _ (List.mem_append_right _ (List.mem_append_right _ hr))
  ·exact List.mem_append_right _ (List.mem_append_left _ hr)
 ·obtain⟨q1,q2,q3,q4,q5⟩:=Z9P h7 p1
  refine⟨by rw[q2];rfl,by rw[q3];rfl,?_⟩
  rcases ZAj q5 with p|p|p
  ·obtain⟨a,b,r,e1,e2,e3,e4,e5⟩:=ZBY q5 p
   have hp:=Z7y _ a b rfl
   have hlen:=q4.length_eq
   rw[e1]at hlen
   simp only[List.flatten_cons,List.length_append]at hlen
   have ml:=Z8G a b
   refine ZE6 h1 (by rw[e5,List.length_take];omega) (fun x hx=>?_)
   rw[e5]at hx
   have hx2:=hp.mem_iff.mp (List.mem_of_mem_take hx)
   refine q4.mem_iff.mp ?_
   rw[e1]
   simp only[List.flatten_cons,List.mem_append]at hx2⊢
   rcases hx2 with hx2|hx2
   ·exact .inl hx2
   ·exact .inr (.inl hx2)
  ·rw[(ZBZ q5 p).2.2.2];rfl
  ·rw[(ZE7 q5 p).2.2.2];rfl
def ZFA (s:So):List (List UInt8):=[Z6c s.inp,fmt s.pos,Z6c s.heap,Z6c s.dfd,Z6c s.out,Z6m s.runs,fmt s.lp,fmt s.rp,fmt s.ph,fmt s.wr]
def ZAV (s:So):List UInt8:=Z7Q [47] (ZFA s)
def ZAW (s:So):List UInt8:=if Z9T s then ZAV s else[]
def So.nb (s:So):Prop:=I64 s.pos∧I64 s.lp∧I64 s.rp∧I64 s.ph∧I64 s.wr
theorem ZE8 (s:So):ZAV s=Z6c s.inp++[47]++fmt s.pos++[47]++Z6c s.heap++[47]++Z6c s.dfd++[47]++Z6c s.out++[47]++Z6m s.runs++[47]++fmt s.lp++[47]++fmt s.rp++[47]++fmt s.ph++[47]++fmt s.wr:=by
 simp[ZAV,ZFA,Z7Q]
theorem ZEh (s:So) (hb:s.nb) (h:Z9k s.runs):(ZAV s).length≤1624571391080:=by
 obtain⟨b1,b2,b3,b4,b5⟩:=hb
 have hl:=Z7l List.length s.runs
 unfold Z9k at h
 have a1:=Z6I b1
 have a2:=Z6I b2
 have a3:=Z6I b3
 have a4:=Z6I b4
 have a5:=Z6I b5
 have l1:=Z69 s.inp
 have l2:=Z69 s.heap
 have l3:=Z69 s.dfd
 have l4:=Z69 s.out
 have l5:=Z9d s.runs
 rw[ZE8]
 simp only[List.length_append,List.length_cons,List.length_nil]
 omega
theorem ZEi (s:So) (h:s.B2) (hb:s.nb):callI tE Z7P [.sl (s.inp.map Rw.e),.int s.pos,.sl (s.heap.map Rw.e),.sl (s.dfd.map Rw.e),.sl (s.out.map Rw.e),.sl (s.runs.map rsE),.int s.lp,.int s.rp,.int s.ph,.int s.wr]=some [.str (S (ZAW s))]:=by
 obtain⟨h1,h2,h3,h4,h5⟩:=h.b.p
 have hl:=Z7l List.length s.runs
 have h5':=h5
 unfold Z9k at h5'
 obtain⟨b1,b2,b3,b4,b5⟩:=hb
 rw[ZBA,ZCR s h]
 simp only[gA]
 unfold ZAW
 by_cases hv:Z9T s=true
 ·obtain⟨r1,r2,r3⟩:=ZDB hv
  have a1:=Z6I b1
  have a2:=Z6I b2
  have a3:=Z6I b3
  have a4:=Z6I b4
  have a5:=Z6I b5
  have l1:=Z69 s.inp
  have l2:=Z69 s.heap
  have l3:=Z69 s.dfd
  have l4:=Z69 s.out
  have l5:=Z9d s.runs
  have t2:=ZBN s.heap (by omega)
  have t3:=ZBN s.dfd (by omega)
  have t4:=ZBN s.out (by omega)
  rw[←Z8R r1]at t2
  rw[←Z8R r2]at t3
  rw[←Z8R r3]at t4
  have hj:=ZF2 [47] (ZFA s) (by simp[ZFA]) (by simp[ZFA];omega)
  simp only[ZFA,List.map_cons,List.map_nil,StE]at hj
  rw[hv,if_pos rfl,Bool.not_true,cond_false]
  simp only[ZB3,Z6V b1,Z6V b2,Z6V b3,Z6V b4,Z6V b5,t2,t3,t4,ZF8 s.runs h5,gA,hj]
  rfl
 ·rw[if_neg hv,(Bool.not_eq_true _).mp hv];rfl
theorem ZEj (s:So) (h:s.B2) (hb:s.nb):callI tE Z6P [.sl (s.inp.map Rw.e),.int s.pos,.sl (s.heap.map Rw.e),.sl (s.dfd.map Rw.e),.sl (s.out.map Rw.e),.sl (s.runs.map rsE),.int s.lp,.int s.rp,.int s.ph,.int s.wr]=some [.str (S (ZAW s))]:=by
 obtain⟨h1,h2,h3,h4,h5⟩:=h.b.p
 have hl:=Z7l List.length s.runs
 have h5':=h5
 unfold Z9k at h5'
 obtain⟨b1,b2,b3,b4,b5⟩:=hb
 rw[ZB9,ZCS s h]
 simp only[gA]
 unfold ZAW
 by_cases hv:Z9T s=true
 ·have a1:=Z6I b1
  have a2:=Z6I b2
  have a3:=Z6I b3
  have a4:=Z6I b4
  have a5:=Z6I b5
  have l1:=Z69 s.inp
  have l2:=Z69 s.heap
  have l3:=Z69 s.dfd
  have l4:=Z69 s.out
  have l5:=Z9d s.runs
  rw[hv,if_pos rfl,Bool.not_true,cond_false,ZE8]
  simp only[Z8h s.inp (by omega),Z8h s.heap (by omega),Z8h s.dfd (by omega),Z8h s.out (by omega),Z6j b1,Z6j b2,Z6j b3,Z6j b4,Z6j b5,ZF9 s.runs h5,gA]
  rw[Z5u (by simp;omega),Z6e,cond_true,Z5u (by simp;omega),Z6e,cond_true,Z5u (by simp;omega),Z6e,cond_true,Z5u (by simp;omega),Z6e,cond_true,Z5u (by simp;omega),Z6e,cond_true,Z5u (by simp;omega),Z6e,cond_true]
  rw[Z5u (by simp;omega),Z6e,cond_true,Z5u (by simp;omega),Z6e,cond_true,Z5u (by simp;omega),Z6e,cond_true,Z5u (by simp;omega),Z6e,cond_true,Z5u (by simp;omega),Z6e,cond_true,Z5u (by simp;omega),Z6e,cond_true]
  rw[Z5u (by simp;omega),Z6e,cond_true,Z5u (by simp;omega),Z6e,cond_true,Z5u (by simp;omega),Z6e,cond_true,Z5u (by simp;omega),Z6e,cond_true,Z5u (by simp;omega),Z6e,cond_true,Z5u (by simp;omega),Z6e,cond_true]
 ·rw[if_neg hv,(Bool.not_eq_true _).mp hv];rfl
theorem ZIk {α:Type} {e:α→List Dat} {l:List α} {k:Nat} {a:α} (h:l[k]?=some a):at' (l.map e) k=e a:=by
 simp[List.getD_eq_getElem?_getD,h]
theorem ZIl {α:Type} {e:α→List Dat} {l:List α} {k:Nat} {a:α} (h:l[k]?=some a):inR (k:Int) (lenI (l.map e))=true:=ZAr (List.getElem?_eq_some_iff.mp h).1
def ZFB:Nat→Rw→Nat→List Rw→Nat
 |b,_,_,[]=>b
 |b,m,i,a::l=>if Rw.lt a m then ZFB i a (i+1) l else ZFB b m (i+1) l
def ZDC:List Rw→Nat
 |[]=>0
 |a::l=>ZFB 0 a 1 l
theorem ZE9:∀(v u:List Rw) (b:Nat) (m:Rw),(u++v)[b]?=some m→(∀x∈u,Rw.le m x)→∃m',(u++v)[ZFB b m u.length v]?=some m'∧∀x∈u++v,Rw.le m' x
 |[],u,b,m,hb,hu=>⟨m,hb,by simpa using hu⟩
 |a::v,u,b,m,hb,hu=>by
  have e:u++a::v=(u++[a])++v:=by simp
  have el:u.length+1=(u++[a]).length:=by simp
  simp only[ZFB]
  split
  ·rename_i hlt
   rw[e,el]
   refine ZE9 v (u++[a]) u.length a (by rw[←e];simp) (fun x hx=>?_)
   rcases List.mem_append.mp hx with hx|hx
   ·exact Rw.le_tr (Rw.lt_le hlt) (hu x hx)
   ·rw[List.mem_singleton.mp hx];exact Rw.le_rfl a
  ·rename_i hlt
   rw[e,el]
   refine ZE9 v (u++[a]) b m (by rw[←e];exact hb) (fun x hx=>?_)
   rcases List.mem_append.mp hx with hx|hx
   ·exact hu x hx
   ·rw[List.mem_singleton.mp hx];exact hlt
theorem ZFl {l:List Rw} (h:l≠[]):∃m,l[ZDC l]?=some m∧∀x∈l,Rw.le m x:=by
 cases l with
 |nil=>exact absurd rfl h
 |cons a l=>exact ZE9 l [a] 0 a rfl (fun x hx=>by rw[List.mem_singleton.mp hx];exact Rw.le_rfl a)
theorem ZDD (l:List Rw) (hl:l.length<4611686018427387904):∀(v u:List Rw) (b:Nat) (m:Rw),l=u++v→l[b]?=some m→Z6U (l.map Rw.e) (b:Int) (u.length:Int)=some [.int (ZFB b m u.length v:Nat)]
 |[],u,b,m,e,hb=>by
  rw[List.append_nil]at e
  subst e
  rw[Z7Y,ZDu,cond_false];rfl
 |a::v,u,b,m,e,hb=>by
  have hul:u.length<l.length:=by rw[e];simp
  have ha:l[u.length]?=some a:=by rw[e];simp
  rw[Z7Y,show ltI (u.length:Int) (lenI (l.map Rw.e))=true from by rw[e];exact ZEF u v a,ZIl ha,ZIl hb,Z8q,ZIk ha,Z8q,ZIk hb,ltF (show(0:Int)≤(b:Int)by omega)]
  simp only[cond_true,cond_false,gA,Rw.e,ZAG,Z9x,Z8X (show u.length<9223372036854775807 by omega)]
  have i1:=ZDD l hl v (u++[a]) u.length a (by rw[e];simp) ha
  have i2:=ZDD l hl v (u++[a]) b m (by rw[e];simp) hb
  rw[List.length_append]at i1 i2
  simp only[ZFB]
  by_cases hlt:Rw.lt a m
  ·rw[decide_eq_true hlt,cond_true,if_pos hlt];exact i1
  ·rw[decide_eq_false hlt,cond_false,if_neg hlt];exact i2
theorem ZJd {l:List Rw} (h:l≠[]) (hl:l.length<4611686018427387904):callI tE Z7m [.sl (l.map Rw.e)]=some [.int (ZDC l:Nat)]:=by
 cases l with
 |nil=>exact absurd rfl h
 |cons a l=>
  have:=ZDD (a::l) hl l [a] 0 a rfl rfl
  rw[ZBn,Z7Y,ltT (by rw[Z5L];simp only[List.length_cons];omega),ltT (show(-1:Int)<0 by decide)]
  exact this
def ZEA (l:List Rw) (k:Nat):List Rw:=l.take k++l.drop (k+1)
theorem ZHA (l:List Rw) (k:Nat):List.take (tn ((k:Int)-0)) (List.drop (tn 0) (l.map Rw.e))=(l.take k).map Rw.e:=by
 rw[show((k:Int)-0)=(k:Int)by omega]
 show List.take k (List.drop 0 _)=_
 rw[List.drop_zero,List.map_take]
theorem ZHB (l:List Rw) (k:Nat) (h:k<l.length):List.take (tn (lenI (l.map Rw.e)-((k+1:Nat):Int))) (List.drop (tn ((k+1:Nat):Int)) (l.map Rw.e))=(l.drop (k+1)).map Rw.e:=by
 rw[Z5L,show((l.length:Int)-((k+1:Nat):Int))=((l.length-(k+1):Nat):Int)by omega]
 show List.take (l.length-(k+1)) (List.drop (k+1) _)=_
 rw[List.map_drop,List.take_of_length_le (by simp)]
theorem ZIm (l:List Rw) (k:Nat) (h:k<l.length) (hl:l.length≤1073741824):callI tE Z9v [.sl (l.map Rw.e),.int (k:Int)]=some [.sl ((ZEA l k).map Rw.e)]:=by
 rw[ZDQ,leT (show(0:Int)≤(k:Int)by omega),leT (show(k:Int)≤lenI (l.map Rw.e)by rw[Z5L];omega),ZHA,Z8X (by omega),leT (show(0:Int)≤((k+1:Nat):Int)by omega),leT (show((k+1:Nat):Int)≤lenI (l.map Rw.e)by rw[Z5L];omega),ZHB l k h]
 simp only[Bool.and_self,cond_true,Z5o]
 rw[Z9X (by simp;omega),Z9X (by simp;omega),cond_true,cond_true,ZAo];rfl
theorem ZGf (l:List (List Rw)) (h:Z9k l):callI tE Z8m [.sl (l.map rsE)]=some [.sl (l.map rsE)]:=by
 have hl:=Z7l List.length l
 have h:szL List.length l≤1073741824:=h
 rw[ZDN]
 have:=Z6i (l:=l) (L:=fun(s:List (List Rw)) i=>Z6d (l.map rsE) i (s.map rsE)) (F:=fun _ _=>some [.sl (l.map rsE)]) (I:=fun s u _=>s=u) (by omega) (fun u a v s e hI=>by
  have ha:a.length≤1073741824:=Nat.le_trans (Z8W (by rw[e];simp)) h
  have hul:u.length≤1073741824:=by rw[e]at hl h;simp at hl;rw[e]at*;omega
  refine .inl ⟨u++[a],?_,rfl,rfl⟩
  show Z6d _ _ _=Z6d _ _ _
  subst e
  rw[Z9a,hI]
  simp only[ZEF,ZEP,Z8q,ZDt,cond_true,rsE,gA,Z5o]
  rw[show fitM (0+a.length) 24=true from Z9X (by omega),show fitM (Nat.succ u.length) 24=true from Z9X (by omega),ZDg]
  rfl) (fun s hs=>by
  show Z6d _ _ _=_
  rw[Z9a,ZDu,cond_false,hs]) [] rfl
 exact this
theorem ZI5 (s:So) (h:s.B):callI tE Z9u [.sl (s.inp.map Rw.e),.int s.pos,.sl (s.heap.map Rw.e),.sl (s.dfd.map Rw.e),.sl (s.out.map Rw.e),.sl (s.runs.map rsE),.int s.lp,.int s.rp,.int s.ph,.int s.wr]=some [.sl (s.inp.map Rw.e),.int s.pos,.sl (s.heap.map Rw.e),.sl (s.dfd.map Rw.e),.sl (s.out.map Rw.e),.sl (s.runs.map rsE),.int s.lp,.int s.rp,.int s.ph,.int s.wr]:=by
 obtain⟨h1,h2,h3,h4,h5⟩:=h.p
 simp only[ZDO,Z5o,ZGf s.runs h5,gA]
 rw[Z9X (by omega),Z9X (by omega),Z9X (by omega),Z9X (by omega)];rfl
def ZFC (s:So):So:=⟨s.inp,s.pos,s.heap,s.dfd,[],s.runs++[s.out],s.lp,s.rp,s.ph,s.wr⟩
def ZCI (s:So):So:=⟨s.inp,s.pos,s.heap,s.dfd,s.out,s.runs,0,0,if s.runs.length=0 then 4 else if s.runs.length=1 then 3 else 2,s.wr⟩
def rwZ:Rw:=⟨0,0,0⟩
def ZJ7 (s:So):So:=⟨s.inp,s.pos,ZEA s.heap (ZDC s.heap),s.dfd,s.out++[s.heap.getD (ZDC s.heap) rwZ],s.runs,s.lp,s.rp,s.ph,w64 (s.wr+((s.heap.getD (ZDC s.heap) rwZ).cost:Nat))⟩
def ZHC (s:So) (r:Rw):So:=if Z9H r s.out then⟨s.inp,w64 (s.pos+1),s.heap,s.dfd++[r],s.out,s.runs,s.lp,s.rp,s.ph,s.wr⟩else⟨s.inp,w64 (s.pos+1),s.heap++[r],s.dfd,s.out,s.runs,s.lp,s.rp,s.ph,s.wr⟩
def ZIL (s:So):So:=if s.heap=[]then(if s.dfd=[]then(if s.out=[]then ZCI s else ZCI (ZFC s))else⟨s.inp,s.pos,s.dfd,[],[],s.runs++[s.out],s.lp,s.rp,s.ph,s.wr⟩)else ZJ7 s
def ZGu (s:So) (g:Int) (r:Rw):Bool:=leI ((ZC2 s:Nat)+(r.cost:Nat)) g
def ZI6 (s:So) (g:Int):So:=match s.inp[s.pos.toNat]? with
 |some r=>if ZGu s g r=true then ZHC s r else ZIL s
 |none=>ZIL s
def ZHD (s:So) (x:Rw):So:=⟨s.inp,s.pos,s.heap,s.dfd,s.out++[x],s.runs,w64 (s.lp+1),s.rp,s.ph,w64 (s.wr+(x.cost:Nat))⟩
def ZHE (s:So) (x:Rw):So:=⟨s.inp,s.pos,s.heap,s.dfd,s.out++[x],s.runs,s.lp,w64 (s.rp+1),s.ph,w64 (s.wr+(x.cost:Nat))⟩
def ZGg (s:So):So:=match s.runs with
 |a::b::r=>match a[s.lp.toNat]?,b[s.rp.toNat]? with
  |none,none=>ZCI (ZFC ⟨s.inp,s.pos,s.heap,s.dfd,s.out,r,s.lp,s.rp,s.ph,s.wr⟩)
  |some x,none=>ZHD s x
  |none,some y=>ZHE s y
  |some x,some y=>if Rw.le x y then ZHD s x else ZHE s y
 |_=>s
def ZEk (s:So):So×List Rw:=match s.runs with
 |a::_=>match a[s.lp.toNat]? with
  |some x=>(⟨s.inp,s.pos,s.heap,s.dfd,s.out,s.runs,w64 (s.lp+1),s.rp,if w64 (s.lp+1)=s.inp.length then 4 else s.ph,s.wr⟩,[x])
  |none=>(s,[])
 |[]=>(s,[])
def ZGh (s:So) (g:Int):Bool:=Z9T s&&(win g 8 60&& !eqI s.ph 4)
def ZEB (s:So) (g:Int):So×List Rw×Bool:=
 bif ZGh s g then(if s.ph=1 then(ZI6 s g,[],true)else if s.ph=2 then(ZGg s,[],true)else((ZEk s).1,(ZEk s).2,true))else(s,[],false)
def StR (x:So×List Rw×Bool):List Dat:=[.sl (x.1.inp.map Rw.e),.int x.1.pos,.sl (x.1.heap.map Rw.e),.sl (x.1.dfd.map Rw.e),.sl (x.1.out.map Rw.e),.sl (x.1.runs.map rsE),.int x.1.lp,.int x.1.rp,.int x.1.ph,.int x.1.wr,.sl (x.2.1.map Rw.e),.bool x.2.2]
theorem ZI7 (s:So):callI tE Z6F [.sl (s.inp.map Rw.e),.int s.pos,.sl (s.heap.map Rw.e),.sl (s.dfd.map Rw.e),.sl (s.out.map Rw.e),.sl (s.runs.map rsE),.int s.lp,.int s.rp,.int s.ph,.int s.wr]=some (ZCI s).e:=by
 rw[ZDR,Z5L]
 unfold ZCI
 by_cases h0:s.runs.length=0
 ·rw[eqF (by omega),eqT (show(s.runs.length:Int)=0 by omega),if_pos h0];rfl
 ·rw[eqF (show(s.runs.length:Int)≠0 by omega),if_neg h0]
  by_cases h1:s.runs.length=1
  ·rw[eqT (by omega),if_pos h1];rfl
  ·rw[eqF (by omega),if_neg h1];rfl
theorem ZAk (l:List Rw) (r:Rw):List.append (l.map Rw.e) [[Dat.int r.k,.int r.v,.int r.w]]=(l++[r]).map Rw.e:=ZI3 l r
theorem ZFD:eqI (lenI (([]:List Rw).map Rw.e)) 0=true:=rfl
theorem ZDE:ltI 0 (lenI (([]:List Rw).map Rw.e))=false:=rfl
theorem ZIn {l:List Rw} (h:l≠[]):eqI (lenI (l.map Rw.e)) 0=false:=by
 cases l with
 |nil=>exact absurd rfl h
 |cons a l=>exact eqF (by rw[Z5L];simp only[List.length_cons];omega)
theorem ZHe {l:List Rw} (h:l≠[]):ltI 0 (lenI (l.map Rw.e))=true:=by
 cases l with
 |nil=>exact absurd rfl h
 |cons a l=>exact ltT (by rw[Z5L];simp only[List.length_cons];omega)
theorem ZJ8 {l:List Rw} (h:l≠[]):inR (ZDC l:Nat) (lenI (l.map Rw.e))=true∧at' (l.map Rw.e) (ZDC l)=(l.getD (ZDC l) rwZ).e∧ZDC l<l.length:=by
 obtain⟨m,h1,_⟩:=ZFl h
 exact⟨ZIl h1,by rw[ZIk h1];simp[List.getD_eq_getElem?_getD,h1],(List.getElem?_eq_some_iff.mp h1).1⟩
theorem ZFm {s:So} (h:s.B2):s.inp.length≤1073741800∧s.heap.length≤1073741800∧s.dfd.length≤1073741800∧s.out.length≤1073741800∧s.runs.length≤1073741800∧szL List.length s.runs≤1073741800:=by
 have h:s.sz≤1073741800:=h
 have hl:=Z7l List.length s.runs
 simp only[So.sz]at h
 exact⟨by omega,by omega,by omega,by omega,by omega,by omega⟩
theorem ZJe (s:So) (h:s.B2):(bif(ltI 0 (w64 ((lenI (s.heap.map Rw.e))+(lenI (s.dfd.map Rw.e)))))then(((callI tE Z9J [(.sl (s.inp.map Rw.e)),(.int s.pos),(.sl (s.heap.map Rw.e)),(.sl (s.dfd.map Rw.e)),(.sl (s.out.map Rw.e)),(.sl (s.runs.map rsE)),(.int s.lp),(.int s.rp),(.int s.ph),(.int s.wr)])).bind (fun r5=>(some [(.sl (gl r5)),(.int (gn (tk 1 r5))),(.sl (gl (tk 2 r5))),(.sl (gl (tk 3 r5))),(.sl (gl (tk 4 r5))),(.sl (gl (tk 5 r5))),(.int (gn (tk 6 r5))),(.int (gn (tk 7 r5))),(.int (gn (tk 8 r5))),(.int (gn (tk 9 r5))),(.sl []),(.bool true)])))else(bif(ltI 0 (lenI (s.out.map Rw.e)))then(bif(fitM (Nat.succ (len (s.runs.map rsE))) 24)then(((callI tE Z6F [(.sl (s.inp.map Rw.e)),(.int s.pos),(.sl (s.heap.map Rw.e)),(.sl (s.dfd.map Rw.e)),(.sl []),(.sl (List.append (s.runs.map rsE) [[(.sl (s.out.map Rw.e))]])),(.int s.lp),(.int s.rp),(.int s.ph),(.int s.wr)])).bind (fun r5=>(some [(.sl (gl r5)),(.int (gn (tk 1 r5))),(.sl (gl (tk 2 r5))),(.sl (gl (tk 3 r5))),(.sl (gl (tk 4 r5))),(.sl (gl (tk 5 r5))),(.int (gn (tk 6 r5))),(.int (gn (tk 7 r5))),(.int (gn (tk 8 r5))),(.int (gn (tk 9 r5))),(.sl []),(.bool true)])))else none)else(((callI tE Z6F [(.sl (s.inp.map Rw.e)),(.int s.pos),(.sl (s.heap.map Rw.e)),(.sl (s.dfd.map Rw.e)),(.sl (s.out.map Rw.e)),(.sl (s.runs.map rsE)),(.int s.lp),(.int s.rp),(.int s.ph),(.int s.wr)])).bind (fun r5=>(some [(.sl (gl r5)),(.int (gn (tk 1 r5))),(.sl (gl (tk 2 r5))),(.sl (gl (tk 3 r5))),(.sl (gl (tk 4 r5))),(.sl (gl (tk 5 r5))),(.int (gn (tk 6 r5))),(.int (gn (tk 7 r5))),(.int (gn (tk 8 r5))),(.int (gn (tk 9 r5))),(.sl []),(.bool true)])))))=some (StR (ZIL s,[],true)):=by
 obtain⟨b1,b2,b3,b4,b5,b6⟩:=ZFm h
 have k2:=ZI7 s
 have k3:=ZI7 (ZFC s)
 simp only[So.e,ZFC,List.map_nil]at k2 k3
 have ew:w64 (lenI (s.heap.map Rw.e)+lenI (s.dfd.map Rw.e))=((s.heap.length+s.dfd.length:Nat):Int):=by rw[Z5L,Z5L,Z5a ⟨by omega,by omega⟩];omega
 rw[ew]
 unfold ZIL
 by_cases hh:s.heap=[]
 ·rw[if_pos hh]
  rw[hh]at k2 k3⊢
  by_cases hd:s.dfd=[]
  ·rw[if_pos hd]
   rw[hd]at k2 k3⊢
   by_cases ho:s.out=[]
   ·rw[if_pos ho]
    rw[ho]at k2 k3⊢
    rw[show ltI 0 (((([]:List Rw).length+([]:List Rw).length:Nat)):Int)=false from rfl]
    simp only[ZDE,cond_true,cond_false,k2,gA]
    simp only[ZCI,hh,hd,ho];rfl
   ·rw[if_neg ho]
    rw[show ltI 0 (((([]:List Rw).length+([]:List Rw).length:Nat)):Int)=false from rfl]
    simp only[ZDE,ZHe ho,cond_true,cond_false,Z5o]
    rw[show fitM (Nat.succ s.runs.length) 24=true from Z9X (by omega),cond_true,show([[Dat.sl (s.out.map Rw.e)]]:Rows)=[[.sl (s.out.map Rw.e)]]from rfl,ZDg,k3]
    simp only[gA]
    simp only[ZCI,ZFC,hh,hd];rfl
  ·rw[if_neg hd,ZBS,ZFD,cond_true,Z5o,show fitM (Nat.succ s.runs.length) 24=true from Z9X (by omega),cond_true,ZDg]
   rw[show ltI 0 (((([]:List Rw).length+s.dfd.length:Nat)):Int)=true from ltT (by cases hq:s.dfd with|nil=>exact absurd hq hd|cons a l=>simp only[List.length_cons];omega)]
   rfl
 ·rw[if_neg hh]
  obtain⟨m1,m2,m3⟩:=ZJ8 hh
  have k4:=ZJd hh (by omega)
  have k5:=ZIm s.heap (ZDC s.heap) m3 (by omega)
  rw[show ltI 0 ((s.heap.length+s.dfd.length:Nat):Int)=true from ltT (by omega),ZBS]
  simp only[ZIn hh,cond_true,cond_false,k4,k5,m1,m2,Z8q,Rw.e,ZAp,gA,Z5o]
  rw[show fitM (Nat.succ s.out.length) 24=true from Z9X (by omega),cond_true,ZAk]
  rfl
theorem ZI8 (a b:List Rw) (r:List (List Rw)):inR 0 (lenI ((a::b::r).map rsE))=true∧inR 1 (lenI ((a::b::r).map rsE))=true∧gl (at' ((a::b::r).map rsE) (tn 0))=a.map Rw.e∧gl (at' ((a::b::r).map rsE) (tn 1))=b.map Rw.e∧
  (leI 0 2&&leI 2 (lenI ((a::b::r).map rsE)))=true∧List.take (tn (lenI ((a::b::r).map rsE)-2)) (List.drop (tn 2) ((a::b::r).map rsE))=r.map rsE:=by
 refine⟨ZAr (i:=0) (by simp),ZAr (i:=1) (by simp),rfl,rfl,?_,?_⟩
 ·rw[Z5L,leT (show(2:Int)≤((a::b::r).length:Nat)by simp only[List.length_cons];omega)];rfl
 ·rw[Z5L,show(((a::b::r).length:Nat):Int)-2=(r.length:Int)by simp only[List.length_cons];omega]
  show List.take r.length (r.map rsE)=_
  rw[List.take_of_length_le (by simp)]
theorem ZGi {l:List Rw} {p:Nat} {x:Rw} (h:l[p]?=some x):eqI (p:Int) (lenI (l.map Rw.e))=false∧ltI (p:Int) (lenI (l.map Rw.e))=true∧inR (p:Int) (lenI (l.map Rw.e))=true∧at' (l.map Rw.e) p=x.e:=by
 have:=(List.getElem?_eq_some_iff.mp h).1
 refine⟨?_,?_,ZIl h,ZIk h⟩
 ·rw[Z5L];exact eqF (by omega)
 ·rw[Z5L];exact ltT (by omega)
theorem ZJ9 (s:So) (h:s.B2) (hv:Z9T s=true) (h1:s.ph≠1) (h4:s.ph≠4):(bif(eqI s.ph 2)then(((callI tE Z6G [(.sl (s.runs.map rsE)),(.int 0),(.int s.lp)])).bind (fun r3=>(((callI tE Z6G [(.sl (s.runs.map rsE)),(.int 1),(.int s.rp)])).bind (fun r4=>(bif(eqI (w64 ((lenI (gl r3))+(lenI (gl r4)))) 0)then(bif((leI 0 2)&&(leI 2 (lenI (s.runs.map rsE))))then(bif(fitM (Nat.succ (len (List.take (tn ((lenI (s.runs.map rsE))-2)) (List.drop (tn 2) (s.runs.map rsE))))) 24)then(((callI tE Z6F [(.sl (s.inp.map Rw.e)),(.int s.pos),(.sl (s.heap.map Rw.e)),(.sl (s.dfd.map Rw.e)),(.sl []),(.sl (List.append (List.take (tn ((lenI (s.runs.map rsE))-2)) (List.drop (tn 2) (s.runs.map rsE))) [[(.sl (s.out.map Rw.e))]])),(.int s.lp),(.int s.rp),(.int s.ph),(.int s.wr)])).bind (fun r5=>(some [(.sl (gl r5)),(.int (gn (tk 1 r5))),(.sl (gl (tk 2 r5))),(.sl (gl (tk 3 r5))),(.sl (gl (tk 4 r5))),(.sl (gl (tk 5 r5))),(.int (gn (tk 6 r5))),(.int (gn (tk 7 r5))),(.int (gn (tk 8 r5))),(.int (gn (tk 9 r5))),(.sl []),(.bool true)])))else none)else none)else(bif(eqI (lenI (gl r4)) 0)then(bif(inR 0 (lenI (gl r3)))then(bif(fitM (Nat.succ (len (s.out.map Rw.e))) 24)then(bif(inR 0 (lenI (gl r3)))then(((callI tE Z5l [(.int (gn (at' (gl r3) (tn 0)))),(.int (gn (tk 1 (at' (gl r3) (tn 0))))),(.int (gn (tk 2 (at' (gl r3) (tn 0)))))])).bind (fun r5=>(some [(.sl (s.inp.map Rw.e)),(.int s.pos),(.sl (s.heap.map Rw.e)),(.sl (s.dfd.map Rw.e)),(.sl (List.append (s.out.map Rw.e) [[(.int (gn (at' (gl r3) (tn 0)))),(.int (gn (tk 1 (at' (gl r3) (tn 0))))),(.int (gn (tk 2 (at' (gl r3) (tn 0)))))]])),(.sl (s.runs.map rsE)),(.int (w64 (s.lp+1))),(.int s.rp),(.int s.ph),(.int (w64 (s.wr+(gn r5)))),(.sl []),(.bool true)])))else none)else none)else none)else(bif(ltI 0 (lenI (gl r3)))then(bif(inR 0 (lenI (gl r3)))then(bif(inR 0 (lenI (gl r4)))then(((callI tE Z5e [(.int (gn (at' (gl r3) (tn 0)))),(.int (gn (tk 1 (at' (gl r3) (tn 0))))),(.int (gn (tk 2 (at' (gl r3) (tn 0))))),(.int (gn (at' (gl r4) (tn 0)))),(.int (gn (tk 1 (at' (gl r4) (tn 0))))),(.int (gn (tk 2 (at' (gl r4) (tn 0)))))])).bind (fun r5=>(bif(leI (gn r5) 0)then(bif(inR 0 (lenI (gl r3)))then(bif(fitM (Nat.succ (len (s.out.map Rw.e))) 24)then(bif(inR 0 (lenI (gl r3)))then(((callI tE Z5l [(.int (gn (at' (gl r3) (tn 0)))),(.int (gn (tk 1 (at' (gl r3) (tn 0))))),(.int (gn (tk 2 (at' (gl r3) (tn 0)))))])).bind (fun r6=>(some [(.sl (s.inp.map Rw.e)),(.int s.pos),(.sl (s.heap.map Rw.e)),(.sl (s.dfd.map Rw.e)),(.sl (List.append (s.out.map Rw.e) [[(.int (gn (at' (gl r3) (tn 0)))),(.int (gn (tk 1 (at' (gl r3) (tn 0))))),(.int (gn (tk 2 (at' (gl r3) (tn 0)))))]])),(.sl (s.runs.map rsE)),(.int (w64 (s.lp+1))),(.int s.rp),(.int s.ph),(.int (w64 (s.wr+(gn r6)))),(.sl []),(.bool true)])))else none)else none)else none)else(bif(inR 0 (lenI (gl r4)))then(bif(fitM (Nat.succ (len (s.out.map Rw.e))) 24)then(bif(inR 0 (lenI (gl r4)))then(((callI tE Z5l [(.int (gn (at' (gl r4) (tn 0)))),(.int (gn (tk 1 (at' (gl r4) (tn 0))))),(.int (gn (tk 2 (at' (gl r4) (tn 0)))))])).bind (fun r6=>(some [(.sl (s.inp.map Rw.e)),(.int s.pos),(.sl (s.heap.map Rw.e)),(.sl (s.dfd.map Rw.e)),(.sl (List.append (s.out.map Rw.e) [[(.int (gn (at' (gl r4) (tn 0)))),(.int (gn (tk 1 (at' (gl r4) (tn 0))))),(.int (gn (tk 2 (at' (gl r4) (tn 0)))))]])),(.sl (s.runs.map rsE)),(.int s.lp),(.int (w64 (s.rp+1))),(.int s.ph),(.int (w64 (s.wr+(gn r6)))),(.sl []),(.bool true)])))else none)else none)else none))))else none)else none)else(bif(inR 0 (lenI (gl r4)))then(bif(fitM (Nat.succ (len (s.out.map Rw.e))) 24)then(bif(inR 0 (lenI (gl r4)))then(((callI tE Z5l [(.int (gn (at' (gl r4) (tn 0)))),(.int (gn (tk 1 (at' (gl r4) (tn 0))))),(.int (gn (tk 2 (at' (gl r4) (tn 0)))))])).bind (fun r5=>(some [(.sl (s.inp.map Rw.e)),(.int s.pos),(.sl (s.heap.map Rw.e)),(.sl (s.dfd.map Rw.e)),(.sl (List.append (s.out.map Rw.e) [[(.int (gn (at' (gl r4) (tn 0)))),(.int (gn (tk 1 (at' (gl r4) (tn 0))))),(.int (gn (tk 2 (at' (gl r4) (tn 0)))))]])),(.sl (s.runs.map rsE)),(.int s.lp),(.int (w64 (s.rp+1))),(.int s.ph),(.int (w64 (s.wr+(gn r5)))),(.sl []),(.bool true)])))else none)else none)else none))))))))else(bif(eqI (w64 (s.lp+1)) (lenI (s.inp.map Rw.e)))then(bif(inR 0 (lenI (s.runs.map rsE)))then(bif(inR s.lp (lenI (gl (at' (s.runs.map rsE) (tn 0)))))then(some [(.sl (s.inp.map Rw.e)),(.int s.pos),(.sl (s.heap.map Rw.e)),(.sl (s.dfd.map Rw.e)),(.sl (s.out.map Rw.e)),(.sl (s.runs.map rsE)),(.int (w64 (s.lp+1))),(.int s.rp),(.int 4),(.int s.wr),(.sl [[(.int (gn (at' (gl (at' (s.runs.map rsE) (tn 0))) (tn s.lp)))),(.int (gn (tk 1 (at' (gl (at' (s.runs.map rsE) (tn 0))) (tn s.lp))))),(.int (gn (tk 2 (at' (gl (at' (s.runs.map rsE) (tn 0))) (tn s.lp)))))]]),(.bool true)])else none)else none)else(bif(inR 0 (lenI (s.runs.map rsE)))then(bif(inR s.lp (lenI (gl (at' (s.runs.map rsE) (tn 0)))))then(some [(.sl (s.inp.map Rw.e)),(.int s.pos),(.sl (s.heap.map Rw.e)),(.sl (s.dfd.map Rw.e)),(.sl (s.out.map Rw.e)),(.sl (s.runs.map rsE)),(.int (w64 (s.lp+1))),(.int s.rp),(.int s.ph),(.int s.wr),(.sl [[(.int (gn (at' (gl (at' (s.runs.map rsE) (tn 0))) (tn s.lp)))),(.int (gn (tk 1 (at' (gl (at' (s.runs.map rsE) (tn 0))) (tn s.lp))))),(.int (gn (tk 2 (at' (gl (at' (s.runs.map rsE) (tn 0))) (tn s.lp)))))]]),(.bool true)])else none)else none)))=some (StR (if s.ph=2 then(ZGg s,[],true)else((ZEk s).1,(ZEk s).2,true))):=by
 obtain⟨b1,b2,b3,b4,b5,b6⟩:=ZFm h
 obtain⟨_,_,_,_,hl⟩:=Z9P (Z9I hv).2.2.2.2.2.2 h1
 by_cases h2:s.ph=2
 ·obtain⟨a,b,r,e,⟨l0,l1⟩,⟨r0,r1⟩,_,_⟩:=ZBY hl h2
  obtain⟨inp,pos,heap,dfd,out,runs,lp,rp,ph,wr⟩:=s
  simp only at*
  subst e
  obtain⟨p,rfl⟩:∃p:Nat,lp=p:=⟨lp.toNat,by omega⟩
  obtain⟨q,rfl⟩:∃q:Nat,rp=q:=⟨rp.toNat,by omega⟩
  obtain⟨q1,q2,q3,q4,q5,q6⟩:=ZI8 a b r
  obtain⟨w1,e1,_,_,g1⟩:=ZEg (a::b::r) 0 (p:Int) (show szL List.length (a::b::r)≤1073741824 by omega) (by omega)
  obtain⟨w2,e2,_,_,g2⟩:=ZEg (a::b::r) 1 (q:Int) (show szL List.length (a::b::r)≤1073741824 by omega) (by omega)
  simp only[List.getElem?_cons_zero,List.getElem?_cons_succ,Int.toNat_natCast]at g1 g2
  have k2:=ZI7 (ZFC ⟨inp,pos,heap,dfd,out,r,p,q,ph,wr⟩)
  simp only[So.e,ZFC,List.map_nil]at k2
  have z00:eqI (w64 (lenI (([]:List Rw).map Rw.e)+lenI (([]:List Rw).map Rw.e))) 0=true:=rfl
  have z10:∀x:Rw,eqI (w64 (lenI (([x]:List Rw).map Rw.e)+lenI (([]:List Rw).map Rw.e))) 0=false:=fun x=>rfl
  have z01:∀x:Rw,eqI (w64 (lenI (([]:List Rw).map Rw.e)+lenI (([x]:List Rw).map Rw.e))) 0=false:=fun x=>rfl
  have z11:∀x y:Rw,eqI (w64 (lenI (([x]:List Rw).map Rw.e)+lenI (([y]:List Rw).map Rw.e))) 0=false:=fun x y=>rfl
  have e1:callI tE Z6G [.sl ((a::b::r).map rsE),.int 0,.int (p:Int)]=some [.sl (w1.map Rw.e)]:=e1
  have e2:callI tE Z6G [.sl ((a::b::r).map rsE),.int 1,.int (q:Int)]=some [.sl (w2.map Rw.e)]:=e2
  rw[eqT h2,if_pos h2,cond_true]
  simp only[e1,e2,gA]
  unfold ZGg
  simp only[Int.toNat_natCast]
  cases ha:a[p]? with
  |none=>
   rw[ha]at g1
   simp only at g1
   subst g1
   cases hb:b[q]? with
   |none=>
    rw[hb]at g2
    simp only at g2
    subst g2
    simp only[z00,q5,q6,cond_true,Z5o]
    have h:So.sz _≤1073741800:=h
    have hl2:=Z7l List.length r
    simp only[So.sz,szL]at h
    rw[show fitM (Nat.succ r.length) 24=true from Z9X (by omega),cond_true,ZDg,k2]
    rfl
   |some y=>
    rw[hb]at g2
    simp only at g2
    subst g2
    simp only[z01,ZFD,ZDE,ZIK,ZBs,ZIJ,ZBr,cond_true,cond_false,Rw.e,ZAp,gA,Z5o]
    rw[show fitM (Nat.succ out.length) 24=true from Z9X (by omega),cond_true,ZAk]
    rfl
  |some x=>
   rw[ha]at g1
   simp only at g1
   subst g1
   cases hb:b[q]? with
   |none=>
    rw[hb]at g2
    simp only at g2
    subst g2
    simp only[z10,ZFD,ZDE,ZIK,ZBs,ZIJ,ZBr,cond_true,cond_false,Rw.e,ZAp,gA,Z5o]
    rw[show fitM (Nat.succ out.length) 24=true from Z9X (by omega),cond_true,ZAk]
    rfl
   |some y=>
    rw[hb]at g2
    simp only at g2
    subst g2
    simp only[z11,ZIK,ZBs,ZIJ,ZBr,cond_true,cond_false,Rw.e,ZAp,ZAG,ZEx,gA,Z5o]
    rw[show fitM (Nat.succ out.length) 24=true from Z9X (by omega)]
    by_cases hle:Rw.le x y
    ·rw[decide_eq_true hle,if_pos hle]
     simp only[cond_true]
     rw[ZAk];rfl
    ·rw[decide_eq_false hle,if_neg hle]
     simp only[cond_true,cond_false]
     rw[ZAk];rfl
 ·rw[eqF h2,if_neg h2,cond_false]
  have h3:s.ph=3:=by rcases ZAj hl with e|e|e<;>first|exact absurd e h2|exact e|exact absurd e h4
  obtain⟨e,⟨l0,l1⟩,_,_⟩:=ZBZ hl h3
  obtain⟨hp1,hp2,hp3,hp4,_⟩:=Z9P (Z9I hv).2.2.2.2.2.2 h1
  obtain⟨inp,pos,heap,dfd,out,runs,lp,rp,ph,wr⟩:=s
  simp only at*
  obtain⟨a,rfl⟩:=List.length_eq_one_iff.mp e
  obtain⟨p,rfl⟩:∃p:Nat,lp=p:=⟨lp.toNat,by omega⟩
  have hal:a.length=inp.length:=by have:=hp4.length_eq;simpa using this
  obtain⟨x,hx⟩:∃x,a[p]?=some x:=⟨_,List.getElem?_eq_getElem (by omega)⟩
  obtain⟨n1,n2,n3,n4⟩:=ZGi hx
  unfold ZEk
  simp only[Int.toNat_natCast,hx]
  rw[show inR 0 (lenI ([a].map rsE))=true from ZAr (i:=0) (by simp),show gl (at' ([a].map rsE) (tn 0))=a.map Rw.e from rfl,n3,Z5L]
  simp only[cond_true,Z8q,n4,Rw.e,gA]
  by_cases hw:w64 ((p:Int)+1)=(inp.length:Int)
  ·rw[eqT hw,if_pos hw];rfl
  ·rw[eqF hw,if_neg hw];rfl
theorem ZHF {s:So} {g:Int} {r:Rw}:leI (w64 ((ZC2 s:Nat)+(r.cost:Nat))) g=ZGu s g r∨1073741824<ZC2 s:=by
 have:=ZAF r
 by_cases h:1073741824<ZC2 s
 ·exact .inr h
 ·refine .inl ?_
  unfold ZGu
  rw[Z5a ⟨by omega,by omega⟩]
theorem ZJA {s:So} (hv:Z9T s=true) (h1:s.ph=1):ZC2 s≤60:=(Z9q (Z9I hv).2.2.2.2.2.2 h1).2.2.2.1
theorem ZI9 (s:So) (g:Int) (h:s.B2):callI tE Z8b [.sl (s.inp.map Rw.e),.int s.pos,.sl (s.heap.map Rw.e),.sl (s.dfd.map Rw.e),.sl (s.out.map Rw.e),.sl (s.runs.map rsE),.int s.lp,.int s.rp,.int s.ph,.int s.wr,.int g]=some (StR (ZEB s g)):=by
 obtain⟨b1,b2,b3,b4,b5,b6⟩:=ZFm h
 rw[ZBo,ZI5 s h.b,ZCS s h,ZCj]
 simp only[gA]
 unfold ZEB ZGh
 cases hv:Z9T s with
 |false=>rfl
 |true=>
  cases hg:win g 8 60 with
  |false=>rfl
  |true=>
   by_cases h4:s.ph=4
   ·rw[eqT h4];rfl
   ·rw[eqF h4]
    by_cases h1:s.ph=1
    ·rw[eqT h1,if_pos h1]
     have hm:=ZJA hv h1
     obtain⟨_,⟨p0,p1⟩,_⟩:=Z9I hv
     have hT:=ZJe s h
     simp only[Bool.not_true,Bool.not_false,Bool.and_self,cond_true,cond_false,ZJQ s h.b,gA]
     unfold ZI6
     cases hq:s.inp[s.pos.toNat]? with
     |none=>
      have hp:ltI s.pos (lenI (s.inp.map Rw.e))=false:=by rw[Z5L];exact ltF (by have:=List.getElem?_eq_none_iff.mp hq;omega)
      rw[hp,cond_false]
      exact hT
     |some r=>
      have hlt:=(List.getElem?_eq_some_iff.mp hq).1
      obtain⟨p,hp⟩:∃p:Nat,s.pos=p:=⟨s.pos.toNat,by omega⟩
      rw[hp,Int.toNat_natCast]at hq
      obtain⟨n1,n2,n3,n4⟩:=ZGi hq
      rw[←hp]at n2 n3
      have n4:at' (s.inp.map Rw.e) (tn s.pos)=r.e:=by rw[hp,Z8q];exact n4
      have hf:leI (w64 ((ZC2 s:Nat)+(r.cost:Nat))) g=ZGu s g r:=ZHF.resolve_right (by omega)
      simp only[n2,n3,n4,cond_true,Rw.e,ZAp,hf,gA]
      cases hfit:ZGu s g r with
      |false=>simp only[cond_false,Bool.false_eq_true,if_false];exact hT
      |true=>
       simp only[cond_true,if_true,Z5o]
       rw[show fitM (Nat.succ s.dfd.length) 24=true from Z9X (by omega),show fitM (Nat.succ s.heap.length) 24=true from Z9X (by omega)]
       unfold ZHC
       rcases ZE2 s.out with ho|⟨u,x,ho⟩
       ·rw[ho,ZDE,ZAs]
        simp only[cond_true,cond_false]
        rw[ZAk];rfl
       ·have e1:w64 (lenI (s.out.map Rw.e)-1)=(u.length:Int):=by rw[Z5L,ho,Z5a ⟨by simp only[List.length_append,List.length_singleton];omega,by rw[ho]at b4;simp only[List.length_append,List.length_singleton]at*;omega⟩];simp
        have hux:s.out[u.length]?=some x:=by rw[ho];simp
        rw[ZHe (by rw[ho];simp),e1,ZIl hux,Z8q,ZIk hux]
        simp only[cond_true,Rw.e,ZAG,Z9x,gA]
        rw[ho,Z9b]
        by_cases hlt:Rw.lt r x
        ·rw[decide_eq_true hlt]
         simp only[cond_true]
         rw[ZAk];rfl
        ·rw[decide_eq_false hlt]
         simp only[cond_true,cond_false]
         rw[ZAk];rfl
    ·rw[eqF h1,if_neg h1]
     have hL:=ZJ9 s h hv h1 h4
     simp only[Bool.not_true,Bool.not_false,Bool.and_self,cond_true,cond_false]
     exact hL
theorem Z96 {s:So} (h1:aok s.inp=true) (h2:0≤s.pos∧s.pos≤s.inp.length) (h3:∀r∈s.runs,ZAB r=true) (h4:0≤s.wr) (h5:Srt s.out) (h6:∀r∈s.heap,Z9H r s.out=false) (h7:Z8a s=true):Z9T s=true:=by
 simp only[Z9T,Bool.and_eq_true,Z8c,decide_eq_true_eq,List.all_eq_true,ZD8,Bool.not_eq_true']
 exact⟨h1,h2,h3,h4,h5,h6,h7⟩
theorem ZAC {s:So} (p:s.ph=1) (h1:s.lp=0) (h2:s.rp=0) (h3:s.out≠[]∨s.dfd=[]) (h4:ZC2 s≤60) (h5:(s.runs.flatten++(s.out++(s.heap++s.dfd))).Perm (s.inp.take s.pos.toNat)):Z8a s=true:=by
 unfold Z8a
 rw[if_pos p]
 simp only[Bool.and_eq_true,decide_eq_true_eq,ZAi]
 exact⟨h1,h2,h3,h4,h5⟩
theorem Z8k {s:So} (p:s.ph≠1) (h1:s.pos=s.inp.length) (h2:s.heap=[]) (h3:s.dfd=[]) (h4:s.runs.flatten.Perm s.inp) (h5:Z8H s=true):Z8a s=true:=by
 unfold Z8a
 rw[if_neg p]
 simp only[Bool.and_eq_true,decide_eq_true_eq,ZAi]
 exact⟨h1,h2,h3,h4,h5⟩
theorem ZBt {s:So} (p:s.ph=2) {a b:List Rw} {r:List (List Rw)} (e:s.runs=a::b::r) (h1:0≤s.lp∧s.lp≤a.length) (h2:0≤s.rp∧s.rp≤b.length) (h3:s.out=mrg (a.take s.lp.toNat) (b.take s.rp.toNat)) (h4:s.out=(mrg a b).take (s.lp.toNat+s.rp.toNat)):Z8H s=true:=by
 unfold Z8H
 rw[if_pos p]
 unfold ZDA
 rw[e]
 simp only[Bool.and_eq_true,decide_eq_true_eq,Z8c]
 exact⟨h1,h2,h3,h4⟩
theorem ZDi {s:So} (p:s.ph=3) (h1:s.runs.length=1) (h2:0≤s.lp∧s.lp<s.inp.length) (h3:s.rp=0) (h4:s.out=[]):Z8H s=true:=by
 unfold Z8H
 rw[if_neg (by omega),if_pos p]
 simp only[Bool.and_eq_true,decide_eq_true_eq]
 exact⟨h1,h2,h3,h4⟩
theorem ZDj {s:So} (p:s.ph=4) (h1:s.runs.length≤1) (h2:s.lp=s.inp.length) (h3:s.rp=0) (h4:s.out=[]):Z8H s=true:=by
 unfold Z8H
 rw[if_neg (by omega),if_neg (by omega),if_pos p]
 simp only[Bool.and_eq_true,decide_eq_true_eq]
 exact⟨h1,h2,h3,h4⟩
theorem Z9e:∀(n:Nat) (a b:List Rw),a.length+b.length=n→Srt a→Srt b→Srt (mrg a b)
 |0,a,b,h,_,_=>by
  have e1:a=[]:=List.length_eq_zero_iff.mp (by omega)
  subst e1
  rw[Z8j]
  have e2:b=[]:=List.length_eq_zero_iff.mp (by omega)
  subst e2
  exact .nil
 |n+1,[],b,h,_,hb=>by rw[Z8j];exact hb
 |n+1,x::a,[],h,ha,_=>by rw[Z9O];exact ha
 |n+1,x::a,y::b,h,ha,hb=>by
  obtain⟨ha1,ha2⟩:=List.pairwise_cons.mp ha
  obtain⟨hb1,hb2⟩:=List.pairwise_cons.mp hb
  simp only[List.length_cons]at h
  rw[ZD9]
  split
  ·rename_i hle
   refine List.pairwise_cons.mpr ⟨fun z hz=>?_,Z9e n a (y::b) (by simp only[List.length_cons];omega) ha2 hb⟩
   have:=(Z7y _ a (y::b) rfl).mem_iff.mp hz
   rcases List.mem_append.mp this with h1|h1
   ·exact ha1 z h1
   ·rcases List.mem_cons.mp h1 with rfl|h1
    ·exact hle
    ·exact Rw.le_tr hle (hb1 z h1)
  ·rename_i hle
   have hyx:Rw.le y x:=(Rw.le_total y x).resolve_right hle
   refine List.pairwise_cons.mpr ⟨fun z hz=>?_,Z9e n (x::a) b (by simp only[List.length_cons];omega) ha hb2⟩
   have:=(Z7y _ (x::a) b rfl).mem_iff.mp hz
   rcases List.mem_append.mp this with h1|h1
   ·rcases List.mem_cons.mp h1 with rfl|h1
    ·exact hyx
    ·exact Rw.le_tr hyx (ha1 z h1)
   ·exact hb1 z h1
theorem Z9f {u v:List Rw} (h:Srt (u++v)):Srt u∧Srt v:=⟨(List.pairwise_append.mp h).1,(List.pairwise_append.mp h).2.1⟩
theorem ZEl {a1 a2 b1 b2:List Rw} (ha:Srt (a1++a2)) (hb:Srt (b1++b2)) (h:mrg a1 b1=(mrg (a1++a2) (b1++b2)).take (a1.length+b1.length)):mrg (a1++a2) (b1++b2)=mrg a1 b1++mrg a2 b2:=by
 have hs:=Z9e _ _ _ rfl ha hb
 have e:=List.take_append_drop (a1.length+b1.length) (mrg (a1++a2) (b1++b2))
 rw[←h]at e
 have hd:(mrg (a1++a2) (b1++b2)).drop (a1.length+b1.length)=mrg a2 b2:=by
  refine Z7x ?_ ?_ (Z9e _ _ _ rfl (Z9f ha).2 (Z9f hb).2)
  ·refine List.perm_iff_count.mpr fun x=>?_
   have p1:=(Z7y _ (a1++a2) (b1++b2) rfl).count_eq x
   have p2:=(Z7y _ a1 b1 rfl).count_eq x
   have p3:=(Z7y _ a2 b2 rfl).count_eq x
   rw[←e]at p1
   simp only[List.count_append]at p1 p2 p3
   omega
  ·rw[←e]at hs;exact(Z9f hs).2
 rw[hd]at e
 exact e.symm
theorem ZGj {a1 a2 b1 b2:List Rw} {x:Rw} (ha:Srt (a1++x::a2)) (hb:Srt (b1++b2)) (h:mrg a1 b1=(mrg (a1++x::a2) (b1++b2)).take (a1.length+b1.length)) (hx:∀y∈b2.head?,Rw.le x y):
  mrg (a1++[x]) b1=mrg a1 b1++[x]∧(mrg (a1++x::a2) (b1++b2)).take (a1.length+1+b1.length)=mrg a1 b1++[x]:=by
 have e:=ZEl ha hb h
 have e2:mrg (x::a2) b2=x::mrg a2 b2:=by
  cases b2 with
  |nil=>rw[Z9O,Z9O]
  |cons y b=>rw[ZD9,if_pos (hx y rfl)]
 rw[e2]at e
 have hs:=Z9e _ _ _ rfl ha hb
 rw[e,show mrg a1 b1++x::mrg a2 b2=(mrg a1 b1++[x])++mrg a2 b2 by simp]at hs
 refine⟨Z7x ?_ (Z9e _ _ _ rfl ?_ (Z9f hb).1) (Z9f hs).1,?_⟩
 ·refine List.perm_iff_count.mpr fun z=>?_
  have p1:=(Z7y _ (a1++[x]) b1 rfl).count_eq z
  have p2:=(Z7y _ a1 b1 rfl).count_eq z
  simp only[List.count_append]at p1 p2⊢
  omega
 ·have:a1++x::a2=(a1++[x])++a2:=by simp
  rw[this]at ha
  exact(Z9f ha).1
 ·rw[e,show mrg a1 b1++x::mrg a2 b2=(mrg a1 b1++[x])++mrg a2 b2 by simp]
  exact List.take_left' (by simp[Z8G];omega)
theorem ZGk {a1 a2 b1 b2:List Rw} {y:Rw} (ha:Srt (a1++a2)) (hb:Srt (b1++y::b2)) (h:mrg a1 b1=(mrg (a1++a2) (b1++y::b2)).take (a1.length+b1.length)) (hy:∀x∈a2.head?,¬Rw.le x y):
  mrg a1 (b1++[y])=mrg a1 b1++[y]∧(mrg (a1++a2) (b1++y::b2)).take (a1.length+(b1.length+1))=mrg a1 b1++[y]:=by
 have e:=ZEl ha hb h
 have e2:mrg a2 (y::b2)=y::mrg a2 b2:=by
  cases a2 with
  |nil=>rw[Z8j,Z8j]
  |cons x a=>rw[ZD9,if_neg (hy x rfl)]
 rw[e2]at e
 have hs:=Z9e _ _ _ rfl ha hb
 rw[e,show mrg a1 b1++y::mrg a2 b2=(mrg a1 b1++[y])++mrg a2 b2 by simp]at hs
 refine⟨Z7x ?_ (Z9e _ _ _ rfl (Z9f ha).1 ?_) (Z9f hs).1,?_⟩
 ·refine List.perm_iff_count.mpr fun z=>?_
  have p1:=(Z7y _ a1 (b1++[y]) rfl).count_eq z
  have p2:=(Z7y _ a1 b1 rfl).count_eq z
  simp only[List.count_append]at p1 p2⊢
  omega
 ·have:b1++y::b2=(b1++[y])++b2:=by simp
  rw[this]at hb
  exact(Z9f hb).1
 ·rw[e,show mrg a1 b1++y::mrg a2 b2=(mrg a1 b1++[y])++mrg a2 b2 by simp]
  exact List.take_left' (by simp[Z8G];omega)
def ZDI (s:So):Nat:=
 if s.ph=1 then 3*(s.inp.length-s.pos.toNat)+2*(s.heap.length+s.dfd.length)+(if s.out=[]then 0 else 1)+(s.inp.length*(s.inp.length+2)+s.inp.length+2)
 else if s.ph=2 then(s.runs.length-1)*(s.inp.length+2)+(s.inp.length+1)-(s.lp.toNat+s.rp.toNat)
 else if s.ph=3 then s.inp.length-s.lp.toNat
 else 0
def rest (s:So):List Rw:=if s.ph=3 then(ZAN s.inp).drop s.lp.toNat else if s.ph=4 then[]else ZAN s.inp
structure ZC3 (s s':So) (em:List Rw):Prop where
 ok:Z9T s'=true
 wr:s.wr≤s'.wr∧s'.wr≤s.wr+4
 inp:s'.inp=s.inp
 less:ZDI s'<ZDI s
 rest:rest s=em++rest s'
theorem ZFE:∀{l:List (List Rw)},(∀r∈l,ZAB r=true)→l.length≤l.flatten.length
 |[],_=>Nat.le_refl _
 |a::l,h=>by
  have ih:=ZFE (l:=l) (fun r hr=>h r (by simp[hr]))
  have:=h a (by simp)
  simp only[ZAB,Bool.and_eq_true,decide_eq_true_eq]at this
  simp only[List.length_cons,List.flatten_cons,List.length_append]
  omega
theorem ZDF {r:List Rw} (h:ZAB r=true):r≠[]∧Srt r∧aok r=true:=by
 simp only[ZAB,Bool.and_eq_true,decide_eq_true_eq,ZD8]at h
 exact⟨fun e=>by rw[e]at h;simp at h,h.2.1,h.2.2⟩
theorem ZEC {r:List Rw} (h1:r≠[]) (h2:Srt r) (h3:aok r=true):ZAB r=true:=by
 simp only[ZAB,Bool.and_eq_true,decide_eq_true_eq,ZD8]
 exact⟨by cases r with|nil=>exact absurd rfl h1|cons a l=>simp,h2,h3⟩
theorem ZFF {s:So} (h1:aok s.inp=true) (hp:s.pos=s.inp.length) (h3:∀r∈s.runs,ZAB r=true) (h4:0≤s.wr) (hh:s.heap=[]) (hd:s.dfd=[]) (ho:s.out=[]) (hpm:s.runs.flatten.Perm s.inp):
  Z9T (ZCI s)=true∧ZDI (ZCI s)≤s.runs.length*(s.inp.length+2)∧ZDI (ZCI s)<s.inp.length*(s.inp.length+2)+s.inp.length+2∧rest (ZCI s)=ZAN s.inp:=by
 have hlen:=hpm.length_eq
 have hrl:=ZFE h3
 have hmul:(s.runs.length-1)*(s.inp.length+2)≤s.inp.length*(s.inp.length+2):=Nat.mul_le_mul_right _ (by omega)
 obtain⟨inp,pos,heap,dfd,out,runs,lp,rp,ph,wr⟩:=s
 simp only at*
 subst hh;subst hd;subst ho
 unfold ZCI
 simp only
 rcases runs with _|⟨a,_|⟨b,r⟩⟩
 ·have hi:inp=[]:=List.length_eq_zero_iff.mp (by simpa using hlen.symm)
  subst hi
  refine⟨Z96 h1 (by simp only at*;simp at hp;omega) h3 h4 .nil (fun r hr=>by cases hr) (Z8k (by simp) hp rfl rfl hpm (ZDj rfl (by simp) rfl rfl rfl)),by simp[ZDI],by simp[ZDI],by simp[rest,ZAN]⟩
 ·have ha:=(ZDF (h3 a (by simp))).1
  have hil:0<inp.length:=by
   cases a with
   |nil=>exact absurd rfl ha
   |cons x a=>simp at hlen;omega
  refine⟨Z96 h1 (by simp only;omega) h3 h4 .nil (fun r hr=>by cases hr) (Z8k (by simp) hp rfl rfl hpm (ZDi (by simp) (by simp) (by simp only;omega) rfl rfl)),by simp[ZDI]<;>omega,by simp[ZDI]<;>omega,by simp[rest]⟩
 ·have e0:¬(a::b::r).length=0:=by simp
  have e1:¬(a::b::r).length=1:=by simp
  simp only[if_neg e0,if_neg e1]
  refine⟨Z96 h1 (by simp only;omega) h3 h4 .nil (fun r hr=>by cases hr) (Z8k (by simp) hp rfl rfl hpm (ZBt rfl rfl (by simp) (by simp) (by simp[Z8j]) (by simp))),?_,?_,by simp[rest]⟩
  ·simp only[ZDI,List.length_cons,Nat.add_sub_cancel]at*
   have:(r.length+1+1)*(inp.length+2)=(r.length+1)*(inp.length+2)+(inp.length+2):=Nat.succ_mul _ _
   simp;omega
  ·simp only[ZDI,List.length_cons,Nat.add_sub_cancel]at*
   simp;omega
theorem ZG0 {l:List Rw} {m:Rw} (hs:Srt l) (h:Z9H m l=false):Srt (l++[m]):=by
 rcases ZE2 l with rfl|⟨u,x,rfl⟩
 ·exact List.pairwise_singleton _ _
 ·rw[Z9b,decide_eq_false_iff_not]at h
  refine List.pairwise_append.mpr ⟨hs,List.pairwise_singleton _ _,fun z hz y hy=>?_⟩
  rw[List.mem_singleton.mp hy]
  rcases List.mem_append.mp hz with hz|hz
  ·exact Rw.le_tr ((List.pairwise_append.mp hs).2.2 z hz x (by simp)) h
  ·rw[List.mem_singleton.mp hz];exact h
theorem ZEm {l:List Rw} {k:Nat} {m:Rw} (h:l[k]?=some m):(m::ZEA l k).Perm l:=by
 obtain⟨hk,hm⟩:=List.getElem?_eq_some_iff.mp h
 have e:l=l.take k++m::l.drop (k+1):=by
  rw[←hm,←List.drop_eq_getElem_cons hk,List.take_append_drop]
 unfold ZEA
 refine List.perm_iff_count.mpr fun x=>?_
 have:=congrArg (List.count x) e
 simp only[List.count_cons,List.count_append]at this⊢
 omega
theorem ZG1 {l m:List Rw} (h:l.Perm m):Z83 l=Z83 m:=by
 unfold Z83
 exact(h.map Rw.cost).sum_nat
theorem ZAD {s:So} (h:s.ph=1∨s.ph=2):rest s=ZAN s.inp:=by
 unfold rest
 rw[if_neg (by omega),if_neg (by omega)]
theorem ZBu {s s':So} (h:s.ph=1∨s.ph=2) (h':s'.ph=1∨s'.ph=2) (e:s'.inp=s.inp):rest s=[]++rest s':=by rw[ZAD h,ZAD h',e];rfl
theorem ZIA {s:So} {g:Int} {r:Rw} (hv:Z9T s=true) (h1:s.ph=1) (hg:g≤60) (hq:s.inp[s.pos.toNat]?=some r) (hf:ZGu s g r=true):ZC3 s (ZHC s r) []:=by
 obtain⟨o1,⟨o2,o2'⟩,o3,o4,o5,o6,o7⟩:=Z9I hv
 obtain⟨t1,t2,t3,t4,t5⟩:=Z9q o7 h1
 have hlt:=(List.getElem?_eq_some_iff.mp hq).1
 have hin:=Z8Q o1
 have hw:w64 (s.pos+1)=s.pos+1:=Z5a ⟨by omega,by omega⟩
 have htk:s.inp.take (s.pos+1).toNat=s.inp.take s.pos.toNat++[r]:=by
  rw[show(s.pos+1).toNat=s.pos.toNat+1 by omega,List.take_add_one,hq];rfl
 have hm:(ZC2 s:Int)+(r.cost:Nat)≤g:=by simpa[ZGu,leI]using hf
 have hms:ZC2 s=Z83 s.heap+Z83 s.dfd:=if_pos h1
 unfold ZHC
 cases hb:Z9H r s.out with
 |true=>
  have hout:s.out≠[]:=fun e=>by rw[e,ZAs]at hb;cases hb
  simp only[if_true]
  refine⟨Z96 o1 ⟨by simp only[hw];omega,by simp only[hw];omega⟩ o3 o4 o5 o6 (ZAC h1 t1 t2 (.inl hout) ?_ ?_),⟨by simp,by simp;omega⟩,rfl,?_,?_⟩
  ·simp only[ZC2,h1,if_true,ZCm,ZA4,ZA3];omega
  ·simp only[hw,htk]
   refine List.perm_iff_count.mpr fun x=>?_
   have:=t5.count_eq x
   simp only[List.count_append]at this⊢
   omega
  ·simp only[ZDI,h1,if_true,hw,List.length_append,List.length_singleton]
   have:(s.pos+1).toNat=s.pos.toNat+1:=by omega
   rw[this];omega
  ·exact ZBu (.inl h1) (.inl h1) rfl
 |false=>
  simp only[Bool.false_eq_true,if_false]
  refine⟨Z96 o1 ⟨by simp only[hw];omega,by simp only[hw];omega⟩ o3 o4 o5 (fun x hx=>?_) (ZAC h1 t1 t2 t3 ?_ ?_),⟨by simp,by simp;omega⟩,rfl,?_,?_⟩
  ·rcases List.mem_append.mp hx with hx|hx
   ·exact o6 x hx
   ·rw[List.mem_singleton.mp hx];exact hb
  ·simp only[ZC2,h1,if_true,ZCm,ZA4,ZA3];omega
  ·simp only[hw,htk]
   refine List.perm_iff_count.mpr fun x=>?_
   have:=t5.count_eq x
   simp only[List.count_append]at this⊢
   omega
  ·simp only[ZDI,h1,if_true,hw,List.length_append,List.length_singleton]
   have:(s.pos+1).toNat=s.pos.toNat+1:=by omega
   rw[this];omega
  ·exact ZBu (.inl h1) (.inl h1) rfl
theorem ZIo {s:So} (hv:Z9T s=true) (h1:s.ph=1) (hh:s.heap≠[]) (hw:s.wr≤1000000000000):ZC3 s (ZJ7 s) []:=by
 obtain⟨o1,⟨o2,o2'⟩,o3,o4,o5,o6,o7⟩:=Z9I hv
 obtain⟨t1,t2,t3,t4,t5⟩:=Z9q o7 h1
 obtain⟨m,hm,hmin⟩:=ZFl hh
 have hgd:s.heap.getD (ZDC s.heap) rwZ=m:=by simp[List.getD_eq_getElem?_getD,hm]
 have hp:=ZEm hm
 have hml:=hp.length_eq
 simp only[List.length_cons]at hml
 have hmh:m∈s.heap:=List.mem_of_getElem? hm
 have hc:=ZAF m
 have hww:w64 (s.wr+(m.cost:Nat))=s.wr+(m.cost:Nat):=Z5a ⟨by omega,by omega⟩
 have hms:ZC2 s=Z83 s.heap+Z83 s.dfd:=if_pos h1
 have htc:=ZG1 hp
 rw[ZA4]at htc
 unfold ZJ7
 rw[hgd,hww]
 refine⟨Z96 o1 ⟨o2,o2'⟩ o3 (by simp only;omega) (ZG0 o5 (o6 m hmh)) (fun x hx=>?_) (ZAC h1 t1 t2 (.inl (by simp)) ?_ ?_),⟨by simp only;omega,by simp only;omega⟩,rfl,?_,?_⟩
 ·simp only at hx⊢
  rw[Z9b,decide_eq_false_iff_not]
  exact hmin x (hp.mem_iff.mp (by simp[hx]))
 ·simp only[ZC2,h1,if_true];omega
 ·refine List.perm_iff_count.mpr fun x=>?_
  have:=t5.count_eq x
  have e:=hp.count_eq x
  simp only[List.count_append,List.count_cons,List.count_nil]at this e⊢
  omega
 ·simp only[ZDI,h1,if_true]
  have e1:¬(s.out++[m]=[]):=by simp
  rw[if_neg e1]
  split<;>omega
 ·exact ZBu (.inl h1) (.inl h1) rfl
theorem ZHf {s:So} {g:Int} (hv:Z9T s=true) (h1:s.ph=1) (hg:8≤g) (hw:s.wr≤1000000000000) (hn:∀r,s.inp[s.pos.toNat]?=some r→ZGu s g r=false):ZC3 s (ZIL s) []:=by
 unfold ZIL
 obtain⟨o1,⟨o2,o2'⟩,o3,o4,o5,o6,o7⟩:=Z9I hv
 obtain⟨t1,t2,t3,t4,t5⟩:=Z9q o7 h1
 obtain⟨r1,r2,r3⟩:=ZDB hv
 have hms:ZC2 s=Z83 s.heap+Z83 s.dfd:=if_pos h1
 by_cases hh:s.heap=[]
 ·rw[if_pos hh]
  by_cases hd:s.dfd=[]
  ·rw[if_pos hd]
   have hpos:s.pos=s.inp.length:=by
    cases hq:s.inp[s.pos.toNat]? with
    |none=>have:=List.getElem?_eq_none_iff.mp hq;omega
    |some r=>
     have:=hn r hq
     rw[hh,hd]at hms
     have hc:=ZAF r
     simp only[ZA3]at hms
     simp only[ZGu,leI,decide_eq_false_iff_not]at this
     omega
   have htk:s.inp.take s.pos.toNat=s.inp:=List.take_of_length_le (by omega)
   rw[htk,hh,hd]at t5
   simp only[List.append_nil]at t5
   by_cases ho:s.out=[]
   ·rw[if_pos ho]
    rw[ho,List.append_nil]at t5
    obtain⟨n1,n2,n3,n4⟩:=ZFF o1 hpos o3 o4 hh hd ho t5
    refine⟨n1,⟨Int.le_refl _,by show s.wr≤s.wr+4;omega⟩,rfl,?_,?_⟩
    ·simp only[ZDI,h1,if_true]at n3⊢;omega
    ·rw[ZAD (.inl h1),n4];rfl
   ·rw[if_neg ho]
    have hrun:=ZEC ho o5 r3
    obtain⟨n1,n2,n3,n4⟩:=ZFF (s:=ZFC s) o1 hpos (fun r hr=>by
     rcases List.mem_append.mp hr with hr|hr
     ·exact o3 r hr
     ·rw[List.mem_singleton.mp hr];exact hrun) o4 hh hd rfl (by simpa[ZFC]using t5)
    refine⟨n1,⟨Int.le_refl _,by show s.wr≤s.wr+4;omega⟩,rfl,?_,?_⟩
    ·have:(ZFC s).inp=s.inp:=rfl
     rw[this]at n3
     have e:ZDI s=3*(s.inp.length-s.pos.toNat)+2*(s.heap.length+s.dfd.length)+(if s.out=[]then 0 else 1)+(s.inp.length*(s.inp.length+2)+s.inp.length+2):=if_pos h1
     rw[e];omega
    ·rw[ZAD (.inl h1),n4];rfl
  ·rw[if_neg hd]
   have ho:s.out≠[]:=t3.resolve_right hd
   refine⟨Z96 o1 ⟨o2,o2'⟩ (fun r hr=>?_) o4 .nil (fun r _=>ZAs r) (ZAC h1 t1 t2 (.inr rfl) ?_ ?_),⟨Int.le_refl _,by show s.wr≤s.wr+4;omega⟩,rfl,?_,?_⟩
   ·rcases List.mem_append.mp hr with hr|hr
    ·exact o3 r hr
    ·rw[List.mem_singleton.mp hr];exact ZEC ho o5 r3
   ·rw[hh,ZA3]at hms
    simp only[ZC2,h1,if_true,ZA3]at*;omega
   ·rw[hh]at t5
    refine List.perm_iff_count.mpr fun x=>?_
    have:=t5.count_eq x
    simp only[List.flatten_append,List.flatten_cons,List.flatten_nil,List.count_append,List.count_nil]at this⊢
    omega
   ·simp only[ZDI,h1,if_true,if_neg ho,hh,List.length_nil];omega
   ·exact ZBu (.inl h1) (.inl h1) rfl
 ·rw[if_neg hh]
  exact ZIo hv h1 hh hw
theorem ZIp (x:Rw) {w:Int} (h0:0≤w) (h:w≤1000000000000):w64 (w+(x.cost:Nat))=w+(x.cost:Nat):=by have:=ZAF x;exact Z5a ⟨by omega,by omega⟩
theorem ZAl {l:List Rw} {p:Nat} {x:Rw} (h:l[p]?=some x):l=l.take p++x::l.drop (p+1)∧l.take (p+1)=l.take p++[x]∧(l.take p).length=p∧l.drop p=x::l.drop (p+1):=by
 obtain⟨hk,hm⟩:=List.getElem?_eq_some_iff.mp h
 have e:l.drop p=x::l.drop (p+1):=by rw[←hm];exact List.drop_eq_getElem_cons hk
 exact⟨by rw[←e,List.take_append_drop],by rw[List.take_add_one,h];rfl,by simp;omega,e⟩
theorem ZHG {s:So} (hv:Z9T s=true) (h2:s.ph=2) (hw:s.wr≤1000000000000):ZC3 s (ZGg s) []:=by
 obtain⟨o1,⟨o2,o2'⟩,o3,o4,o5,o6,o7⟩:=Z9I hv
 obtain⟨t1,t2,t3,t4,t5⟩:=Z9P o7 (by omega)
 obtain⟨a,b,r,e,⟨l0,l1⟩,⟨r0,r1⟩,m1,m2⟩:=ZBY t5 h2
 have hin:=Z8Q o1
 have hlen:=t4.length_eq
 rw[e]at hlen
 simp only[List.flatten_cons,List.length_append]at hlen
 have hsa:=(ZDF (o3 a (by rw[e];simp))).2.1
 have hsb:=(ZDF (o3 b (by rw[e];simp))).2.1
 obtain⟨s1,s2,s3⟩:=ZDB hv
 obtain⟨inp,pos,heap,dfd,out,runs,lp,rp,ph,wr⟩:=s
 simp only at*
 subst e;subst h2;subst t2;subst t3
 obtain⟨p,rfl⟩:∃p:Nat,lp=p:=⟨lp.toNat,by omega⟩
 obtain⟨q,rfl⟩:∃q:Nat,rp=q:=⟨rp.toNat,by omega⟩
 simp only[Int.toNat_natCast]at*
 have hpw:w64 ((p:Int)+1)=((p+1:Nat):Int):=Z8X (by omega)
 have hqw:w64 ((q:Int)+1)=((q+1:Nat):Int):=Z8X (by omega)
 have lenA:(a.take p).length=p:=by simp;omega
 have lenB:(b.take q).length=q:=by simp;omega
 have eA:a.take p++a.drop p=a:=List.take_append_drop _ _
 have eB:b.take q++b.drop q=b:=List.take_append_drop _ _
 have inv:mrg (a.take p) (b.take q)=(mrg (a.take p++a.drop p) (b.take q++b.drop q)).take ((a.take p).length+(b.take q).length):=by rw[eA,eB,lenA,lenB,←m2,m1]
 have left:∀x,a[p]?=some x→(∀y∈(b.drop q).head?,Rw.le x y)→ZC3 ⟨inp,pos,[],[],out,a::b::r,p,q,2,wr⟩ (ZHD ⟨inp,pos,[],[],out,a::b::r,p,q,2,wr⟩ x) []:=fun x hx hy=>by
  obtain⟨g1,g2,g3,g4⟩:=ZAl hx
  have hplt:=(List.getElem?_eq_some_iff.mp hx).1
  have hc:=ZAF x
  rw[g4]at inv
  obtain⟨k1,k2⟩:=ZGj (by rw[←g1];exact hsa) (by rw[eB];exact hsb) inv hy
  rw[←g2,←m1]at k1
  rw[←g1,eB,lenA,lenB,←m1]at k2
  unfold ZHD
  simp only[hpw,ZIp x o4 hw]
  have hs:Srt (out++[x]):=by
   rw[←k2]
   have:=Z9e _ _ _ rfl hsa hsb
   rw[←List.take_append_drop (p+1+q) (mrg a b)]at this
   exact(Z9f this).1
  refine⟨Z96 o1 ⟨o2,o2'⟩ o3 (by simp only;omega) hs (fun r hr=>by cases hr) (Z8k (by simp) t1 rfl rfl t4 (ZBt rfl rfl ⟨by simp only;omega,by simp only;omega⟩ ⟨r0,r1⟩ ?_ ?_)),⟨by simp only;omega,by simp only;omega⟩,rfl,?_,ZBu (.inr rfl) (.inr rfl) rfl⟩
  ·simp only[Int.toNat_natCast];exact k1.symm
  ·simp only[Int.toNat_natCast];exact k2.symm
  ·simp only[ZDI,List.length_cons,Int.toNat_natCast]
   simp;omega
 have right:∀y,b[q]?=some y→(∀x∈(a.drop p).head?,¬Rw.le x y)→ZC3 ⟨inp,pos,[],[],out,a::b::r,p,q,2,wr⟩ (ZHE ⟨inp,pos,[],[],out,a::b::r,p,q,2,wr⟩ y) []:=fun y hy hx=>by
  obtain⟨g1,g2,g3,g4⟩:=ZAl hy
  have hqlt:=(List.getElem?_eq_some_iff.mp hy).1
  have hc:=ZAF y
  rw[g4]at inv
  obtain⟨k1,k2⟩:=ZGk (by rw[eA];exact hsa) (by rw[←g1];exact hsb) inv hx
  rw[←g2,←m1]at k1
  rw[←g1,eA,lenA,lenB,←m1]at k2
  unfold ZHE
  simp only[hqw,ZIp y o4 hw]
  have hs:Srt (out++[y]):=by
   rw[←k2]
   have:=Z9e _ _ _ rfl hsa hsb
   rw[←List.take_append_drop (p+(q+1)) (mrg a b)]at this
   exact(Z9f this).1
  refine⟨Z96 o1 ⟨o2,o2'⟩ o3 (by simp only;omega) hs (fun r hr=>by cases hr) (Z8k (by simp) t1 rfl rfl t4 (ZBt rfl rfl ⟨l0,l1⟩ ⟨by simp only;omega,by simp only;omega⟩ ?_ ?_)),⟨by simp only;omega,by simp only;omega⟩,rfl,?_,ZBu (.inr rfl) (.inr rfl) rfl⟩
  ·simp only[Int.toNat_natCast];exact k1.symm
  ·simp only[Int.toNat_natCast];exact k2.symm
  ·simp only[ZDI,List.length_cons,Int.toNat_natCast]
   simp;omega
 unfold ZGg
 simp only[Int.toNat_natCast]
 cases ha:a[p]? with
 |none=>
  have hpe:p=a.length:=by have:=List.getElem?_eq_none_iff.mp ha;omega
  cases hb:b[q]? with
  |none=>
   have hqe:q=b.length:=by have:=List.getElem?_eq_none_iff.mp hb;omega
   simp only
   have hout:out=mrg a b:=by rw[m2,hpe,hqe,List.take_of_length_le (by rw[Z8G];omega)]
   have hane:=(ZDF (o3 a (by simp))).1
   have hone:out≠[]:=fun e0=>by
    have:=Z8G a b
    rw[←hout,e0]at this
    cases a with
    |nil=>exact hane rfl
    |cons x a=>simp at this;omega
   have hrun:=ZEC hone (hout▸Z9e _ _ _ rfl hsa hsb) s3
   obtain⟨n1,n2,n3,n4⟩:=ZFF (s:=ZFC ⟨inp,pos,[],[],out,r,p,q,2,wr⟩) o1 t1 (fun x hx=>by
    rcases List.mem_append.mp hx with hx|hx
    ·exact o3 x (by simp[hx])
    ·rw[List.mem_singleton.mp hx];exact hrun) o4 rfl rfl rfl (by
    refine List.perm_iff_count.mpr fun x=>?_
    have c1:=t4.count_eq x
    have c2:=(Z7y _ a b rfl).count_eq x
    rw[←hout]at c2
    simp only[ZFC,List.flatten_append,List.flatten_cons,List.flatten_nil,List.count_append,List.count_nil]at c1 c2⊢
    omega)
   refine⟨n1,⟨Int.le_refl _,by show wr≤wr+4;omega⟩,rfl,?_,?_⟩
   ·have e1:(ZFC ⟨inp,pos,[],[],out,r,p,q,2,wr⟩:So).runs.length=r.length+1:=by simp[ZFC]
    rw[e1]at n2
    have e2:(ZFC ⟨inp,pos,[],[],out,r,p,q,2,wr⟩:So).inp=inp:=rfl
    rw[e2]at n2
    have e3:ZDI ⟨inp,pos,[],[],out,a::b::r,p,q,2,wr⟩=(r.length+1)*(inp.length+2)+(inp.length+1)-(p+q):=by simp[ZDI]
    rw[e3];omega
   ·rw[ZAD (.inr rfl),n4];rfl
  |some y=>
   simp only
   exact right y hb (fun x hx=>by rw[List.drop_of_length_le (by omega)]at hx;cases hx)
 |some x=>
  cases hb:b[q]? with
  |none=>
   simp only
   have:=List.getElem?_eq_none_iff.mp hb
   exact left x ha (fun y hy=>by rw[List.drop_of_length_le (by omega)]at hy;cases hy)
  |some y=>
   simp only
   have g4:=(ZAl ha).2.2.2
   have g5:=(ZAl hb).2.2.2
   by_cases hle:Rw.le x y
   ·rw[if_pos hle]
    exact left x ha (fun z hz=>by rw[g5]at hz;simp at hz;rw[←hz];exact hle)
   ·rw[if_neg hle]
    exact right y hb (fun z hz=>by rw[g4]at hz;simp at hz;rw[←hz];exact hle)
theorem ZIB {s:So} (hv:Z9T s=true) (h3:s.ph=3):ZC3 s (ZEk s).1 (ZEk s).2:=by
 obtain⟨o1,⟨o2,o2'⟩,o3,o4,o5,o6,o7⟩:=Z9I hv
 obtain⟨t1,t2,t3,t4,t5⟩:=Z9P o7 (by omega)
 obtain⟨e,⟨l0,l1⟩,e2,e3⟩:=ZBZ t5 h3
 have hin:=Z8Q o1
 obtain⟨inp,pos,heap,dfd,out,runs,lp,rp,ph,wr⟩:=s
 simp only at*
 subst h3;subst t2;subst t3;subst e2;subst e3
 obtain⟨a,rfl⟩:=List.length_eq_one_iff.mp e
 obtain⟨p,rfl⟩:∃p:Nat,lp=p:=⟨lp.toNat,by omega⟩
 have t4:a.Perm inp:=by simpa using t4
 have hal:=t4.length_eq
 have hsa:=(ZDF (o3 a (by simp))).2.1
 have ha:a=ZAN inp:=Z7x (t4.trans (Z7V inp).symm) hsa (ZAA inp)
 obtain⟨x,hx⟩:∃x,a[p]?=some x:=⟨_,List.getElem?_eq_getElem (by omega)⟩
 have hpw:w64 ((p:Int)+1)=((p+1:Nat):Int):=Z8X (by omega)
 unfold ZEk
 simp only[Int.toNat_natCast,hx,hpw]
 have hdrop:=(ZAl hx).2.2.2
 rw[ha]at hdrop
 by_cases hl:p+1=inp.length
 ·rw[if_pos (by omega)]
  refine⟨Z96 o1 ⟨o2,o2'⟩ o3 o4 o5 (fun r hr=>by cases hr) (Z8k (by simp) t1 rfl rfl (by simpa using t4) (ZDj rfl (by simp) (by simp only;omega) rfl rfl)),⟨Int.le_refl _,by show wr≤wr+4;omega⟩,rfl,?_,?_⟩
  ·simp[ZDI];omega
  ·simp only[rest,Int.toNat_natCast]
   simp
   rw[hdrop,List.drop_of_length_le (by rw[←ha];omega)]
 ·rw[if_neg (by omega)]
  refine⟨Z96 o1 ⟨o2,o2'⟩ o3 o4 o5 (fun r hr=>by cases hr) (Z8k (by simp) t1 rfl rfl (by simpa using t4) (ZDi rfl rfl ⟨by simp only;omega,by simp only;omega⟩ rfl rfl)),⟨Int.le_refl _,by show wr≤wr+4;omega⟩,rfl,?_,?_⟩
  ·simp[ZDI];omega
  ·simp only[rest,Int.toNat_natCast]
   simp
   exact hdrop
theorem ZIC {s:So} {g:Int} (h:ZGh s g=true) (hw:s.wr≤1000000000000):ZC3 s (ZEB s g).1 (ZEB s g).2.1∧(ZEB s g).2.2=true:=by
 have h':=h
 simp only[ZGh,Bool.and_eq_true,Z8c,Bool.not_eq_true',eqI,decide_eq_false_iff_not]at h'
 obtain⟨hv,⟨g0,g1⟩,h4⟩:=h'
 unfold ZEB
 rw[h,cond_true]
 by_cases h1:s.ph=1
 ·rw[if_pos h1]
  refine⟨?_,rfl⟩
  simp only
  unfold ZI6
  cases hq:s.inp[s.pos.toNat]? with
  |none=>exact ZHf hv h1 g0 hw (fun r hr=>by rw[hq]at hr;cases hr)
  |some r=>
   simp only
   cases hf:ZGu s g r with
   |true=>simp only[if_true];exact ZIA hv h1 g1 hq hf
   |false=>simp only[Bool.false_eq_true,if_false];exact ZHf hv h1 g0 hw (fun r' hr=>by rw[hq]at hr;cases hr;exact hf)
 ·rw[if_neg h1]
  by_cases h2:s.ph=2
  ·rw[if_pos h2];exact⟨ZHG hv h2 hw,rfl⟩
  ·rw[if_neg h2]
   obtain⟨_,_,_,_,hl⟩:=Z9P (Z9I hv).2.2.2.2.2.2 h1
   exact⟨ZIB hv (by rcases ZAj hl with e|e|e<;>first|exact absurd e h2|exact e|exact absurd e h4),rfl⟩
noncomputable def Z5V (s:List UInt8):List Rw:=(ZAK s).getD []
noncomputable def isR (s:List UInt8):Bool:=(ZAK s).isSome
theorem ZDk (s:List UInt8):pRs s=[.sl ((Z5V s).map Rw.e),.bool (isR s)]:=by
 unfold pRs Z5V isR
 cases ZAK s<;>rfl
theorem ZHH {s:List UInt8} (h:isR s=true):aok (Z5V s)=true∧Z6c (Z5V s)=s:=by
 unfold isR at h
 cases hp:ZAK s with
 |none=>rw[hp]at h;cases h
 |some l=>
  have:=Z8y.mp hp
  unfold Z5V
  rw[hp]
  exact this
theorem Z9r {l:List Rw} (h:aok l=true):Z5V (Z6c l)=l∧isR (Z6c l)=true:=by
 have:=Z8y.mpr ⟨h,rfl⟩
 unfold Z5V isR
 rw[this]
 exact⟨rfl,rfl⟩
theorem Z7K (s:List UInt8):(Z5V s).length≤24:=by
 unfold Z5V
 cases hp:ZAK s with
 |none=>simp
 |some l=>exact Z8Q (Z8y.mp hp).1
noncomputable def Z8I (s:List UInt8):List (List Rw):=if s=[]then[]else(Z6L 124 s).map Z5V
noncomputable def ZFG (s:List UInt8):Bool:=decide (s=[])||(Z6L 124 s).all isR
theorem ZEn (s:List UInt8):szL List.length (Z8I s)≤25*(s.length+1):=by
 unfold Z8I
 split
 ·simp[szL]
 ·have h:=Z9N 124 s
  have key:∀l:List (List UInt8),szL List.length (l.map Z5V)≤25*l.length:=fun l=>by
   induction l with
   |nil=>simp[szL]
   |cons a l ih=>
    have:=Z7K a
    simp only[List.map_cons,szL,List.length_cons]
    omega
  have:=key (Z6L 124 s)
  omega
theorem ZHI {l:List (List Rw)} (h:∀r∈l,ZAB r=true):Z8I (Z6m l)=l∧ZFG (Z6m l)=true:=by
 have hr:∀r∈l,aok r=true∧r≠[]:=fun r hr=>by
  have:=h r hr
  simp only[ZAB,Bool.and_eq_true,decide_eq_true_eq]at this
  exact⟨this.2.2,fun e=>by rw[e]at this;simp at this⟩
 cases l with
 |nil=>
  have e:Z6m []=[]:=rfl
  rw[e]
  unfold Z8I ZFG
  exact⟨if_pos rfl,rfl⟩
 |cons a r=>
  have hne:Z6m (a::r)≠[]:=fun e=>by
   have h1:=hr a (by simp)
   have hf:Z6c a≠[]:=fun e2=>h1.2 (ZD1 (ZCl h1.1) (by rw[←Z8R h1.1];exact e2))
   cases r with
   |nil=>exact hf e
   |cons b r=>
    have:Z6m (a::b::r)=Z6c a++[124]++Z6m (b::r):=Z8D (by simp)
    rw[this]at e
    simp at e
  have hc:Z6L 124 (Z6m (a::r))=(a::r).map Z6c:=ZAq 124 _ (by simp) (fun x hx=>by
   obtain⟨q,_,rfl⟩:=List.mem_map.mp hx
   exact Z9c (by decide) (by decide) (by decide) (by decide) q)
  unfold Z8I ZFG
  rw[if_neg hne,hc]
  refine⟨?_,?_⟩
  ·rw[List.map_map]
   have:∀x∈a::r,(Z5V∘Z6c) x=id x:=fun x hx=>(Z9r (hr x hx).1).1
   rw[List.map_congr_left this,List.map_id]
  ·rw[Bool.or_eq_true]
   refine .inr (List.all_eq_true.mpr fun x hx=>?_)
   obtain⟨q,hq,rfl⟩:=List.mem_map.mp hx
   exact(Z9r (hr q hq).1).2
theorem ZG2 (s:List UInt8) (hs:s.length≤2097152):∃m:List (List Rw),callI tE Z89 [.str (S s)]=some [.sl (m.map rsE),.bool (ZFG s)]∧(ZFG s=true→m=Z8I s):=by
 rw[ZCH,ZBh]
 by_cases h0:s=[]
 ·subst h0
  refine⟨[],rfl,fun _=>?_⟩
  unfold Z8I;rw[if_pos rfl]
 ·have hc:=Z9N 124 s
  rw[decide_eq_false h0,cond_false,show((124:Int))=(((124:UInt8).toNat:Nat):Int)from rfl,ZIS 124 s (by omega)]
  simp only[gA]
  have key:∀(v u:List (List UInt8)),Z6L 124 s=u++v→u.all isR=true→∃m:List (List Rw),Z7f (lenI ((Z6L 124 s).map StE)) (u.length:Nat) ((u.map Z5V).map rsE) ((Z6L 124 s).map StE)=some [.sl (m.map rsE),.bool (ZFG s)]∧(ZFG s=true→m=Z8I s):=by
   intro v
   induction v with
   |nil=>
    intro u hu ha
    rw[List.append_nil]at hu
    have hr:ZFG s=true:=by unfold ZFG;rw[hu,ha];simp
    refine⟨u.map Z5V,?_,fun _=>?_⟩
    ·rw[Z8z,Z5L,ltF (by rw[hu];omega),cond_false,hr]
    ·unfold Z8I;rw[if_neg h0,hu]
   |cons x v ih=>
    intro u hu ha
    have hx:x.length≤2097152:=Nat.le_trans (Z76 (show x∈Z6L 124 s by rw[hu];simp)) hs
    have hul:u.length<(Z6L 124 s).length:=by rw[hu];simp
    have hat:at' ((Z6L 124 s).map StE) u.length=StE x:=ZC0 hu rfl
    rw[Z8z,Z5L,ltT (by omega),cond_true,ZCF (by omega) (by omega),cond_true]
    simp only[Z8q,hat,StE,gA,ZBl x (by omega),ZDk]
    cases hr:isR x with
    |false=>
     have har:ZFG s=false:=by
      unfold ZFG
      rw[decide_eq_false h0,hu]
      simp[hr]
     exact⟨[],by rw[har];rfl,fun e=>by rw[har]at e;cases e⟩
    |true=>
     have ih2:=ih (u++[x]) (by rw[hu];simp) (by simp[ha,hr])
     rw[Bool.not_true,cond_false,Z5o,List.length_map,show fitM (Nat.succ u.length) 24=true from Z9X (by omega),cond_true,ZDg,Z8X (by omega)]
     rw[List.length_append,List.length_singleton,List.map_append,List.map_cons,List.map_nil,Z5L]at ih2
     exact ih2
  exact key (Z6L 124 s) [] rfl rfl
def SoP (s:So):Prop:=Z9T s=true∧s.wr<1000000000
theorem ZIq {s:So} (h:SoP s):s.pos.natAbs<1000000000∧s.lp.natAbs<1000000000∧s.rp.natAbs<1000000000∧s.ph.natAbs<1000000000∧s.wr.natAbs<1000000000:=by
 obtain⟨hv,hw⟩:=h
 obtain⟨h1,h2,h3,h4,h5,h6,h7⟩:=Z9I hv
 have hl:=Z8Q h1
 by_cases p1:s.ph=1
 ·obtain⟨q1,q2,_⟩:=Z9q h7 p1
  omega
 ·obtain⟨q1,q2,q3,q4,q5⟩:=Z9P h7 p1
  rcases ZAj q5 with p|p|p
  ·obtain⟨a,b,r,e1,e2,e3,_⟩:=ZBY q5 p
   have hlen:=q4.length_eq
   rw[e1]at hlen
   simp only[List.flatten_cons,List.length_append]at hlen
   omega
  ·obtain⟨e1,e2,e3,_⟩:=ZBZ q5 p
   omega
  ·obtain⟨e1,e2,e3,_⟩:=ZE7 q5 p
   omega
theorem ZG3 (s:So):∀x∈ZFA s,(47:UInt8)∉x:=fun x hx=>by
 have hR:∀l,(47:UInt8)∉Z6c l:=fun l=>Z9c (by decide) (by decide) (by decide) (by decide) l
 have hN:∀n,(47:UInt8)∉fmt n:=fun n=>ZA7 (by decide) (by decide) n
 have hU:=ZBX (b:=47) (by decide) (by decide) (by decide) (by decide) (by decide) s.runs
 simp only[ZFA,List.mem_cons,List.not_mem_nil,or_false]at hx
 rcases hx with rfl|rfl|rfl|rfl|rfl|rfl|rfl|rfl|rfl|rfl
 ·exact hR _
 ·exact hN _
 ·exact hR _
 ·exact hR _
 ·exact hR _
 ·exact hU
 ·exact hN _
 ·exact hN _
 ·exact hN _
 ·exact hN _
theorem ZAE (s:So):Z6L 47 (ZAV s)=ZFA s:=ZAq 47 _ (by simp[ZFA]) (ZG3 s)
noncomputable def ZDl (w:List (List UInt8)):So:=⟨Z5V (w.getD 0 []),num (w.getD 1 []),Z5V (w.getD 2 []),Z5V (w.getD 3 []),Z5V (w.getD 4 []),Z8I (w.getD 5 []),num (w.getD 6 []),num (w.getD 7 []),num (w.getD 8 []),num (w.getD 9 [])⟩
noncomputable def ZID (w:List (List UInt8)):Bool:=isR (w.getD 0 [])&&(isN (w.getD 1 [])&&(isR (w.getD 2 [])&&(isR (w.getD 3 [])&&(isR (w.getD 4 [])&&(ZFG (w.getD 5 [])&&(isN (w.getD 6 [])&&(isN (w.getD 7 [])&&(isN (w.getD 8 [])&&isN (w.getD 9 [])))))))))
theorem ZDG {s:So} (h:SoP s):ZDl (ZFA s)=s∧ZID (ZFA s)=true:=by
 obtain⟨h1,h2,h3,h4,h5,h6,h7⟩:=Z9I h.1
 obtain⟨r1,r2,r3⟩:=ZDB h.1
 obtain⟨n1,n2,n3,n4,n5⟩:=ZIq h
 have e0:=Z9r h1
 have e1:=Z9Y n1
 have e2:=Z9r r1
 have e3:=Z9r r2
 have e4:=Z9r r3
 have e5:=ZHI h3
 have e6:=Z9Y n2
 have e7:=Z9Y n3
 have e8:=Z9Y n4
 have e9:=Z9Y n5
 refine⟨?_,?_⟩
 ·show(⟨Z5V (Z6c s.inp),num (fmt s.pos),Z5V (Z6c s.heap),Z5V (Z6c s.dfd),Z5V (Z6c s.out),Z8I (Z6m s.runs),num (fmt s.lp),num (fmt s.rp),num (fmt s.ph),num (fmt s.wr)⟩:So)=s
  rw[e0.1,e1.1,e2.1,e3.1,e4.1,e5.1,e6.1,e7.1,e8.1,e9.1]
 ·show(isR (Z6c s.inp)&&(isN (fmt s.pos)&&(isR (Z6c s.heap)&&(isR (Z6c s.dfd)&&(isR (Z6c s.out)&&(ZFG (Z6m s.runs)&&(isN (fmt s.lp)&&(isN (fmt s.rp)&&(isN (fmt s.ph)&&isN (fmt s.wr))))))))))=true
  rw[e0.2,e1.2,e2.2,e3.2,e4.2,e5.2,e6.2,e7.2,e8.2,e9.2]
  rfl
theorem ZGl (a b:So) (ha:SoP a) (hb:SoP b) (h:ZAV a=ZAV b):a=b:=by
 have e:=ZAE a
 rw[h,ZAE b]at e
 rw[←(ZDG ha).1,←(ZDG hb).1,e]
noncomputable def Z97 (s:List UInt8):Option So:=unf SoP ZAV s
theorem Z90 {s:List UInt8} {x:So}:Z97 s=some x↔SoP x∧ZAV x=s:=ZCO ZGl
theorem ZAm {s:List UInt8}:Z97 s=none↔∀x:So,SoP x→ZAV x≠s:=ZCP
def soZ:So:=⟨[],0,[],[],[],[],0,0,0,0⟩
def SoR (x:So) (b:Bool):List Dat:=[.sl (x.inp.map Rw.e),.int x.pos,.sl (x.heap.map Rw.e),.sl (x.dfd.map Rw.e),.sl (x.out.map Rw.e),.sl (x.runs.map rsE),.int x.lp,.int x.rp,.int x.ph,.int x.wr,.bool b]
noncomputable def pSo (s:List UInt8):List Dat:=match Z97 s with
 |some x=>SoR x true
 |none=>SoR soZ false
theorem ZHg {α:Type} {l:List α} (h:l.length=10):∃a b c d e f g i j k,l=[a,b,c,d,e,f,g,i,j,k]:=by
 match l,h with
 |[a,b,c,d,e,f,g,i,j,k],_=>exact⟨a,b,c,d,e,f,g,i,j,k,rfl⟩
theorem ZGm {s:List UInt8} (h:(Z6L 47 s).length≠10):pSo s=SoR soZ false:=by
 unfold pSo
 rw[ZAm.mpr fun x _ hx=>h (by rw[←hx,ZAE];rfl)]
theorem ZGn (s:List UInt8) (hs:s.length≤2097152):(ZDl (Z6L 47 s)).B2:=by
 have g:∀i,((Z6L 47 s).getD i []).length≤2097152:=fun i=>by
  by_cases hi:i<(Z6L 47 s).length
  ·have:(Z6L 47 s).getD i []∈Z6L 47 s:=by
    rw[List.getD_eq_getElem?_getD,List.getElem?_eq_getElem hi]
    exact List.getElem_mem hi
   exact Nat.le_trans (Z76 this) hs
  ·rw[List.getD_eq_getElem?_getD,List.getElem?_eq_none (by omega)]
   simp
 have a0:=Z7K ((Z6L 47 s).getD 0 [])
 have a2:=Z7K ((Z6L 47 s).getD 2 [])
 have a3:=Z7K ((Z6L 47 s).getD 3 [])
 have a4:=Z7K ((Z6L 47 s).getD 4 [])
 have a5:=ZEn ((Z6L 47 s).getD 5 [])
 have g5:=g 5
 simp only[So.B2,So.sz,ZDl]
 omega
theorem ZFH (w:List (List UInt8)):(ZDl w).nb:=⟨ZCx _,ZCx _,ZCx _,ZCx _,ZCx _⟩
theorem ZFI (w:List (List UInt8)):(ZDl w).wr<1000000000:=by
 have:(num (w.getD 9 [])).natAbs<1000000000:=ZHX _
 show num (w.getD 9 [])<1000000000
 omega
theorem ZJB (s:List UInt8):(bif ZID (Z6L 47 s)&&(Z9T (ZDl (Z6L 47 s))&&decide (ZAW (ZDl (Z6L 47 s))=s))then SoR (ZDl (Z6L 47 s)) true else SoR soZ false)=pSo s:=by
 unfold pSo
 cases hp:Z97 s with
 |some x=>
  obtain⟨h1,h2⟩:=Z90.mp hp
  have hc:Z6L 47 s=ZFA x:=by rw[←h2];exact ZAE x
  obtain⟨e1,e2⟩:=ZDG h1
  rw[hc,e1,e2,h1.1]
  have:ZAW x=s:=by unfold ZAW;rw[if_pos h1.1];exact h2
  rw[this]
  simp
 |none=>
  have hn:=ZAm.mp hp
  by_cases hv:Z9T (ZDl (Z6L 47 s))=true
  ·have hP:SoP (ZDl (Z6L 47 s)):=⟨hv,ZFI _⟩
   have:¬ZAW (ZDl (Z6L 47 s))=s:=fun e=>hn _ hP (by unfold ZAW at e;rw[if_pos hv]at e;exact e)
   rw[decide_eq_false this]
   simp
  ·rw[(Bool.not_eq_true _).mp hv]
   simp
theorem ZJC (s:List UInt8) (h10:(Z6L 47 s).length=10):(bif !decide (ZAW (ZDl (Z6L 47 s))=s)then SoR soZ false else SoR (ZDl (Z6L 47 s)) true)=pSo s:=by
 unfold pSo
 cases hp:Z97 s with
 |some x=>
  obtain⟨h1,h2⟩:=Z90.mp hp
  have hc:Z6L 47 s=ZFA x:=by rw[←h2];exact ZAE x
  obtain⟨e1,e2⟩:=ZDG h1
  rw[hc,e1]
  have:ZAW x=s:=by unfold ZAW;rw[if_pos h1.1];exact h2
  rw[this]
  simp
 |none=>
  have hn:=ZAm.mp hp
  have:¬ZAW (ZDl (Z6L 47 s))=s:=fun e=>by
   unfold ZAW at e
   by_cases hv:Z9T (ZDl (Z6L 47 s))=true
   ·rw[if_pos hv]at e
    exact hn _ ⟨hv,ZFI _⟩ e
   ·rw[if_neg hv]at e
    rw[←e]at h10
    simp[Z6L,Z9M]at h10
  rw[decide_eq_false this]
  rfl
theorem ZJR (l:List (List UInt8)):eqI (lenI (l.map StE)) 10=decide (l.length=10):=ZCy StE l 10
theorem ZFn (a:Bool) (x:List UInt8) (hx:x.length≤2097152):callI tE Z6J [.bool a,.str (S x)]=some [.sl ((Z5V x).map Rw.e),.bool (a&&isR x)]:=by
 rw[ZAx,ZBl x (by omega),ZDk]
 cases a<;>rfl
theorem ZGo (a:Bool) (x:List UInt8) (hx:x.length≤2097152):callI tE Z65 [.bool a,.str (S x)]=some [.int (num x),.bool (a&&isN x)]:=by
 rw[ZAy,ZBJ x (by omega),ZH4]
 cases a<;>rfl
theorem ZJS {m:Rows} {k n:Nat} (h:m.length=n) (hk:k<n):inR (k:Int) (lenI m)=true:=ZCF (by omega) (by show(k:Int)<(m.length:Int);omega)
theorem ZHJ (s:List UInt8) (hs:s.length≤2097152):callI tE Z8L [.str (S s)]=some (pSo s):=by
 have hc:=Z9N 47 s
 have hsub:∀x∈Z6L 47 s,x.length≤2097152:=fun x hx=>Nat.le_trans (Z76 hx) hs
 have hsz:=ZGn s hs
 have hnb:=ZFH (Z6L 47 s)
 have hi:=ZJB s
 rw[ZBT,show((47:Int))=(((47:UInt8).toNat:Nat):Int)from rfl,ZIS 47 s (by omega)]
 simp only[gA,ZJR]
 by_cases h10:(Z6L 47 s).length=10
 ·rw[decide_eq_true h10,Bool.not_true,cond_false]
  obtain⟨a,b,c,d,e,f,g,i,j,k,hw⟩:=ZHg h10
  rw[hw]at hsub hsz hnb hi⊢
  have q0:∀n:Nat,n<10→inR (n:Int) (lenI ([a,b,c,d,e,f,g,i,j,k].map StE))=true:=fun n hn=>ZJS (n:=10) rfl hn
  have i0:=q0 0 (by omega)
  have i1:=q0 1 (by omega)
  have i2:=q0 2 (by omega)
  have i3:=q0 3 (by omega)
  have i4:=q0 4 (by omega)
  have i5:=q0 5 (by omega)
  have i6:=q0 6 (by omega)
  have i7:=q0 7 (by omega)
  have i8:=q0 8 (by omega)
  have i9:=q0 9 (by omega)
  simp only[Int.natCast_zero,Int.natCast_one,Int.cast_ofNat_Int]at i0 i1 i2 i3 i4 i5 i6 i7 i8 i9
  have g0:at' ([a,b,c,d,e,f,g,i,j,k].map StE) (tn 0)=[.str (S a)]:=rfl
  have g1:at' ([a,b,c,d,e,f,g,i,j,k].map StE) (tn 1)=[.str (S b)]:=rfl
  have g2:at' ([a,b,c,d,e,f,g,i,j,k].map StE) (tn 2)=[.str (S c)]:=rfl
  have g3:at' ([a,b,c,d,e,f,g,i,j,k].map StE) (tn 3)=[.str (S d)]:=rfl
  have g4:at' ([a,b,c,d,e,f,g,i,j,k].map StE) (tn 4)=[.str (S e)]:=rfl
  have g5:at' ([a,b,c,d,e,f,g,i,j,k].map StE) (tn 5)=[.str (S f)]:=rfl
  have g6:at' ([a,b,c,d,e,f,g,i,j,k].map StE) (tn 6)=[.str (S g)]:=rfl
  have g7:at' ([a,b,c,d,e,f,g,i,j,k].map StE) (tn 7)=[.str (S i)]:=rfl
  have g8:at' ([a,b,c,d,e,f,g,i,j,k].map StE) (tn 8)=[.str (S j)]:=rfl
  have g9:at' ([a,b,c,d,e,f,g,i,j,k].map StE) (tn 9)=[.str (S k)]:=rfl
  obtain⟨m,m1,m2⟩:=ZG2 f (hsub f (by simp))
  simp only[i0,i1,i2,i3,i4,i5,i6,i7,i8,i9,cond_true,g0,g1,g2,g3,g4,g5,g6,g7,g8,g9,gA,ZFn _ a (hsub a (by simp)),ZGo _ b (hsub b (by simp)),ZFn _ c (hsub c (by simp)),ZFn _ d (hsub d (by simp)),ZFn _ e (hsub e (by simp)),m1,ZGo _ g (hsub g (by simp)),ZGo _ i (hsub i (by simp)),ZGo _ j (hsub j (by simp)),ZGo _ k (hsub k (by simp)),Bool.true_and]
  have hso:ZDl [a,b,c,d,e,f,g,i,j,k]=⟨Z5V a,num b,Z5V c,Z5V d,Z5V e,Z8I f,num g,num i,num j,num k⟩:=rfl
  have hal:ZID [a,b,c,d,e,f,g,i,j,k]=(isR a&&(isN b&&(isR c&&(isR d&&(isR e&&(ZFG f&&(isN g&&(isN i&&(isN j&&isN k))))))))):=rfl
  rw[hso]at hsz hnb hi
  rw[hal]at hi
  rw[←hi]
  cases hf:ZFG f with
  |false=>
   simp only[Bool.false_and,Bool.and_false,cond_false]
   cases isR a&&isN b&&isR c&&isR d&&isR e&&isN g&&isN i&&isN j&&isN k<;>rfl
  |true=>
   rw[m2 hf]
   have hx:(isR a&&isN b&&isR c&&isR d&&isR e&&isN g&&isN i&&isN j&&isN k)=(isR a&&(isN b&&(isR c&&(isR d&&(isR e&&(true&&(isN g&&(isN i&&(isN j&&isN k))))))))):=by simp only[Bool.true_and,Bool.and_assoc]
   rw[hx]
   generalize(isR a&&(isN b&&(isR c&&(isR d&&(isR e&&(true&&(isN g&&(isN i&&(isN j&&isN k)))))))))=B
   cases B
   ·rfl
   ·have v1:=ZCR _ hsz
    have v2:=ZEi _ hsz hnb
    simp only at v1 v2
    simp only[Bool.not_true,cond_false,v1,v2,gA,ZBh,Bool.true_and]
    cases Z9T ⟨Z5V a,num b,Z5V c,Z5V d,Z5V e,Z8I f,num g,num i,num j,num k⟩
    ·rfl
    ·simp only[Bool.not_true,cond_false,Bool.true_and]
     cases decide (ZAW ⟨Z5V a,num b,Z5V c,Z5V d,Z5V e,Z8I f,num g,num i,num j,num k⟩=s)<;>rfl
 ·rw[decide_eq_false h10,ZGm h10];rfl
theorem ZG4 (s:List UInt8) (hs:s.length≤2097152) (f:List UInt8) (hf:f.length≤2097152) (w:List (List UInt8)) (hw:w.length=10) (h5:w.getD 5 []=f) (K:Rows→Option (List Dat)) {x0:ByteArray} {x1 x2 x4 x5 x6 x7 x8 x10 x11 x12 x13 x14:Int} {x16 x17 x18 x19 x20 x21 x22 x23 x24:Rows}
  (hK:∀(i:Int) (m:Rows),ltI i (lenI ((Z6L 124 f).map StE))=false∨f=[]→inR 5 (lenI (w.map StE))=true→Z5j x0 x1 x2 i x4 x5 x6 x7 x8 (w.map StE) x10 x11 x12 x13 x14 ((Z6L 124 f).map StE) x16 x17 x18 x19 x20 x21 x22 x23 x24 m=K m):
  Z5j x0 x1 x2 0 x4 x5 x6 x7 x8 (w.map StE) x10 x11 x12 x13 x14 ((Z6L 124 f).map StE) x16 x17 x18 x19 x20 x21 x22 x23 x24 []=K ((Z8I f).map rsE):=by
 have hc:=Z9N 124 f
 have i5:inR 5 (lenI (w.map StE))=true:=ZCF (by omega) (by rw[Z5L];omega)
 by_cases h0:f=[]
 ·rw[hK 0 [] (.inr h0) i5]
  unfold Z8I
  rw[if_pos h0];rfl
 ·have a5:at' (w.map StE) (tn 5)=StE f:=by
   obtain⟨u,z,v,hu,hul⟩:=ZBW (show 5<w.length by omega)
   rw[hu,←hul,ZIf]at h5
   subst h5
   exact ZC0 hu hul
  have:=Z6i (l:=Z6L 124 f) (L:=fun(t:List (List Rw)) i=>Z5j x0 x1 x2 i x4 x5 x6 x7 x8 (w.map StE) x10 x11 x12 x13 x14 ((Z6L 124 f).map StE) x16 x17 x18 x19 x20 x21 x22 x23 x24 (t.map rsE)) (F:=fun _ _=>K ((Z8I f).map rsE)) (I:=fun t u _=>t=u.map Z5V) (by omega) (fun u x v t e hI=>by
   have hx:x.length≤2097152:=Nat.le_trans (Z76 (show x∈Z6L 124 f by rw[e];simp)) hf
   have hul:u.length<(Z6L 124 f).length:=by rw[e];simp
   have hat:at' ((Z6L 124 f).map StE) u.length=StE x:=ZC0 e rfl
   refine .inl ⟨(u++[x]).map Z5V,?_,rfl,rfl⟩
   show Z5j _ _ _ _ _ _ _ _ _ _ _ _ _ _ _ _ _ _ _ _ _ _ _ _ _ _=Z5j _ _ _ _ _ _ _ _ _ _ _ _ _ _ _ _ _ _ _ _ _ _ _ _ _ _
   rw[Z8U,show ltI (u.length:Int) (lenI ((Z6L 124 f).map StE))=true by rw[Z5L];exact ltT (by omega),cond_true,i5,cond_true,a5,ZAr hul]
   have hne:eqS (S f) (S [])=false:=by rw[ZBh,decide_eq_false h0]
   have z0:(S f==S [])=(S f==S []):=rfl
   simp only[StE,gA,hne,Bool.not_false,cond_true,Z8q,hat,ZBm x (show x.length<1073741824 by omega),ZDk,hI,Z5o,List.length_map]
   rw[show fitM (Nat.succ u.length) 24=true from Z9X (by omega),cond_true,ZDg]
   simp) (fun t ht=>by
   show Z5j _ _ _ _ _ _ _ _ _ _ _ _ _ _ _ _ _ _ _ _ _ _ _ _ _ _=_
   rw[hK _ _ (.inl (ZDu _)) i5,ht]
   unfold Z8I
   rw[if_neg h0]) [] rfl
  exact this
theorem ZHK (s:List UInt8) (hs:s.length≤2097152):callI tE Z7a [.str (S s)]=some (pSo s):=by
 have hc:=Z9N 47 s
 have hsub:∀x∈Z6L 47 s,x.length≤2097152:=fun x hx=>Nat.le_trans (Z76 hx) hs
 have hsz:=ZGn s hs
 have hnb:=ZFH (Z6L 47 s)
 rw[ZBU,show((47:Int))=(((47:UInt8).toNat:Nat):Int)from rfl,ZIT 47 s (by omega)]
 simp only[gA,ZJR]
 by_cases h10:(Z6L 47 s).length=10
 ·have hi:=ZJC s h10
  rw[decide_eq_true h10,Bool.not_true,cond_false]
  obtain⟨a,b,c,d,e,f,g,i,j,k,hw⟩:=ZHg h10
  rw[hw]at hsub hsz hnb hi⊢
  have q0:∀n:Nat,n<10→inR (n:Int) (lenI ([a,b,c,d,e,f,g,i,j,k].map StE))=true:=fun n hn=>ZJS (n:=10) rfl hn
  have i0:=q0 0 (by omega)
  have i1:=q0 1 (by omega)
  have i2:=q0 2 (by omega)
  have i3:=q0 3 (by omega)
  have i4:=q0 4 (by omega)
  have i5:=q0 5 (by omega)
  have i6:=q0 6 (by omega)
  have i7:=q0 7 (by omega)
  have i8:=q0 8 (by omega)
  have i9:=q0 9 (by omega)
  simp only[Int.natCast_zero,Int.natCast_one,Int.cast_ofNat_Int]at i0 i1 i2 i3 i4 i5 i6 i7 i8 i9
  have g0:at' ([a,b,c,d,e,f,g,i,j,k].map StE) (tn 0)=[.str (S a)]:=rfl
  have g1:at' ([a,b,c,d,e,f,g,i,j,k].map StE) (tn 1)=[.str (S b)]:=rfl
  have g2:at' ([a,b,c,d,e,f,g,i,j,k].map StE) (tn 2)=[.str (S c)]:=rfl
  have g3:at' ([a,b,c,d,e,f,g,i,j,k].map StE) (tn 3)=[.str (S d)]:=rfl
  have g4:at' ([a,b,c,d,e,f,g,i,j,k].map StE) (tn 4)=[.str (S e)]:=rfl
  have g5:at' ([a,b,c,d,e,f,g,i,j,k].map StE) (tn 5)=[.str (S f)]:=rfl
  have g6:at' ([a,b,c,d,e,f,g,i,j,k].map StE) (tn 6)=[.str (S g)]:=rfl
  have g7:at' ([a,b,c,d,e,f,g,i,j,k].map StE) (tn 7)=[.str (S i)]:=rfl
  have g8:at' ([a,b,c,d,e,f,g,i,j,k].map StE) (tn 8)=[.str (S j)]:=rfl
  have g9:at' ([a,b,c,d,e,f,g,i,j,k].map StE) (tn 9)=[.str (S k)]:=rfl
  have pr:∀x∈[a,b,c,d,e,f,g,i,j,k],callI tE Z5x [.str (S x)]=some [.sl ((Z5V x).map Rw.e),.bool (isR x)]:=fun x hx=>by
   have:=hsub x hx
   rw[ZBm x (by omega),ZDk]
  have pn:∀x∈[a,b,c,d,e,f,g,i,j,k],callI tE Z5X [.str (S x)]=some [.int (num x),.bool (isN x)]:=fun x hx=>by
   have:=hsub x hx
   rw[ZBK x (by omega),ZH4]
  have hcf:callI tE Z71 [.str (S f),.int 124]=some [.sl ((Z6L 124 f).map StE)]:=by
   have:=hsub f (by simp)
   exact ZIT 124 f (by omega)
  simp only[i0,i1,i2,i3,i4,i5,cond_true,g0,g1,g2,g3,g4,g5,gA,pr a (by simp),pn b (by simp),pr c (by simp),pr d (by simp),pr e (by simp),hcf]
  have hso:ZDl [a,b,c,d,e,f,g,i,j,k]=⟨Z5V a,num b,Z5V c,Z5V d,Z5V e,Z8I f,num g,num i,num j,num k⟩:=rfl
  rw[hso]at hsz hnb hi
  have v2:=ZEj _ hsz hnb
  simp only at v2
  refine(ZG4 s hs f (hsub f (by simp)) [a,b,c,d,e,f,g,i,j,k] rfl rfl (fun M=>(callI tE Z6P [.sl ((Z5V a).map Rw.e),.int (num b),.sl ((Z5V c).map Rw.e),.sl ((Z5V d).map Rw.e),.sl ((Z5V e).map Rw.e),.sl M,.int (num g),.int (num i),.int (num j),.int (num k)]).bind fun r4=>bif !(eqS (gs r4) (S s))then some (SoR soZ false)else some [.sl ((Z5V a).map Rw.e),.int (num b),.sl ((Z5V c).map Rw.e),.sl ((Z5V d).map Rw.e),.sl ((Z5V e).map Rw.e),.sl M,.int (num g),.int (num i),.int (num j),.int (num k),.bool true]) (fun ii M hend hin=>?_)).trans ?_
  ·rw[Z8U]
   rcases hend with hend|hend
   ·rw[hend,cond_false]
    simp only[i6,i7,i8,i9,cond_true,g6,g7,g8,g9,gA,pn g (by simp),pn i (by simp),pn j (by simp),pn k (by simp)]
    rfl
   ·have hne:eqS (S f) (S [])=true:=by rw[ZBh,decide_eq_true hend]
    simp only[hin,g5,hne,Bool.not_true,cond_false,i6,i7,i8,i9,cond_true,g6,g7,g8,g9,gA,pn g (by simp),pn i (by simp),pn j (by simp),pn k (by simp)]
    cases ltI ii (lenI ((Z6L 124 f).map StE))<;>rfl
  ·simp only[v2,gA,ZBh]
   rw[←hi]
   cases decide (ZAW ⟨Z5V a,num b,Z5V c,Z5V d,Z5V e,Z8I f,num g,num i,num j,num k⟩=s)<;>rfl
 ·rw[decide_eq_false h10,ZGm h10];rfl
def ZCJ (c:Ck):List UInt8:=Z7Q [33] [ZAV c.so,Z6c c.em]
def Z9z (c:Ck):List UInt8:=if ZDh c then ZCJ c else[]
theorem ZBa (c:Ck):ZCJ c=ZAV c.so++[33]++Z6c c.em:=by simp[ZCJ,Z7Q]
theorem ZDH {c:Ck} (h:ZDh c=true):Z9T c.so=true∧aok c.em=true∧w64 ((c.em.length:Int)+ZGd c.so)=c.so.inp.length∧c.em=(ZAN c.so.inp).take c.em.length:=by
 simp only[ZDh,Bool.and_eq_true,decide_eq_true_eq]at h
 exact h
theorem ZEo (c:Ck) (h:c.B2) (hb:c.so.nb):callI tE Z5y [.sl (c.so.inp.map Rw.e),.int c.so.pos,.sl (c.so.heap.map Rw.e),.sl (c.so.dfd.map Rw.e),.sl (c.so.out.map Rw.e),.sl (c.so.runs.map rsE),.int c.so.lp,.int c.so.rp,.int c.so.ph,.int c.so.wr,.sl (c.em.map Rw.e)]=some [.str (S (Z9z c))]:=by
 have hso:c.so.B2:=by simp only[Ck.B2,Ck.sz,So.B2]at*;omega
 have hl:=ZEh c.so hb hso.b.p.2.2.2.2
 have hm:=Z69 c.em
 rw[ZAL,ZE4 c h]
 simp only[gA]
 unfold Z9z
 by_cases hv:ZDh c=true
 ·have hs:=(ZDH hv).1
  have ht:ZAW c.so=ZAV c.so:=if_pos hs
  rw[hv,if_pos rfl,Bool.not_true,cond_false]
  simp only[ZEi c.so hso hb,ZB3,gA,ht]
  rw[Z5u (by simp;omega),Z6e,cond_true,Z5u (by simp;omega),Z6e,cond_true,ZBa]
 ·rw[if_neg hv,(Bool.not_eq_true _).mp hv];rfl
theorem ZEp (c:Ck) (h:c.B2) (hb:c.so.nb):callI tE Z6h [.sl (c.so.inp.map Rw.e),.int c.so.pos,.sl (c.so.heap.map Rw.e),.sl (c.so.dfd.map Rw.e),.sl (c.so.out.map Rw.e),.sl (c.so.runs.map rsE),.int c.so.lp,.int c.so.rp,.int c.so.ph,.int c.so.wr,.sl (c.em.map Rw.e)]=some [.str (S (Z9z c))]:=by
 have hso:c.so.B2:=by simp only[Ck.B2,Ck.sz,So.B2]at*;omega
 have hem:c.em.length≤1073741824:=by simp only[Ck.B2,Ck.sz]at h;omega
 have hl:=ZEh c.so hb hso.b.p.2.2.2.2
 have hm:=Z69 c.em
 rw[ZAM,ZFj c h]
 simp only[gA]
 unfold Z9z
 by_cases hv:ZDh c=true
 ·have hs:=(ZDH hv).1
  have ht:ZAW c.so=ZAV c.so:=if_pos hs
  rw[hv,if_pos rfl,Bool.not_true,cond_false]
  simp only[ZEj c.so hso hb,Z8h c.em (show c.em.length<1099511627776 by omega),gA,ht]
  rw[Z5u (by simp;omega),Z6e,cond_true,Z5u (by simp;omega),Z6e,cond_true,ZBa]
 ·rw[if_neg hv,(Bool.not_eq_true _).mp hv];rfl
noncomputable def Z9g (s:List UInt8):So:=(Z97 s).getD soZ
noncomputable def ZHh (s:List UInt8):Bool:=(Z97 s).isSome
theorem ZHi (s:List UInt8):pSo s=SoR (Z9g s) (ZHh s):=by
 unfold pSo Z9g ZHh
 cases Z97 s<;>rfl
theorem ZG5 {s:List UInt8} {x:So} (h:Z97 s=some x):x=ZDl (Z6L 47 s):=by
 obtain⟨h1,h2⟩:=Z90.mp h
 rw[←h2,ZAE]
 exact(ZDG h1).1.symm
theorem ZHL (s:List UInt8) (hs:s.length≤2097152):(ZDl (Z6L 47 s)).sz≤100000000:=by
 have g:∀i,((Z6L 47 s).getD i []).length≤2097152:=fun i=>by
  by_cases hi:i<(Z6L 47 s).length
  ·have:(Z6L 47 s).getD i []∈Z6L 47 s:=by
    rw[List.getD_eq_getElem?_getD,List.getElem?_eq_getElem hi]
    exact List.getElem_mem hi
   exact Nat.le_trans (Z76 this) hs
  ·rw[List.getD_eq_getElem?_getD,List.getElem?_eq_none (by omega)]
   simp
 have a0:=Z7K ((Z6L 47 s).getD 0 [])
 have a2:=Z7K ((Z6L 47 s).getD 2 [])
 have a3:=Z7K ((Z6L 47 s).getD 3 [])
 have a4:=Z7K ((Z6L 47 s).getD 4 [])
 have a5:=ZEn ((Z6L 47 s).getD 5 [])
 have g5:=g 5
 simp only[So.sz,ZDl]
 omega
theorem ZFJ (s:List UInt8) (hs:s.length≤2097152):(Z9g s).sz≤100000000∧(Z9g s).nb∧(Z9g s).wr<1000000000:=by
 unfold Z9g
 cases hp:Z97 s with
 |none=>
  have z:I64 0:=⟨by decide,by decide⟩
  exact⟨by decide,⟨z,z,z,z,z⟩,by decide⟩
 |some x=>
  have:=ZG5 hp
  subst this
  exact⟨ZHL s hs,ZFH _,ZFI _⟩
def CkP (c:Ck):Prop:=ZDh c=true∧c.so.wr<1000000000
theorem ZED (s:So):(33:UInt8)∉ZAV s:=ZAP (by decide) _ (fun x hx=>by
 have hR:∀l,(33:UInt8)∉Z6c l:=fun l=>Z9c (by decide) (by decide) (by decide) (by decide) l
 have hN:∀n,(33:UInt8)∉fmt n:=fun n=>ZA7 (by decide) (by decide) n
 have hU:=ZBX (b:=33) (by decide) (by decide) (by decide) (by decide) (by decide) s.runs
 simp only[ZFA,List.mem_cons,List.not_mem_nil,or_false]at hx
 rcases hx with rfl|rfl|rfl|rfl|rfl|rfl|rfl|rfl|rfl|rfl
 ·exact hR _
 ·exact hN _
 ·exact hR _
 ·exact hR _
 ·exact hR _
 ·exact hU
 ·exact hN _
 ·exact hN _
 ·exact hN _
 ·exact hN _)
theorem ZBb (c:Ck):Z6L 33 (ZCJ c)=[ZAV c.so,Z6c c.em]:=ZAq 33 _ (by simp) (fun x hx=>by
 simp only[List.mem_cons,List.not_mem_nil,or_false]at hx
 rcases hx with rfl|rfl
 ·exact ZED _
 ·exact Z9c (by decide) (by decide) (by decide) (by decide) _)
theorem ZBv {c:Ck} (h:CkP c):Z97 (ZAV c.so)=some c.so∧Z5V (Z6c c.em)=c.em∧isR (Z6c c.em)=true:=by
 obtain⟨h1,h2⟩:=h
 obtain⟨q1,q2,_⟩:=ZDH h1
 exact⟨Z90.mpr ⟨⟨q1,h2⟩,rfl⟩,(Z9r q2).1,(Z9r q2).2⟩
theorem ZGp (a b:Ck) (ha:CkP a) (hb:CkP b) (h:ZCJ a=ZCJ b):a=b:=by
 have e:=ZBb a
 rw[h,ZBb b]at e
 simp only[List.cons.injEq,and_true]at e
 obtain⟨a1,a2,_⟩:=ZBv ha
 obtain⟨b1,b2,_⟩:=ZBv hb
 rw[←e.1,b1]at a1
 rw[←e.2,b2]at a2
 cases a;cases b
 simp only at a1 a2
 cases a1;cases a2;rfl
noncomputable def Z8l (s:List UInt8):Option Ck:=unf CkP ZCJ s
theorem Z9s {s:List UInt8} {x:Ck}:Z8l s=some x↔CkP x∧ZCJ x=s:=ZCO ZGp
theorem Z9t {s:List UInt8}:Z8l s=none↔∀x:Ck,CkP x→ZCJ x≠s:=ZCP
def ckZ:Ck:=⟨soZ,[]⟩
def CkR (x:Ck) (b:Bool):List Dat:=[.sl (x.so.inp.map Rw.e),.int x.so.pos,.sl (x.so.heap.map Rw.e),.sl (x.so.dfd.map Rw.e),.sl (x.so.out.map Rw.e),.sl (x.so.runs.map rsE),.int x.so.lp,.int x.so.rp,.int x.so.ph,.int x.so.wr,.sl (x.em.map Rw.e),.bool b]
noncomputable def Z9Q (s:List UInt8):Ck:=(Z8l s).getD ckZ
noncomputable def ZGq (s:List UInt8):Bool:=(Z8l s).isSome
noncomputable def pCk (s:List UInt8):List Dat:=CkR (Z9Q s) (ZGq s)
theorem ZFK {s:List UInt8} (h:Z8l s=none):pCk s=CkR ckZ false:=by
 unfold pCk Z9Q ZGq
 rw[h];rfl
theorem ZFo {s:List UInt8} {c:Ck} (h:Z8l s=some c):pCk s=CkR c true:=by
 unfold pCk Z9Q ZGq
 rw[h];rfl
theorem ZHj {s:List UInt8} (h:(Z6L 33 s).length≠2):pCk s=CkR ckZ false:=
 ZFK (Z9t.mpr fun x _ hx=>h (by rw[←hx,ZBb];rfl))
theorem ZIr {s a b:List UInt8} {c:Ck} (hw:Z6L 33 s=[a,b]) (h:Z8l s=some c):ZHh a=true∧Z9g a=c.so∧isR b=true∧Z5V b=c.em∧ZDh c=true∧ZCJ c=s:=by
 obtain⟨h1,h2⟩:=Z9s.mp h
 have e:=ZBb c
 rw[h2,hw]at e
 simp only[List.cons.injEq,and_true]at e
 obtain⟨a1,a2,a3⟩:=ZBv h1
 rw[←e.1]at a1
 rw[←e.2]at a2 a3
 refine⟨?_,?_,a3,a2,h1.1,h2⟩
 ·unfold ZHh;rw[a1];rfl
 ·unfold Z9g;rw[a1];rfl
theorem ZJD {s a b:List UInt8} (hw:Z6L 33 s=[a,b]):(bif ZHh a&&(isR b&&ZDh ⟨Z9g a,Z5V b⟩)then CkR ⟨Z9g a,Z5V b⟩ true else CkR ckZ false)=pCk s:=by
 have hj:=ZCM 33 s
 rw[hw]at hj
 cases hp:Z8l s with
 |some c=>
  obtain⟨q1,q2,q3,q4,q5,_⟩:=ZIr hw hp
  rw[ZFo hp,q1,q2,q3,q4]
  show(bif true&&(true&&ZDh c)then CkR c true else CkR ckZ false)=_
  rw[q5];rfl
 |none=>
  rw[ZFK hp]
  have hn:=Z9t.mp hp
  cases h1:ZHh a with
  |false=>rfl
  |true=>
   cases h2:isR b with
   |false=>rfl
   |true=>
    by_cases h3:ZDh ⟨Z9g a,Z5V b⟩=true
    ·unfold ZHh at h1
     cases hx:Z97 a with
     |none=>rw[hx]at h1;cases h1
     |some x=>
      obtain⟨x1,x2⟩:=Z90.mp hx
      have hg:Z9g a=x:=by unfold Z9g;rw[hx];rfl
      rw[hg]at h3
      refine absurd ?_ (hn ⟨x,Z5V b⟩ ⟨h3,x1.2⟩)
      rw[ZBa]
      show ZAV x++[33]++Z6c (Z5V b)=s
      rw[x2,(ZHH h2).2]
      simpa[Z7Q]using hj
    ·rw[(Bool.not_eq_true _).mp h3];rfl
theorem ZJE {s a b:List UInt8} (hs:s.length≤2097152) (hw:Z6L 33 s=[a,b]):(bif !decide (Z9z ⟨Z9g a,Z5V b⟩=s)then CkR ckZ false else CkR ⟨Z9g a,Z5V b⟩ true)=pCk s:=by
 have ha:a.length≤2097152:=Nat.le_trans (Z76 (show a∈Z6L 33 s by rw[hw];simp)) hs
 cases hp:Z8l s with
 |some c=>
  obtain⟨q1,q2,q3,q4,q5,q6⟩:=ZIr hw hp
  rw[ZFo hp,q2,q4]
  have:Z9z c=s:=by unfold Z9z;rw[if_pos q5];exact q6
  show(bif !decide (Z9z c=s)then CkR ckZ false else CkR c true)=_
  rw[this];simp
 |none=>
  rw[ZFK hp]
  have hn:=Z9t.mp hp
  have:¬Z9z ⟨Z9g a,Z5V b⟩=s:=fun e=>by
   unfold Z9z at e
   by_cases hv:ZDh ⟨Z9g a,Z5V b⟩=true
   ·rw[if_pos hv]at e
    exact hn _ ⟨hv,(ZFJ a ha).2.2⟩ e
   ·rw[if_neg hv]at e
    rw[←e]at hw
    simp[Z6L,Z9M]at hw
  rw[decide_eq_false this]
  rfl
theorem ZFp (s:List UInt8) (hs:s.length≤2097152):callI tE Z6v [.str (S s)]=some (pCk s):=by
 have hc:=Z9N 33 s
 have hsub:∀x∈Z6L 33 s,x.length≤2097152:=fun x hx=>Nat.le_trans (Z76 hx) hs
 rw[ZAT,show((33:Int))=(((33:UInt8).toNat:Nat):Int)from rfl,ZIS 33 s (by omega)]
 simp only[gA]
 rw[show eqI (lenI ((Z6L 33 s).map StE)) 2=decide ((Z6L 33 s).length=2)from ZCy StE _ 2]
 by_cases h2:(Z6L 33 s).length=2
 ·rw[decide_eq_true h2,Bool.not_true,cond_false]
  obtain⟨a,b,hw⟩:=ZIV h2
  have hi:=ZJD hw
  rw[hw]at hsub⊢
  have i0:inR 0 (lenI ([a,b].map StE))=true:=rfl
  have i1:inR 1 (lenI ([a,b].map StE))=true:=rfl
  have g0:at' ([a,b].map StE) (tn 0)=[.str (S a)]:=rfl
  have g1:at' ([a,b].map StE) (tn 1)=[.str (S b)]:=rfl
  have ha:=hsub a (by simp)
  have hb:=hsub b (by simp)
  obtain⟨z1,z2,z3⟩:=ZFJ a ha
  have z4:=Z7K b
  have v:=ZE4 ⟨Z9g a,Z5V b⟩ (by show(Z9g a).sz+(Z5V b).length≤1073741800;omega)
  simp only at v
  simp only[i0,i1,g0,g1,cond_true,gA,ZHJ a ha,ZHi,SoR,ZBl b (by omega),ZDk,v]
  rw[←hi]
  cases ZHh a
  ·rfl
  ·cases isR b
   ·rfl
   ·cases ZDh ⟨Z9g a,Z5V b⟩<;>rfl
 ·rw[decide_eq_false h2,ZHj h2];rfl
theorem ZHM (s:List UInt8) (hs:s.length≤2097152):callI tE Z7W [.str (S s)]=some (pCk s):=by
 have hc:=Z9N 33 s
 have hsub:∀x∈Z6L 33 s,x.length≤2097152:=fun x hx=>Nat.le_trans (Z76 hx) hs
 rw[ZAU,show((33:Int))=(((33:UInt8).toNat:Nat):Int)from rfl,ZIT 33 s (by omega)]
 simp only[gA]
 rw[show eqI (lenI ((Z6L 33 s).map StE)) 2=decide ((Z6L 33 s).length=2)from ZCy StE _ 2]
 by_cases h2:(Z6L 33 s).length=2
 ·rw[decide_eq_true h2,Bool.not_true,cond_false]
  obtain⟨a,b,hw⟩:=ZIV h2
  have hi:=ZJE hs hw
  rw[hw]at hsub⊢
  have i0:inR 0 (lenI ([a,b].map StE))=true:=rfl
  have i1:inR 1 (lenI ([a,b].map StE))=true:=rfl
  have g0:at' ([a,b].map StE) (tn 0)=[.str (S a)]:=rfl
  have g1:at' ([a,b].map StE) (tn 1)=[.str (S b)]:=rfl
  have ha:=hsub a (by simp)
  have hb:=hsub b (by simp)
  obtain⟨z1,z2,z3⟩:=ZFJ a ha
  have z4:=Z7K b
  have v:=ZEp ⟨Z9g a,Z5V b⟩ (by show(Z9g a).sz+(Z5V b).length≤1073741800;omega) z2
  simp only at v
  simp only[i0,i1,g0,g1,cond_true,gA,ZHK a ha,ZHi,SoR,ZBm b (show b.length<1073741824 by omega),ZDk,v,ZBh]
  rw[←hi]
  cases decide (Z9z ⟨Z9g a,Z5V b⟩=s)<;>rfl
 ·rw[decide_eq_false h2,ZHj h2];rfl
def So.zero:So:=⟨[],0,[],[],[],[],0,0,0,0⟩
def Jn.zero:Jn:=⟨[],0,0⟩
def Ag.zero:Ag:=⟨[],0,false⟩
def Tk.zero:Tk:=⟨0,[],[],[],0⟩
def Opr.zero:Opr:=⟨0,So.zero,Jn.zero,Ag.zero⟩
def ZIE (l:List Rw):So×Bool:=if aok l then(⟨l,0,[],[],[],[],0,0,1,0⟩,true)else(So.zero,false)
def SoB (x:So×Bool):List Dat:=x.1.e++[.bool x.2]
theorem ZIs (l:List Rw) (hl:l.length≤1073741824):callI tE Z91 [.sl (l.map Rw.e)]=some (SoB (ZIE l)):=by
 rw[ZCG,Z8x l (by omega)]
 simp only[gA]
 unfold ZIE
 cases h:aok l
 ·rfl
 ·rw[Z5o,show fitM (0+l.length) 24=true from Z9X (by omega)];rfl
theorem ZFq:∀{l:List (List Rw)},szL List.length l=l.length+l.flatten.length
 |[]=>rfl
 |a::l=>by
  have:=ZFq (l:=l)
  simp only[szL,List.length_cons,List.flatten_cons,List.length_append];omega
theorem ZEE {s:So} (hv:Z9T s=true):s.sz≤200∧s.runs.length≤24:=by
 obtain⟨o1,⟨o2,o2'⟩,o3,o4,o5,o6,o7⟩:=Z9I hv
 obtain⟨r1,r2,r3⟩:=ZDB hv
 have a1:=Z8Q o1
 have a2:=Z8Q r1
 have a3:=Z8Q r2
 have a4:=Z8Q r3
 have hr:=ZFE o3
 have hs:=ZFq (l:=s.runs)
 have hf:s.runs.flatten.length≤24:=by
  by_cases h1:s.ph=1
  ·have:=(Z9q o7 h1).2.2.2.2.length_eq
   simp only[List.length_append,List.length_take]at this
   omega
  ·have:=(Z9P o7 h1).2.2.2.1.length_eq
   omega
 simp only[So.sz]
 exact⟨by omega,by omega⟩
theorem ZGr {s:So} (hv:Z9T s=true):s.B2:=by have:=(ZEE hv).1;show s.sz≤1073741800;omega
theorem ZHN (s:So):(rest s).length≤s.inp.length:=by
 unfold rest
 have:=(Z7V s.inp).length_eq
 split
 ·simp;omega
 ·split
  ·simp
  ·omega
def ZDT (l:List Rw):So:=⟨l,0,[],[],[],[],0,0,1,0⟩
theorem ZHO {l:List Rw} (h:aok l=true):Z9T (ZDT l)=true∧rest (ZDT l)=ZAN l∧(ZDT l).wr=0:=
 ⟨Z96 h ⟨by simp[ZDT],by simp[ZDT]⟩ (fun r hr=>by cases hr) (by simp[ZDT]) .nil (fun r hr=>by cases hr) (ZAC rfl rfl rfl (.inr rfl) (by simp[ZC2,ZDT,Z83]) (by simp[ZDT])),rfl,rfl⟩
theorem ZHP (l:List Rw):ZIE l=if aok l then(ZDT l,true)else(So.zero,false):=rfl
theorem ZIF {r:List UInt8} (h:ZGq r=true):Z8l r=some (Z9Q r)∧CkP (Z9Q r):=by
 unfold ZGq Z9Q at*
 cases hp:Z8l r with
 |none=>rw[hp]at h;cases h
 |some c=>exact⟨rfl,(Z9s.mp hp).1⟩
theorem ZFr {s:So} (hv:Z9T s=true) (hw:s.wr≤1000000000000):s.nb:=by
 obtain⟨o1,⟨o2,o2'⟩,o3,o4,o5,o6,o7⟩:=Z9I hv
 have a1:=Z8Q o1
 have hsz:=ZEE hv
 have key:(0≤s.lp∧s.lp≤1000)∧(0≤s.rp∧s.rp≤1000)∧(0≤s.ph∧s.ph≤4):=by
  by_cases h1:s.ph=1
  ·obtain⟨q1,q2,_⟩:=Z9q o7 h1
   omega
  ·obtain⟨q1,_,_,q4,q5⟩:=Z9P o7 h1
   rcases ZAj q5 with p|p|p
   ·obtain⟨a,b,r,e,h2,h3,_⟩:=ZBY q5 p
    have hs:=hsz.1
    simp only[So.sz,e,szL]at hs
    omega
   ·obtain⟨h2,h3,h4,h5⟩:=ZBZ q5 p
    omega
   ·obtain⟨h2,h3,h4,h5⟩:=ZE7 q5 p
    omega
 obtain⟨k1,k2,k3⟩:=key
 exact⟨⟨by omega,by omega⟩,⟨by omega,by omega⟩,⟨by omega,by omega⟩,⟨by omega,by omega⟩,⟨by omega,by omega⟩⟩
theorem ZEq {c:Ck} (hw:c.so.wr≤1000000000000):(Z9z c).length≤1000000:=by
 unfold Z9z
 split
 ·rename_i h
  have hv:=(ZDH h).1
  obtain⟨b1,b2,b3,b4,b5⟩:=ZFr hv hw
  have hsz:=ZEE hv
  have hs:=hsz.1
  simp only[So.sz]at hs
  have a1:=Z6I b1
  have a2:=Z6I b2
  have a3:=Z6I b3
  have a4:=Z6I b4
  have a5:=Z6I b5
  have l1:=Z69 c.so.inp
  have l2:=Z69 c.so.heap
  have l3:=Z69 c.so.dfd
  have l4:=Z69 c.so.out
  have l5:=Z9d c.so.runs
  have l6:=Z69 c.em
  rw[ZBa,ZE8]
  simp only[List.length_append,List.length_cons,List.length_nil]
  omega
 ·simp
theorem ZJF {s:So} {acc:List Rw} (hv:Z9T s=true) (hl:acc.length≤1000000):(⟨s,acc⟩:Ck).B2:=by
 have:=(ZEE hv).1
 show s.sz+acc.length≤1073741800
 omega
theorem ZHQ {l:List Rw} (h:∀r∈l,r.ok=true) (hl:l.length≤24):aok l=true:=ZEu.mpr ⟨hl,h⟩
theorem ZHR {s:So} {g:Int} (hv:Z9T s=true) (hw:s.wr≤1000000000):∃(s':So) (em:List Rw) (b:Bool),ZEB s g=(s',em,b)∧Z9T s'=true∧s'.wr≤s.wr+4∧em.length≤24∧s'.inp=s.inp:=by
 cases hb:ZGh s g with
 |false=>exact⟨s,[],false,by unfold ZEB;rw[hb];rfl,hv,by omega,by simp,rfl⟩
 |true=>
  obtain⟨h1,h2⟩:=ZIC hb (by omega)
  generalize hst:ZEB s g=r at*
  obtain⟨s',em,b⟩:=r
  simp only at h1 h2
  refine⟨s',em,b,rfl,h1.ok,h1.wr.2,?_,h1.inp⟩
  have:=congrArg List.length h1.rest
  have r1:=ZHN s
  have r2:=Z8Q (Z9I hv).1
  simp only[List.length_append]at this
  omega
theorem ZGs {b:Rows} {x0 x1 x2:Int} {y7 y8 y9 y10 y11:Int} {z1 z2 z3 z4 z5 z6:Rows}:∀(n:Nat) (i h:Int) (s:So) (acc:List Rw),Cu b i→Z9T s=true→s.wr+4*(n:Int)≤1000000→acc.length+24*n≤1000000→
  ∃(c:Ck) (i' h':Int),Z7r x0 x1 x2 (n:Int) b i h y7 y8 y9 y10 y11 s.pos s.lp s.rp s.ph s.wr z1 z2 z3 z4 z5 z6 (s.inp.map Rw.e) (s.heap.map Rw.e) (s.dfd.map Rw.e) (s.out.map Rw.e) (s.runs.map rsE) (acc.map Rw.e)=some (c.so.e++[.sl (c.em.map Rw.e),.sl b,.int i',.int h'])∧Cu b i'∧Z9T c.so=true∧c.so.wr≤1000000∧c.em.length≤1000000
 |0,i,h,s,acc,c,hv,hw,ha=>by
  obtain⟨t,i1,h1,e1,c1⟩:=ZIO (h:=h) 8 c
  obtain⟨l,i2,h2,e2,c2,_,hl⟩:=ZIQ (h:=h1) 3 c1 (by omega) (by omega)
  rw[Z99,ltF (by omega),cond_false,e1]
  simp only[gA,e2]
  cases t with
  |false=>exact⟨⟨s,acc⟩,_,_,rfl,c1,hv,(show s.wr≤1000000 by omega),(show acc.length≤1000000 by omega)⟩
  |true=>exact⟨⟨s,l⟩,_,_,rfl,c2,hv,(show s.wr≤1000000 by omega),(show l.length≤1000000 by omega)⟩
 |n+1,i,h,s,acc,c,hv,hw,ha=>by
  obtain⟨s',em,bb,e1,e2,e3,e4,_⟩:=ZHR (g:=8) hv (by omega)
  have hs:=ZI9 s 8 (ZGr hv)
  rw[e1]at hs
  obtain⟨c',i',h',ih,q⟩:=ZGs (x0:=x0) (x1:=x1) (x2:=x2) (y7:=y7) (y8:=y8) (y9:=y9) (y10:=y10) (y11:=y11) (z1:=z1) (z2:=z2) (z3:=z3) (z4:=z4) (z5:=z5) (z6:=z6) n i h s' (acc++em) c e2 (by omega) (by simp only[List.length_append];omega)
  refine⟨c',i',h',?_,q⟩
  rw[Z99,ltT (by omega),cond_true,hs]
  simp only[StR,gA,Z5o]
  rw[Z9X (by omega),cond_true,show w64 (((n+1:Nat):Int)-1)=(n:Int)by rw[Z5a ⟨by omega,by omega⟩];omega,ZAo,ih]
theorem ZHk {b:Rows} {i h:Int} (c:Cu b i):∃(k:Ck) (i' h':Int),callI tE Z7j [.sl b,.int i,.int h]=some (k.so.e++[.sl (k.em.map Rw.e),.sl b,.int i',.int h'])∧Cu b i'∧Z9T k.so=true∧k.so.wr≤1000000∧k.em.length≤1000000:=by
 obtain⟨l,i1,h1,e1,c1,ok,hl⟩:=ZIQ (h:=h) 6 c (by omega) (by omega)
 obtain⟨n,i2,h2,e2,c2,p1,p2,_⟩:=ZAd (h:=h1) 60 c1
 have:=p2 (by omega)
 have ha:=ZHQ ok (by omega)
 obtain⟨m,rfl⟩:∃m:Nat,n=m:=⟨n.toNat,by omega⟩
 obtain⟨n1,n2,n3⟩:=ZHO ha
 obtain⟨k,i3,h3,e3,c3,q⟩:=ZGs (x0:=0) (x1:=0) (x2:=0) (y7:=0) (y8:=0) (y9:=0) (y10:=0) (y11:=0) (z1:=[]) (z2:=[]) (z3:=[]) (z4:=[]) (z5:=[]) (z6:=[]) m i2 h2 (ZDT l) [] c2 n1 (by omega) (by simp;omega)
 refine⟨k,i3,h3,?_,c3,q⟩
 rw[ZCU,e1]
 simp only[gA,ZIs l (by omega),ZHP,ha,if_true,SoB,So.e,List.cons_append,List.nil_append,e2]
 rw[List.map_nil]at e3
 simpa only[So.e,List.cons_append,List.nil_append]using e3
theorem ZG6 (x:Rows) (hx:x.length≤1048576):∃c:Ck,callI tE Z6u [.sl x]=some (c.so.e++[.sl (c.em.map Rw.e)])∧Z9T c.so=true∧c.so.wr≤1000000∧c.em.length≤1000000:=by
 obtain⟨h0,e0,c0⟩:=ZJJ x hx
 obtain⟨c,i1,h1,e1,c1,q⟩:=ZHk (h:=h0) c0
 refine⟨c,?_,q⟩
 rw[Z9W,e0]
 simp only[gA,e1,So.e,List.cons_append,List.nil_append]
theorem ZEr (x:Rows) (hx:x.length≤1048576):∃s:List UInt8,callI tE Z6x [.sl x]=some [.str (S s)]∧s.length≤2000100:=by
 obtain⟨h0,e0,c0⟩:=ZJJ x hx
 obtain⟨c,i1,h1,e1,c1,hv,hw,hl⟩:=ZHk (h:=h0) c0
 have hF:=ZEp c (ZJF (s:=c.so) (acc:=c.em) hv hl) (ZFr hv (by omega))
 have hT:=ZEq (c:=c) (by omega)
 obtain⟨t,i2,h2,e2,c2⟩:=ZIO (h:=h1) 3 c1
 obtain⟨w,i3,h3,e3,c3,hw2⟩:=ZIX (h:=h2) (Z9z c) c2 (by omega)
 rw[Z9h,e0]
 simp only[gA,e1,So.e,List.cons_append,List.nil_append,hF,e2,e3]
 cases t with
 |false=>exact⟨Z9z c,rfl,by omega⟩
 |true=>exact⟨w,rfl,by omega⟩
theorem ZGt (l l':List (List Rw)) (h:szL List.length l≤1073741824):callI tE Z7b [.sl (l.map rsE),.sl (l'.map rsE)]=some [.bool (decide (l=l'))]:=by
 have hsl:=Z7l List.length l
 rw[ZBV]
 by_cases hll:l.length=l'.length
 ·rw[ZDX hll,Bool.not_true,cond_false]
  have:=ZBg (L:=fun x y i=>Z7G x y i) (e:=rsE) (P:=fun a=>a.length≤1073741824) (fun p q p' q' a b ha hpl hlt=>by
   rw[Z8V]
   simp only[ZEN,ZDW,Z8q,ZCf,cond_true,cond_false,gA,ZCh hpl,ZCi hpl,rsE,ZBw a b (by omega),ZG7]) (fun p p' hpl=>by
   rw[Z8V,ZEO,cond_false]) l l' [] [] rfl hll (fun a ha=>Nat.le_trans (Z8W ha) h) (by simp;omega)
  simpa using this
 ·rw[ZDY hll,Bool.not_false,cond_true,decide_eq_false (fun e=>hll (by rw[e]))]
theorem ZJG (s:So) (h:s.B2):callI tE Z8A [.sl (s.inp.map Rw.e),.int s.pos,.sl (s.heap.map Rw.e),.sl (s.dfd.map Rw.e),.sl (s.out.map Rw.e),.sl (s.runs.map rsE),.int s.lp,.int s.rp,.int s.ph,.int s.wr,.sl (s.inp.map Rw.e),.int s.pos,.sl (s.heap.map Rw.e),.sl (s.dfd.map Rw.e),.sl (s.out.map Rw.e),.sl (s.runs.map rsE),.int s.lp,.int s.rp,.int s.ph,.int s.wr]=some [.bool true]:=by
 obtain⟨b1,b2,b3,b4,b5,b6⟩:=ZFm h
 rw[ZBB]
 simp only[ZBw s.inp s.inp (by omega),ZBw s.heap s.heap (by omega),ZBw s.dfd s.dfd (by omega),ZBw s.out s.out (by omega),ZGt s.runs s.runs (by omega),gA,decide_true,ZGv,cond_true]
theorem ZHS (c:Ck):ZCJ c≠[]:=by rw[ZBa];simp
theorem ZIG {c:Ck} (hw:c.so.wr<1000000000):ZGq (Z9z c)=ZDh c∧(ZDh c=true→Z9Q (Z9z c)=c):=by
 unfold Z9z
 cases hc:ZDh c with
 |false=>
  refine⟨?_,fun h=>by cases h⟩
  have hn:Z8l []=none:=Z9t.mpr fun x _=>ZHS x
  rw[if_neg (by simp)]
  unfold ZGq
  rw[hn];rfl
 |true=>
  have hp:Z8l (ZCJ c)=some c:=Z9s.mpr ⟨⟨hc,hw⟩,rfl⟩
  rw[if_pos rfl]
  unfold ZGq Z9Q
  rw[hp]
  exact⟨rfl,fun _=>rfl⟩
theorem ZIt {s:List UInt8} (h:ZGq s=true):Z9z (Z9Q s)=s∧CkP (Z9Q s):=by
 obtain⟨h1,h2⟩:=ZIF h
 refine⟨?_,h2⟩
 unfold Z9z
 rw[if_pos h2.1]
 exact(Z9s.mp h1).2
set_option maxRecDepth 100000
theorem Z9R (a0:Rows):callI tE Z7c [.sl a0]=(((callI tE ZDU [(.sl a0)])).bind (fun r0=>(bif(gb r0)then(some [(.bool Bool.true)])else(((callI tE Z6u [(.sl a0)])).bind (fun r1=>(((callI tE Z5y [(.sl (gl r1)),(.int (gn (tk 1 r1))),(.sl (gl (tk 2 r1))),(.sl (gl (tk 3 r1))),(.sl (gl (tk 4 r1))),(.sl (gl (tk 5 r1))),(.int (gn (tk 6 r1))),(.int (gn (tk 7 r1))),(.int (gn (tk 8 r1))),(.int (gn (tk 9 r1))),(.sl (gl (tk 10 r1)))])).bind (fun r2=>(((callI tE Z6v [(.str (gs r2))])).bind (fun r3=>(((callI tE Z6x [(.sl a0)])).bind (fun r4=>(((callI tE Z6v [(.str (gs r4))])).bind (fun r5=>(((callI tE Z7W [(.str (gs r4))])).bind (fun r6=>(((callI tE Z6a [(.sl (gl r1)),(.int (gn (tk 1 r1))),(.sl (gl (tk 2 r1))),(.sl (gl (tk 3 r1))),(.sl (gl (tk 4 r1))),(.sl (gl (tk 5 r1))),(.int (gn (tk 6 r1))),(.int (gn (tk 7 r1))),(.int (gn (tk 8 r1))),(.int (gn (tk 9 r1))),(.sl (gl (tk 10 r1)))])).bind (fun r7=>(bif(eqBo (gb (tk 11 r3)) (gb r7))then(((callI tE Z6C [(.sl (gl r1)),(.int (gn (tk 1 r1))),(.sl (gl (tk 2 r1))),(.sl (gl (tk 3 r1))),(.sl (gl (tk 4 r1))),(.sl (gl (tk 5 r1))),(.int (gn (tk 6 r1))),(.int (gn (tk 7 r1))),(.int (gn (tk 8 r1))),(.int (gn (tk 9 r1))),(.sl (gl (tk 10 r1)))])).bind (fun r8=>(bif(eqBo (gb (tk 11 r3)) (gb r8))then(bif(!(gb (tk 11 r3)))then(bif(eqBo (gb (tk 11 r5)) (gb (tk 11 r6)))then(bif(!(gb (tk 11 r5)))then(some [(.bool Bool.true)])else(((callI tE Z5y [(.sl (gl r5)),(.int (gn (tk 1 r5))),(.sl (gl (tk 2 r5))),(.sl (gl (tk 3 r5))),(.sl (gl (tk 4 r5))),(.sl (gl (tk 5 r5))),(.int (gn (tk 6 r5))),(.int (gn (tk 7 r5))),(.int (gn (tk 8 r5))),(.int (gn (tk 9 r5))),(.sl (gl (tk 10 r5)))])).bind (fun r9=>(some [(.bool (eqS (gs r9) (gs r4)))]))))else(some [(.bool Bool.false)]))else(((callI tE Z8A [(.sl (gl r3)),(.int (gn (tk 1 r3))),(.sl (gl (tk 2 r3))),(.sl (gl (tk 3 r3))),(.sl (gl (tk 4 r3))),(.sl (gl (tk 5 r3))),(.int (gn (tk 6 r3))),(.int (gn (tk 7 r3))),(.int (gn (tk 8 r3))),(.int (gn (tk 9 r3))),(.sl (gl r1)),(.int (gn (tk 1 r1))),(.sl (gl (tk 2 r1))),(.sl (gl (tk 3 r1))),(.sl (gl (tk 4 r1))),(.sl (gl (tk 5 r1))),(.int (gn (tk 6 r1))),(.int (gn (tk 7 r1))),(.int (gn (tk 8 r1))),(.int (gn (tk 9 r1)))])).bind (fun r9=>(bif(gb r9)then(((callI tE Z8M [(.sl (gl (tk 10 r3))),(.sl (gl (tk 10 r1)))])).bind (fun r10=>(bif(gb r10)then(bif(eqBo (gb (tk 11 r5)) (gb (tk 11 r6)))then(bif(!(gb (tk 11 r5)))then(some [(.bool Bool.true)])else(((callI tE Z5y [(.sl (gl r5)),(.int (gn (tk 1 r5))),(.sl (gl (tk 2 r5))),(.sl (gl (tk 3 r5))),(.sl (gl (tk 4 r5))),(.sl (gl (tk 5 r5))),(.int (gn (tk 6 r5))),(.int (gn (tk 7 r5))),(.int (gn (tk 8 r5))),(.int (gn (tk 9 r5))),(.sl (gl (tk 10 r5)))])).bind (fun r11=>(some [(.bool (eqS (gs r11) (gs r4)))]))))else(some [(.bool Bool.false)]))else(some [(.bool Bool.false)]))))else(some [(.bool Bool.false)])))))else(some [(.bool Bool.false)]))))else(some [(.bool Bool.false)]))))))))))))))))))):=(callI_run rfl (by kernel_rfl)).trans (by kernel_rfl)
set_option maxRecDepth 10000
theorem pure_FnCheckpointRoundTrip:∀ds,OkDs tE [.sl 5] ds→callI tE Z7c ds=some [.bool true]:=by
 intro ds h0
 obtain⟨_,_,rfl,i0,h1⟩:=h0.inv
 obtain⟨l0,rfl⟩:=ZHp i0
 obtain rfl:=h1.nil_inv
 rw[Z9R,ZFs]
 simp only[gA]
 by_cases hs:l0.length≤1048576
 ·rw[ltF (show lenI l0≤1048576 by show(l0.length:Int)≤1048576;omega),cond_false]
  obtain⟨c,e1,hv,hw,hl⟩:=ZG6 l0 hs
  obtain⟨s,e2,hs2⟩:=ZEr l0 hs
  have hB:=ZJF (s:=c.so) (acc:=c.em) hv hl
  have f1:=ZEo c hB (ZFr hv (by omega))
  have hT:=ZEq (c:=c) (by omega)
  have f2:=ZFp (Z9z c) (by omega)
  have f3:=ZFp s (by omega)
  have f4:=ZHM s (by omega)
  have f5:=ZFj c hB
  have f6:=ZE4 c hB
  have f7:=ZJG c.so (ZGr hv)
  have f8:=ZEz c.em c.em (by omega)
  obtain⟨k1,k2⟩:=ZIG (c:=c) (by omega)
  have tail:(bif !(ZGq s)then some [Dat.bool true]else((callI tE Z5y [.sl ((Z9Q s).so.inp.map Rw.e),.int (Z9Q s).so.pos,.sl ((Z9Q s).so.heap.map Rw.e),.sl ((Z9Q s).so.dfd.map Rw.e),.sl ((Z9Q s).so.out.map Rw.e),.sl ((Z9Q s).so.runs.map rsE),.int (Z9Q s).so.lp,.int (Z9Q s).so.rp,.int (Z9Q s).so.ph,.int (Z9Q s).so.wr,.sl ((Z9Q s).em.map Rw.e)]).bind fun r=>some [.bool (eqS (gs r) (S s))]))=some [.bool true]:=by
   cases hc:ZGq s with
   |false=>rfl
   |true=>
    obtain⟨t1,t2,t3⟩:=ZIt hc
    have hel:=Z8Q (ZDH t2).2.1
    have f9:=ZEo (Z9Q s) (ZJF (s:=(Z9Q s).so) (acc:=(Z9Q s).em) (ZDH t2).1 (by omega)) (ZFr (ZDH t2).1 (by omega))
    rw[Bool.not_true,cond_false,f9,t1]
    simp only[gA,ZGx]
  simp only[e1,So.e,List.cons_append,List.nil_append,gA,f1,f2,e2,f3,f4,f5,f6]
  unfold pCk
  cases hc:ZDh c with
  |false=>
   rw[hc]at k1
   simp only[CkR,gA,k1,ZEM,Bool.not_false,cond_true]
   exact tail
  |true=>
   rw[hc]at k1
   have k3:=k2 hc
   simp only[CkR,gA,k1,k3,ZEM,Bool.not_true,cond_true,cond_false,f7,f8,decide_true]
   exact tail
 ·rw[ltT (show 1048576<lenI l0 by show(1048576:Int)<(l0.length:Int);omega)]
  rfl
end Go.Proofs.YtnihikajdbcoaaaGreat.Vai
