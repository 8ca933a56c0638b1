/- What the law of this claim leans on; no condition. -/
import Derived.Test.YtceoogjanfbdcaaGreatPkFnExactResumeSort1
namespace Go.Proofs.YtceoogjanfbdcaaGreat.Vai
open Go
set_option linter.unusedSimpArgs false
set_option linter.unusedVariables false
set_option linter.unnecessarySimpa false
set_option maxRecDepth 10000
theorem ZBA:∀(n m:Nat) (a b:List Rw),a.length+b.length≤n→a.length+b.length≤m→ZJz n a b=ZJz m a b
 |0,0,_,_,_,_=>rfl
 |0,m+1,a,b,h,_=>by
  have h1:a=[]:=List.length_eq_zero_iff.mp (by omega)
  have h2:b=[]:=List.length_eq_zero_iff.mp (by omega)
  subst h1;subst h2;rfl
 |n+1,0,a,b,_,h=>by
  have h1:a=[]:=List.length_eq_zero_iff.mp (by omega)
  have h2:b=[]:=List.length_eq_zero_iff.mp (by omega)
  subst h1;subst h2;rfl
 |n+1,m+1,[],b,_,_=>rfl
 |n+1,m+1,x::a,[],_,_=>rfl
 |n+1,m+1,x::a,y::b,h,h2=>by
  simp only[List.length_cons]at h h2
  simp only[ZJz]
  rw[ZBA n m a (y::b) (by simp;omega) (by simp;omega),ZBA n m (x::a) b (by simp;omega) (by simp;omega)]
theorem Z9W (b:List Rw):mrg [] b=b:=by
 cases b<;>rfl
theorem ZAI (a:List Rw):mrg a []=a:=by
 cases a<;>rfl
theorem ZET (x y:Rw) (a b:List Rw):mrg (x::a) (y::b)=if Rw.le x y then x::mrg a (y::b)else y::mrg (x::a) b:=by
 unfold mrg
 rw[show(x::a).length+(y::b).length=(a.length+b.length+1)+1 by simp;omega]
 simp only[ZJz]
 rw[ZBA _ (a.length+(y::b).length) a (y::b) (by simp;omega) (by simp),ZBA _ ((x::a).length+b.length) (x::a) b (by simp;omega) (by simp)]
theorem ZGY:∀(n:Nat) (a b:List Rw),a.length+b.length=n→(mrg a b).length=n
 |_,[],b,h=>by rw[Z9W];simpa using h
 |_,x::a,[],h=>by rw[ZAI];simpa using h
 |0,x::a,y::b,h=>by simp at h
 |n+1,x::a,y::b,h=>by
  simp only[List.length_cons]at h
  rw[ZET]
  split
  ·rw[List.length_cons,ZGY n a (y::b) (by simp;omega)]
  ·rw[List.length_cons,ZGY n (x::a) b (by simp;omega)]
theorem Z8s (a b:List Rw):(mrg a b).length=a.length+b.length:=ZGY _ a b rfl
theorem ZD7 (r:Rw) (p:List Rw):ltI 0 (lenI ((r::p).map Rw.e))=true:=by rw[Z5L];exact ltT (by(first|omega|(simp only[List.length_append,List.length_cons,List.length_nil,List.length_map,List.length_take,List.length_drop,List.length_replicate,Z6C]at* <;>omega)))
theorem ZBb:∀(n:Nat) (a b acc:List Rw),a.length+b.length=n→acc.length+n≤2147483648→Z5c (a.map Rw.e) (b.map Rw.e) (acc.map Rw.e)=some [.sl ((acc++mrg a b).map Rw.e)]
 |0,a,b,acc,h,_=>by
  have h1:a=[]:=List.length_eq_zero_iff.mp (by omega)
  have h2:b=[]:=List.length_eq_zero_iff.mp (by omega)
  subst h1;subst h2
  rw[Z6n]
  rw[Z9W,List.append_nil];rfl
 |n+1,[],y::b,acc,h,hl=>by
  have ih:=ZBb n [] b (acc++[y]) (by simp at h⊢;omega) (by simp;omega)
  have f1:fitM (Nat.succ (len (acc.map Rw.e))) 24=true:=by rw[Z5h];exact Z8v (by omega)
  have a1:([[Dat.int y.k,.int y.v,.int y.w]]:Rows)=[y.e]:=rfl
  have z1:lenI (([]:List Rw).map Rw.e)=0:=rfl
  have le01:leI 0 1=true:=rfl
  rw[Z6n,z1,ltF (show(0:Int)≤0 by omega)]
  simp only[cond_false,cond_true,ZD7,ZKO,ZKN,ZD6,gk,gv,gw,f1,ZL8,le01,Bool.and_self,ZFa,a1,ZCs]
  rw[ih,Z9W,Z9W]
  simp
 |n+1,x::a,[],acc,h,hl=>by
  have ih:=ZBb n a [] (acc++[x]) (by simp at h⊢;omega) (by simp;omega)
  have f1:fitM (Nat.succ (len (acc.map Rw.e))) 24=true:=by rw[Z5h];exact Z8v (by omega)
  have a1:([[Dat.int x.k,.int x.v,.int x.w]]:Rows)=[x.e]:=rfl
  have z1:lenI (([]:List Rw).map Rw.e)=0:=rfl
  have le01:leI 0 1=true:=rfl
  rw[Z6n,z1,eqT (show(0:Int)=0 by omega)]
  simp only[cond_false,cond_true,ZD7,ZKO,ZKN,ZD6,gk,gv,gw,f1,ZL8,le01,Bool.and_self,ZFa,a1,ZCs]
  rw[ih,ZAI,ZAI]
  simp
 |n+1,x::a,y::b,acc,h,hl=>by
  have f1:fitM (Nat.succ (len (acc.map Rw.e))) 24=true:=by rw[Z5h];exact Z8v (by omega)
  have a1:([[Dat.int x.k,.int x.v,.int x.w]]:Rows)=[x.e]:=rfl
  have a2:([[Dat.int y.k,.int y.v,.int y.w]]:Rows)=[y.e]:=rfl
  have le01:leI 0 1=true:=rfl
  rw[Z6n]
  simp only[cond_false,cond_true,ZD7,ZKO,ZKN,ZD6,gk,gv,gw,f1,ZL8,le01,Bool.and_self,ZFa,a1,a2,ZCs,ZBo,gA,ZFU]
  rw[ZET]
  by_cases hxy:Rw.le x y
  ·rw[decide_eq_true hxy,if_pos hxy,cond_true,ZBb n a (y::b) (acc++[x]) (by simp at h⊢;omega) (by simp;omega)]
   simp
  ·rw[decide_eq_false hxy,if_neg hxy,cond_false,ZBb n (x::a) b (acc++[y]) (by simp at h⊢;omega) (by simp;omega)]
   simp
theorem ZLL (a b:List Rw) (h:a.length+b.length≤2147483648):callI tE Z75 [.sl (a.map Rw.e),.sl (b.map Rw.e)]=some [.sl ((mrg a b).map Rw.e)]:=by
 rw[ZCO]
 have:=ZBb _ a b [] rfl (by simpa using h)
 simpa using this
theorem ZBc (A B:List Rw) (hA:A.length+B.length≤2147483648):∀(n:Nat) (a b ua ub acc:List Rw),A=ua++a→B=ub++b→a.length+b.length=n→acc.length+n≤2147483648→
  Z5d (A.map Rw.e) (B.map Rw.e) (ua.length:Nat) (ub.length:Nat) (acc.map Rw.e)=some [.sl ((acc++mrg a b).map Rw.e)]
 |0,a,b,ua,ub,acc,ha,hb,h,_=>by
  have h1:a=[]:=List.length_eq_zero_iff.mp (by omega)
  have h2:b=[]:=List.length_eq_zero_iff.mp (by omega)
  subst h1;subst h2
  rw[List.append_nil]at ha hb
  rw[Z6o,Z5L,Z5L,ltF (by rw[ha];omega),ltF (by rw[hb];omega),Z9W,List.append_nil];rfl
 |n+1,[],y::b,ua,ub,acc,ha,hb,h,hl=>by
  rw[List.append_nil]at ha
  have hBl:B.length=ub.length+(b.length+1):=by rw[hb];simp
  have ih:=ZBc A B hA n [] b ua (ub++[y]) (acc++[y]) (by simpa using ha) (by rw[hb];simp) (by simp at h⊢;omega) (by simp;omega)
  rw[List.length_append,List.length_singleton]at ih
  have f1:fitM (Nat.succ (len (acc.map Rw.e))) 24=true:=by rw[Z5h];exact Z8v (by omega)
  have a1:([[Dat.int y.k,.int y.v,.int y.w]]:Rows)=[y.e]:=rfl
  have b1:at' (B.map Rw.e) ub.length=y.e:=ZDK hb rfl
  have b2:inR (ub.length:Int) (lenI (B.map Rw.e))=true:=ZBR (by omega)
  rw[Z6o,b2]
  simp only[Z5L,Z7W,b1,gk,gv,gw,a1,ZCs,f1]
  rw[ltF (show(A.length:Int)≤(ua.length:Int)by rw[ha];omega),ltT (show(ub.length:Int)<(B.length:Int)by omega),eqF (show(ub.length:Int)≠(B.length:Int)by omega),Z7X (show ub.length<9223372036854775807 by omega)]
  simp only[cond_true,cond_false]
  rw[ih,Z9W,Z9W]
  simp
 |n+1,x::a,[],ua,ub,acc,ha,hb,h,hl=>by
  rw[List.append_nil]at hb
  have hAl:A.length=ua.length+(a.length+1):=by rw[ha];simp
  have ih:=ZBc A B hA n a [] (ua++[x]) ub (acc++[x]) (by rw[ha];simp) (by simpa using hb) (by simp at h⊢;omega) (by simp;omega)
  rw[List.length_append,List.length_singleton]at ih
  have f1:fitM (Nat.succ (len (acc.map Rw.e))) 24=true:=by rw[Z5h];exact Z8v (by omega)
  have a1:([[Dat.int x.k,.int x.v,.int x.w]]:Rows)=[x.e]:=rfl
  have b1:at' (A.map Rw.e) ua.length=x.e:=ZDK ha rfl
  have b2:inR (ua.length:Int) (lenI (A.map Rw.e))=true:=ZBR (by omega)
  rw[Z6o,b2]
  simp only[Z5L,Z7W,b1,gk,gv,gw,a1,ZCs,f1]
  rw[ltT (show(ua.length:Int)<(A.length:Int)by omega),eqT (show(ub.length:Int)=(B.length:Int)by rw[hb]),Z7X (show ua.length<9223372036854775807 by omega)]
  simp only[cond_true,cond_false]
  rw[ih,ZAI,ZAI]
  simp
 |n+1,x::a,y::b,ua,ub,acc,ha,hb,h,hl=>by
  have hAl:A.length=ua.length+(a.length+1):=by rw[ha];simp
  have hBl:B.length=ub.length+(b.length+1):=by rw[hb];simp
  have f1:fitM (Nat.succ (len (acc.map Rw.e))) 24=true:=by rw[Z5h];exact Z8v (by omega)
  have a1:([[Dat.int x.k,.int x.v,.int x.w]]:Rows)=[x.e]:=rfl
  have a2:([[Dat.int y.k,.int y.v,.int y.w]]:Rows)=[y.e]:=rfl
  have b1:at' (A.map Rw.e) ua.length=x.e:=ZDK ha rfl
  have b2:inR (ua.length:Int) (lenI (A.map Rw.e))=true:=ZBR (by omega)
  have b3:at' (B.map Rw.e) ub.length=y.e:=ZDK hb rfl
  have b4:inR (ub.length:Int) (lenI (B.map Rw.e))=true:=ZBR (by omega)
  rw[Z6o,b2,b4]
  simp only[Z5L,Z7W,b1,b3,gk,gv,gw,a1,a2,ZCs,f1,ZB7,gA,ZFU]
  rw[ltT (show(ua.length:Int)<(A.length:Int)by omega),eqF (show(ub.length:Int)≠(B.length:Int)by omega),Z7X (show ua.length<9223372036854775807 by omega),Z7X (show ub.length<9223372036854775807 by omega)]
  simp only[cond_true,cond_false]
  rw[ZET]
  by_cases hxy:Rw.le x y
  ·have ih:=ZBc A B hA n a (y::b) (ua++[x]) ub (acc++[x]) (by rw[ha];simp) hb (by simp at h⊢;omega) (by simp;omega)
   rw[List.length_append,List.length_singleton]at ih
   rw[decide_eq_true hxy,if_pos hxy,cond_true,ih]
   simp
  ·have ih:=ZBc A B hA n (x::a) b ua (ub++[y]) (acc++[y]) ha (by rw[hb];simp) (by simp at h⊢;omega) (by simp;omega)
   rw[List.length_append,List.length_singleton]at ih
   rw[decide_eq_false hxy,if_neg hxy,cond_false,ih]
   simp
theorem ZLM (a b:List Rw) (h:a.length+b.length≤2147483648):callI tE Z76 [.sl (a.map Rw.e),.sl (b.map Rw.e)]=some [.sl ((mrg a b).map Rw.e)]:=by
 rw[ZCR]
 have:=ZBc a b h _ a b [] [] [] rfl rfl rfl (by simpa using h)
 simpa using this
def ZEx (a b:List Rw):Bool:=decide (ZAn a=ZAn b)
theorem ZBd {a b:List Rw}:ZEx a b=true↔a.Perm b:=by
 simp only[ZEx,decide_eq_true_eq]
 constructor
 ·intro h
  exact(Z7T a).symm.trans (h▸Z7T b)
 ·intro h
  exact Z8R ((Z7T a).trans (h.trans (Z7T b).symm)) (ZAw a) (ZAw b)
theorem ZGB {a b:List Rw} (h:¬a.length=b.length):ZEx a b=false:=by
 rw[←Bool.not_eq_true,ZBd]
 exact fun hh=>h hh.length_eq
theorem ZKa (a b:List Rw) (ha:a.length≤1099511627770) (hb:b.length≤1099511627770):callI tE Z7m [.sl (a.map Rw.e),.sl (b.map Rw.e)]=some [.bool (ZEx a b)]:=by
 rw[ZDT]
 by_cases h:a.length=b.length
 ·rw[ZF4 h,cond_true]
  simp only[ZJt a ha,ZJt b hb,gA]
  rw[ZG0 _ _ (by rw[Z8b];omega)]
  rfl
 ·rw[ZF5 h,cond_false,ZGB h]
theorem ZKb (a b:List Rw) (ha:a.length≤1099511627770) (hb:b.length≤1099511627770):callI tE Z6h [.sl (a.map Rw.e),.sl (b.map Rw.e)]=some [.bool (ZEx a b)]:=by
 rw[ZDY]
 simp only[ZJu a ha,ZJu b hb,gA]
 by_cases h:a.length=b.length
 ·rw[ZF4 (by rw[Z8b,Z8b,h]),Bool.not_true,cond_false]
  have:=ZCr (L:=fun x y i=>Z81 i x y) (e:=Rw.e) (P:=fun _=>True) (fun p q p' q' a b _ hpl hlt=>by
   rw[Z9f]
   simp only[ZC1,ZBW,Z7W,ZBK,cond_true,cond_false,gA,ZC7 hpl,ZEA hpl,Rw.e,ZI0,ZHp]) (fun p p' hpl=>by
   rw[Z9f,ZC2,cond_false]) (ZAn a) (ZAn b) [] [] rfl (by rw[Z8b,Z8b,h]) (fun a ha=>trivial) (by simp[Z8b];omega)
  simpa[ZEx]using this
 ·rw[ZF5 (by rw[Z8b,Z8b];exact h),Bool.not_false,cond_true,ZGB h]
def rc (l:List (List Rw)) (n:Nat) (p:Int):Nat:=match l[n]? with
 |none=>0
 |some r=>if p<0 then 0 else match r[p.toNat]? with
  |none=>0
  |some x=>x.cost
theorem ZJ6 (l:List (List Rw)) (n:Nat) (p:Int):rc l n p≤4:=by
 unfold rc
 split
 ·omega
 ·split
  ·omega
  ·split
   ·omega
   ·exact ZB5 _
def ZD8 (s:So):Nat:=if s.ph=1 then Z8X s.heap+Z8X s.dfd else if s.ph=2 then(if s.lp<0∨s.rp<0 then 0 else rc s.runs 0 s.lp+rc s.runs 1 s.rp)else if s.ph=3 then rc s.runs 0 s.lp else 0
def So.B (s:So):Prop:=s.sz≤1073741824
theorem So.B.p {s:So} (h:s.B):s.inp.length≤1073741824∧s.heap.length≤1073741824∧s.dfd.length≤1073741824∧s.out.length≤1073741824∧ZAT s.runs:=by
 simp only[So.B,So.sz]at h
 unfold ZAT
 omega
theorem ZHA (s:So) (n:Nat) (p:Int) (h:s.B):callI tE Z8Y [.sl (s.inp.map Rw.e),.int s.pos,.sl (s.heap.map Rw.e),.sl (s.dfd.map Rw.e),.sl (s.out.map Rw.e),.sl (s.runs.map rsE),.int s.lp,.int s.rp,.int s.ph,.int s.wr,.int (n:Int),.int p]=some [.int (rc s.runs n p:Nat)]:=by
 have hl:=Z7t List.length s.runs
 have hb:=h.p.2.2.2.2
 unfold ZAT at hb
 rw[ZEs,Z5L]
 unfold rc
 by_cases hn:n<s.runs.length
 ·obtain⟨u,a,v,hr,rfl⟩:=ZCX hn
  have ha:a.length≤1073741824:=Nat.le_trans (Z9F (by rw[hr];simp)) hb
  have e1:s.runs[u.length]?=some a:=by rw[hr];simp
  have e2:at' (s.runs.map rsE) u.length=rsE a:=ZDK hr rfl
  rw[leF (by omega),cond_false,e1]
  simp only[Z7W,e2,rsE,gA,Z5L]
  by_cases hp:p<0
  ·rw[ltT hp,cond_true,if_pos hp];rfl
  ·rw[ltF (by omega),cond_false,if_neg hp,ZEn (by omega) (by omega),cond_true]
   by_cases hpa:p.toNat<a.length
   ·obtain⟨u2,x,v2,hx,hu2⟩:=ZCX hpa
    have e3:a[p.toNat]?=some x:=by rw[hx,←hu2];simp
    have e4:at' (a.map Rw.e) (tn p)=x.e:=ZDK hx hu2
    rw[leF (by omega),cond_false,e3,ZEn (by omega) (by omega),cond_true,cond_true]
    simp only[e4,gk,gv,gw,ZB6,gA]
   ·rw[leT (by omega),cond_true,List.getElem?_eq_none (by omega)];rfl
 ·rw[leT (by omega),cond_true,List.getElem?_eq_none (by omega)];rfl
theorem ZGC (l:List (List Rw)) (n:Nat) (p:Int) (h:ZAT l) (hp:0≤p):∃q:List Rw,callI tE Z6J [.sl (l.map rsE),.int (n:Int),.int p]=some [.sl (q.map Rw.e)]∧Z8X q=rc l n p∧q.length≤1∧q=(match l[n]? with
  |none=>[]
  |some r=>(match r[p.toNat]? with
   |none=>[]
   |some x=>[x])):=by
 have hl:=Z7t List.length l
 unfold ZAT at h
 rw[ZFW,Z5L]
 unfold rc
 by_cases hn:n<l.length
 ·obtain⟨u,a,v,hr,rfl⟩:=ZCX hn
  have ha:a.length≤1073741824:=Nat.le_trans (Z9F (by rw[hr];simp)) h
  have e1:l[u.length]?=some a:=by rw[hr];simp
  have e2:at' (l.map rsE) u.length=rsE a:=ZDK hr rfl
  rw[ltT (by omega),cond_true,ZEn (by omega) (by omega),e1]
  simp only[Z7W,e2,rsE,gA,Z5L,cond_true]
  rw[if_neg (by omega)]
  by_cases hpa:p.toNat<a.length
  ·obtain⟨u2,x,v2,hx,hu2⟩:=ZCX hpa
   have e3:a[p.toNat]?=some x:=by rw[hx,←hu2];simp
   have e4:at' (a.map Rw.e) (tn p)=x.e:=ZDK hx hu2
   rw[ltT (by omega),cond_true,e3,ZEn (by omega) (by omega),cond_true]
   exact⟨[x],by simp only[e4,gk,gv,gw];rfl,by simp[Z8X],by simp,rfl⟩
  ·rw[ltF (by omega),cond_false,List.getElem?_eq_none (by omega)]
   exact⟨[],rfl,rfl,by simp,rfl⟩
 ·rw[ltF (by omega),cond_false,List.getElem?_eq_none (by omega)]
  exact⟨[],rfl,rfl,by simp,rfl⟩
theorem ZLN (s:So) (h:s.B):callI tE Z6u [.sl (s.inp.map Rw.e),.int s.pos,.sl (s.heap.map Rw.e),.sl (s.dfd.map Rw.e),.sl (s.out.map Rw.e),.sl (s.runs.map rsE),.int s.lp,.int s.rp,.int s.ph,.int s.wr]=some [.int (ZD8 s:Nat)]:=by
 obtain⟨h1,h2,h3,h4,h5⟩:=h.p
 have r0:=ZHA s 0 s.lp h
 have r1:=ZHA s 1 s.rp h
 have e0:((0:Nat):Int)=0:=rfl
 have e1:((1:Nat):Int)=1:=rfl
 rw[e0]at r0
 rw[e1]at r1
 have t1:=ZCM s.heap
 have t2:=ZCM s.dfd
 have q1:=ZJ6 s.runs 0 s.lp
 have q2:=ZJ6 s.runs 1 s.rp
 rw[ZC9]
 simp only[ZF6 s.heap (by omega),ZF6 s.dfd (by omega),r0,r1,gA]
 unfold ZD8
 by_cases p1:s.ph=1
 ·rw[eqT p1,cond_true,if_pos p1,Z5a ⟨by omega,by omega⟩]
  simp
 ·rw[eqF p1,cond_false,if_neg p1]
  by_cases p2:s.ph=2
  ·rw[eqT p2,cond_true,if_pos p2]
   by_cases p3:s.lp<0
   ·rw[ltT p3,if_pos (.inl p3)];rfl
   ·rw[ltF (by omega),cond_false]
    by_cases p4:s.rp<0
    ·rw[ltT p4,if_pos (.inr p4)];rfl
    ·rw[ltF (by omega),cond_false,if_neg (by omega),Z5a ⟨by omega,by omega⟩]
     simp
  ·rw[eqF p2,cond_false,if_neg p2]
   by_cases p3:s.ph=3
   ·rw[eqT p3,cond_true,if_pos p3]
   ·rw[eqF p3,cond_false,if_neg p3];rfl
theorem ZLO (s:So) (h:s.B):callI tE Z6z [.sl (s.inp.map Rw.e),.int s.pos,.sl (s.heap.map Rw.e),.sl (s.dfd.map Rw.e),.sl (s.out.map Rw.e),.sl (s.runs.map rsE),.int s.lp,.int s.rp,.int s.ph,.int s.wr]=some [.int (ZD8 s:Nat)]:=by
 obtain⟨h1,h2,h3,h4,h5⟩:=h.p
 have t1:=ZCM s.heap
 have t2:=ZCM s.dfd
 have q1:=ZJ6 s.runs 0 s.lp
 have q2:=ZJ6 s.runs 1 s.rp
 rw[ZCC]
 simp only[ZAt s.heap (by omega),ZAt s.dfd (by omega),gA]
 unfold ZD8
 by_cases p1:s.ph=1
 ·rw[eqT p1,cond_true,if_pos p1,Z5a ⟨by omega,by omega⟩]
  simp
 ·rw[eqF p1,cond_false,if_neg p1]
  by_cases p2:s.ph=2
  ·rw[eqT p2,cond_true,if_pos p2]
   by_cases p3:s.lp<0
   ·rw[ltT p3,if_pos (.inl p3)];rfl
   ·rw[ltF (by omega),cond_false]
    by_cases p4:s.rp<0
    ·rw[ltT p4,if_pos (.inr p4)];rfl
    ·obtain⟨a,a1,a2,a3,_⟩:=ZGC s.runs 0 s.lp h5 (by omega)
     obtain⟨b,b1,b2,b3,_⟩:=ZGC s.runs 1 s.rp h5 (by omega)
     rw[show((0:Nat):Int)=0 from rfl]at a1
     rw[show((1:Nat):Int)=1 from rfl]at b1
     rw[ltF (by omega),cond_false,if_neg (by omega)]
     simp only[a1,b1,gA,ZAt a (by omega),ZAt b (by omega),a2,b2]
     rw[Z5a ⟨by omega,by omega⟩]
     simp
  ·rw[eqF p2,cond_false,if_neg p2]
   by_cases p3:s.ph=3
   ·rw[eqT p3,cond_true,if_pos p3]
    by_cases p4:s.lp<0
    ·rw[ltT p4,cond_true]
     unfold rc
     cases s.runs[0]?<;>simp[p4]
    ·obtain⟨a,a1,a2,a3,_⟩:=ZGC s.runs 0 s.lp h5 (by omega)
     rw[show((0:Nat):Int)=0 from rfl]at a1
     rw[ltF (by omega),cond_false]
     simp only[a1,gA,ZAt a (by omega),a2]
   ·rw[eqF p3,cond_false,if_neg p3];rfl
def ZEU (s:So):Bool:=match s.runs with
 |a::b::_=>win s.lp 0 a.length&&(win s.rp 0 b.length&&(decide (s.out=mrg (a.take s.lp.toNat) (b.take s.rp.toNat))&&decide (s.out=(mrg a b).take (s.lp.toNat+s.rp.toNat))))
 |_=>false
def Z8t (s:So):Bool:=
 if s.ph=2 then ZEU s
 else if s.ph=3 then decide (s.runs.length=1)&&(decide (0≤s.lp∧s.lp<s.inp.length)&&(decide (s.rp=0)&&decide (s.out=[])))
 else if s.ph=4 then decide (s.runs.length≤1)&&(decide (s.lp=s.inp.length)&&(decide (s.rp=0)&&decide (s.out=[])))
 else false
def Z9L (s:So):Bool:=
 if s.ph=1 then decide (s.lp=0)&&(decide (s.rp=0)&&(decide (s.out≠[]∨s.dfd=[])&&(decide (ZD8 s≤60)&&ZEx (s.runs.flatten++(s.out++(s.heap++s.dfd))) (s.inp.take s.pos.toNat))))
 else decide (s.pos=s.inp.length)&&(decide (s.heap=[])&&(decide (s.dfd=[])&&(ZEx s.runs.flatten s.inp&&Z8t s)))
def ZAJ (s:So):Bool:=aok s.inp&&(win s.pos 0 s.inp.length&&(s.runs.all ZAy&&(decide (0≤s.wr)&&(isS s.out&&((s.heap.all fun r=> !Z9l r s.out)&&Z9L s)))))
def So.B2 (s:So):Prop:=s.sz≤1073741800
theorem So.B2.b {s:So} (h:s.B2):s.B:=by simp only[So.B2,So.B]at*;omega
theorem ZHB (l:List Rw) (p:Int):List.take (tn (p-0)) (List.drop (tn 0) (l.map Rw.e))=(l.take p.toNat).map Rw.e:=by
 show List.take (p-0).toNat (List.drop 0 (l.map Rw.e))=_
 rw[Int.sub_zero,List.drop_zero,List.map_take]
theorem Z9x {α:Type} (l:List α):decide (l=[])=decide (l.length=0):=by
 cases l<;>simp
theorem ZHC (n:Nat):leI (n:Int) 60=decide (n≤60):=by
 unfold leI;congr 1;apply propext;omega
theorem ZL9 (s:So) (h:s.B2) (hp:win s.pos 0 s.inp.length=true) (x0:Int) (x1:Rows) (n:Int):
  Z6S x0 x1 n n (s.inp.map Rw.e) s.pos (s.heap.map Rw.e) (s.dfd.map Rw.e) (s.out.map Rw.e) (s.runs.map rsE) s.lp s.rp s.ph s.wr=some [.bool (Z9L s)]:=by
 obtain⟨h1,h2,h3,h4,h5⟩:=h.b.p
 have hpp:=Z9R.mp hp
 have hfl:=ZFe s.runs
 have hsz:s.inp.length+(s.heap.length+(s.dfd.length+(s.out.length+s.runs.flatten.length)))≤1073741800:=by
  simp only[So.B2,So.sz]at h;omega
 have ht:callI tE Z7N [.sl [[.sl (s.runs.flatten.map Rw.e)],[.sl (s.out.map Rw.e)],[.sl (s.heap.map Rw.e)],[.sl (s.dfd.map Rw.e)]]]=some [.sl ((s.runs.flatten++(s.out++(s.heap++s.dfd))).map Rw.e)]:=by
  have:=ZI8 [s.runs.flatten,s.out,s.heap,s.dfd] (by simp only[szL];omega)
  simpa[rsE]using this
 have hb1:=ZKa (s.runs.flatten++(s.out++(s.heap++s.dfd))) (s.inp.take s.pos.toNat) (by(first|omega|(simp only[List.length_append,List.length_cons,List.length_nil,List.length_map,List.length_take,List.length_drop,List.length_replicate,Z6C]at* <;>omega))) (by(first|omega|(simp only[List.length_append,List.length_cons,List.length_nil,List.length_map,List.length_take,List.length_drop,List.length_replicate,Z6C]at* <;>omega)))
 have hb2:=ZKa s.runs.flatten s.inp (by omega) (by omega)
 rw[Z8Z,ltF (Int.le_refl n),cond_false]
 simp only[ZJ4 s.runs h5,ZLN s h.b,gA,ht,hb2,ZHB,hb1]
 unfold Z9L
 by_cases p1:s.ph=1
 ·rw[eqT p1,cond_true,if_pos p1]
  by_cases q1:s.lp=0
  ·rw[eqT q1,cond_true,decide_eq_true q1]
   by_cases q2:s.rp=0
   ·rw[eqT q2,cond_true,decide_eq_true q2,leT (show 0≤s.pos by omega),show leI s.pos (lenI (s.inp.map Rw.e))=true by rw[Z5L];exact leT (by omega)]
    simp only[Bool.and_self,cond_true,ZHC,Z5L]
    by_cases q3:0<s.out.length
    ·rw[ltT (by omega),cond_true,decide_eq_true (show s.out≠[]∨s.dfd=[]from .inl (fun e=>by rw[e]at q3;simp at q3))]
     cases decide (ZD8 s≤60)<;>rfl
    ·rw[ltF (by omega),cond_false]
     have qo:s.out=[]:=List.length_eq_zero_iff.mp (by omega)
     by_cases q4:s.dfd.length=0
     ·rw[eqT (by omega),cond_true,decide_eq_true (show s.out≠[]∨s.dfd=[]from .inr (List.length_eq_zero_iff.mp q4))]
      cases decide (ZD8 s≤60)<;>rfl
     ·rw[eqF (by omega),cond_false,decide_eq_false (show¬(s.out≠[]∨s.dfd=[])from fun e=>e.elim (fun e=>e qo) (fun e=>q4 (by rw[e];rfl)))]
      rfl
   ·rw[eqF q2,decide_eq_false q2];rfl
  ·rw[eqF q1,decide_eq_false q1];rfl
 ·rw[eqF p1,cond_false,if_neg p1]
  simp only[Z5L]
  by_cases q1:s.pos=s.inp.length
  ·rw[eqT q1,Bool.not_true,cond_false,decide_eq_true q1]
   by_cases q2:s.heap.length=0
   ·rw[ltF (by omega),cond_false,Z9x s.heap,decide_eq_true q2]
    by_cases q3:s.dfd.length=0
    ·rw[ltF (by omega),cond_false,Z9x s.dfd,decide_eq_true q3]
     simp only[Bool.true_and]
     cases ZEx s.runs.flatten s.inp
     ·rfl
     ·simp only[Bool.not_true,cond_false,Bool.true_and]
      unfold Z8t
      by_cases p2:s.ph=2
      ·rw[eqT p2,cond_true,if_pos p2]
       unfold ZEU
       cases hr:s.runs with
       |nil=>rfl
       |cons a r=>
        cases r with
        |nil=>rfl
        |cons b r=>
         have ha:a.length≤1073741824:=Nat.le_trans (Z9F (by rw[hr];simp)) h5
         have hb:b.length≤1073741824:=Nat.le_trans (Z9F (by rw[hr];simp)) h5
         have g0:at' ((a::b::r).map rsE) (tn 0)=rsE a:=rfl
         have g1:at' ((a::b::r).map rsE) (tn 1)=rsE b:=rfl
         have l0:ltI ((a::b::r).length:Int) 2=false:=ltF (by simp;omega)
         have l1:inR 0 ((a::b::r).length:Int)=true:=ZEn (by omega) (by simp;omega)
         have l2:inR 1 ((a::b::r).length:Int)=true:=ZEn (by omega) (by simp;omega)
         simp only[l0,l1,l2,cond_true,cond_false,g0,g1,rsE,gA,Z5L,ZBX]
         by_cases w1:win s.lp 0 a.length=true
         ·by_cases w2:win s.rp 0 b.length=true
          ·have w3:=Z9R.mp w1
           have w4:=Z9R.mp w2
           have m1:=ZLL (a.take s.lp.toNat) (b.take s.rp.toNat) (by simp;omega)
           have m2:=ZLL a b (by omega)
           have ml:=Z8s a b
           have e1:=ZG0 s.out (mrg (a.take s.lp.toNat) (b.take s.rp.toNat)) (by omega)
           have e2:=ZG0 s.out ((mrg a b).take (s.lp.toNat+s.rp.toNat)) (by omega)
           have e3:w64 (s.lp+s.rp)=s.lp+s.rp:=Z5a ⟨by omega,by omega⟩
           have e4:(s.lp+s.rp).toNat=s.lp.toNat+s.rp.toNat:=by omega
           rw[w1,w2,leT w3.1,leT w3.2,leT w4.1,leT w4.2]
           simp only[Bool.not_true,cond_false,Bool.and_self,cond_true,ZHB,m1,m2,e1,gA,e3,e4,Z5L,e2]
           rw[leT (by omega),leT (by rw[ml];omega)]
           simp only[Bool.and_self,cond_true,Bool.true_and]
           cases decide (s.out=mrg (a.take s.lp.toNat) (b.take s.rp.toNat))<;>rfl
          ·rw[w1,(Bool.not_eq_true _).mp w2];rfl
         ·rw[(Bool.not_eq_true _).mp w1];rfl
      ·rw[eqF p2,cond_false,if_neg p2]
       by_cases p3:s.ph=3
       ·rw[eqT p3,cond_true,if_pos p3]
        by_cases w1:s.runs.length=1
        ·rw[eqT (by omega),cond_true,decide_eq_true w1]
         simp only[ZBX,ZID (show s.inp.length≤1073741824 by omega),gA,Bool.true_and]
         by_cases w2:0≤s.lp∧s.lp<s.inp.length
         ·rw[decide_eq_true w2,cond_true]
          by_cases w3:s.rp=0
          ·rw[eqT w3,cond_true,decide_eq_true w3,Z9x]
           unfold eqI
           simp
          ·rw[eqF w3,decide_eq_false w3];rfl
         ·rw[decide_eq_false w2];rfl
        ·rw[eqF (by omega),decide_eq_false w1];rfl
       ·rw[eqF p3,cond_false,if_neg p3]
        by_cases p4:s.ph=4
        ·rw[eqT p4,cond_true,if_pos p4]
         by_cases w1:s.runs.length≤1
         ·rw[leT (by omega),cond_true,decide_eq_true w1]
          by_cases w2:s.lp=s.inp.length
          ·rw[eqT w2,cond_true,decide_eq_true w2]
           by_cases w3:s.rp=0
           ·rw[eqT w3,cond_true,decide_eq_true w3,Z9x]
            unfold eqI
            simp
           ·rw[eqF w3,decide_eq_false w3];rfl
          ·rw[eqF w2,decide_eq_false w2];rfl
         ·rw[leF (by omega),decide_eq_false w1];rfl
        ·rw[eqF p4,if_neg p4];rfl
    ·rw[ltT (by omega),Z9x s.dfd,decide_eq_false q3];simp
   ·rw[ltT (by omega),Z9x s.heap,decide_eq_false q2];rfl
  ·rw[eqF q1,decide_eq_false q1];rfl
theorem ZCb (s:So) (h:s.B2):callI tE Z5r [.sl (s.inp.map Rw.e),.int s.pos,.sl (s.heap.map Rw.e),.sl (s.dfd.map Rw.e),.sl (s.out.map Rw.e),.sl (s.runs.map rsE),.int s.lp,.int s.rp,.int s.ph,.int s.wr]=some [.bool (ZAJ s)]:=by
 obtain⟨h1,h2,h3,h4,h5⟩:=h.b.p
 rw[ZBt]
 simp only[ZAq,ZBX,Z5L,ZHd s.runs h5,ZG8 s.out (by omega),gA]
 unfold ZAJ
 cases aok s.inp
 ·rfl
 ·by_cases hp:win s.pos 0 s.inp.length=true
  ·rw[hp]
   cases s.runs.all ZAy
   ·rfl
   ·by_cases hw:0≤s.wr
    ·rw[ltF hw,decide_eq_true hw]
     cases isS s.out
     ·rfl
     ·have:=ZBm (l:=s.heap) (L:=fun i=>Z6S 0 (s.heap.map Rw.e) (s.heap.length:Nat) i (s.inp.map Rw.e) s.pos (s.heap.map Rw.e) (s.dfd.map Rw.e) (s.out.map Rw.e) (s.runs.map rsE) s.lp s.rp s.ph s.wr) (p:=fun r=> !Z9l r s.out) (no:=some [.bool false]) (yes:=some [.bool (Z9L s)]) (by omega) (fun u a v e=>by
       have hu:u.length<s.heap.length:=by rw[e];simp
       have ha:at' (s.heap.map Rw.e) u.length=a.e:=ZDK e rfl
       rw[Z8Z,ltT (by omega),cond_true,ZBR hu,cond_true]
       simp only[Z7W,ha,gk,gv,gw,ZJU a s.out (by omega),gA]
       cases Z9l a s.out<;>rfl) (ZL9 s h hp 0 _ _)
      refine this.trans ?_
      cases s.heap.all fun r=> !Z9l r s.out<;>rfl
    ·rw[ltT (by omega),decide_eq_false hw];rfl
  ·rw[(Bool.not_eq_true _).mp hp];rfl
theorem ZLA (s:So) (h:s.B2) (hp:win s.pos 0 s.inp.length=true) (x0:Int):
  Z6D x0 (w64 ((s.out.length:Int)-1)) (s.heap.length:Nat) (s.inp.map Rw.e) s.pos (s.heap.map Rw.e) (s.dfd.map Rw.e) (s.out.map Rw.e) (s.runs.map rsE) s.lp s.rp s.ph s.wr=some [.bool (Z9L s)]:=by
 obtain⟨h1,h2,h3,h4,h5⟩:=h.b.p
 have hpp:=Z9R.mp hp
 have hfl:=ZFe s.runs
 have hsz:s.inp.length+(s.heap.length+(s.dfd.length+(s.out.length+s.runs.flatten.length)))≤1073741800:=by
  simp only[So.B2,So.sz]at h;omega
 have hb1:=ZKb (s.runs.flatten++(s.out++(s.heap++s.dfd))) (s.inp.take s.pos.toNat) (by(first|omega|(simp only[List.length_append,List.length_cons,List.length_nil,List.length_map,List.length_take,List.length_drop,List.length_replicate,Z6C]at* <;>omega))) (by(first|omega|(simp only[List.length_append,List.length_cons,List.length_nil,List.length_map,List.length_take,List.length_drop,List.length_replicate,Z6C]at* <;>omega)))
 have hb2:=ZKb s.runs.flatten s.inp (by omega) (by omega)
 have f1:fitM (s.runs.flatten.length+s.out.length) 24=true:=Z8v (by omega)
 have f2:fitM ((s.runs.flatten++s.out).length+s.heap.length) 24=true:=Z8v (by(first|omega|(simp only[List.length_append,List.length_cons,List.length_nil,List.length_map,List.length_take,List.length_drop,List.length_replicate,Z6C]at* <;>omega)))
 have f3:fitM ((s.runs.flatten++s.out++s.heap).length+s.dfd.length) 24=true:=Z8v (by(first|omega|(simp only[List.length_append,List.length_cons,List.length_nil,List.length_map,List.length_take,List.length_drop,List.length_replicate,Z6C]at* <;>omega)))
 have hass:s.runs.flatten++s.out++s.heap++s.dfd=s.runs.flatten++(s.out++(s.heap++s.dfd)):=by simp
 have hlast:leI 0 (w64 ((s.out.length:Int)-1))=decide (0<s.out.length):=by
  rw[Z5a ⟨by omega,by omega⟩];unfold leI;congr 1;apply propext;omega
 rw[Z8a,Z5L,ltF (Int.le_refl _),cond_false]
 simp only[ZJ5 s.runs h5,ZLO s h.b,gA,hb2,ZHB,Z5h,ZAh,f1,f2,f3,cond_true,hass,hb1,hlast,Z5L]
 unfold Z9L
 by_cases p1:s.ph=1
 ·rw[eqT p1,cond_true,if_pos p1]
  by_cases q1:s.lp=0
  ·rw[eqT q1,cond_true,decide_eq_true q1]
   by_cases q2:s.rp=0
   ·rw[eqT q2,cond_true,decide_eq_true q2,leT (show 0≤s.pos by omega),leT (show s.pos≤s.inp.length by omega)]
    simp only[Bool.and_self,cond_true,ZHC]
    by_cases q4:s.dfd.length=0
    ·rw[eqT (by omega),cond_true,decide_eq_true (show s.out≠[]∨s.dfd=[]from .inr (List.length_eq_zero_iff.mp q4))]
     cases decide (ZD8 s≤60)<;>rfl
    ·rw[eqF (by omega),cond_false]
     by_cases q3:0<s.out.length
     ·rw[decide_eq_true q3,cond_true,decide_eq_true (show s.out≠[]∨s.dfd=[]from .inl (fun e=>by rw[e]at q3;simp at q3))]
      cases decide (ZD8 s≤60)<;>rfl
     ·have qo:s.out=[]:=List.length_eq_zero_iff.mp (by omega)
      rw[decide_eq_false q3,cond_false,decide_eq_false (show¬(s.out≠[]∨s.dfd=[])from fun e=>e.elim (fun e=>e qo) (fun e=>q4 (by rw[e];rfl)))]
      rfl
   ·rw[eqF q2,decide_eq_false q2];rfl
  ·rw[eqF q1,decide_eq_false q1];rfl
 ·rw[eqF p1,cond_false,if_neg p1]
  by_cases q1:s.pos=s.inp.length
  ·rw[eqT q1,Bool.not_true,cond_false,decide_eq_true q1,Z5a (n:=(s.heap.length:Int)+(s.dfd.length:Int)) ⟨by omega,by omega⟩]
   by_cases q2:s.heap.length=0
   ·by_cases q3:s.dfd.length=0
    ·rw[ltF (by omega),cond_false,Z9x s.heap,decide_eq_true q2,Z9x s.dfd,decide_eq_true q3]
     simp only[Bool.true_and]
     unfold Z8t
     by_cases p2:s.ph=2
     ·rw[eqT p2,cond_true,if_pos p2]
      unfold ZEU
      cases hr:s.runs with
      |nil=>simp[ltI]
      |cons a r=>
       cases r with
       |nil=>simp[ltI]
       |cons b r=>
        have ha:a.length≤1073741824:=Nat.le_trans (Z9F (by rw[hr];simp)) h5
        have hb:b.length≤1073741824:=Nat.le_trans (Z9F (by rw[hr];simp)) h5
        have g0:at' ((a::b::r).map rsE) (tn 0)=rsE a:=rfl
        have g1:at' ((a::b::r).map rsE) (tn 1)=rsE b:=rfl
        have l0:ltI ((a::b::r).length:Int) 2=false:=ltF (by simp;omega)
        have l1:inR 0 ((a::b::r).length:Int)=true:=ZEn (by omega) (by simp;omega)
        have l2:inR 1 ((a::b::r).length:Int)=true:=ZEn (by omega) (by simp;omega)
        simp only[l0,l1,l2,cond_true,cond_false,g0,g1,rsE,gA,Z5L,ZCt]
        by_cases w1:win s.lp 0 a.length=true
        ·by_cases w2:win s.rp 0 b.length=true
         ·have w3:=Z9R.mp w1
          have w4:=Z9R.mp w2
          have m1:=ZLM (a.take s.lp.toNat) (b.take s.rp.toNat) (by simp;omega)
          have m2:=ZLM a b (by omega)
          have ml:=Z8s a b
          have ml2:=Z8s (a.take s.lp.toNat) (b.take s.rp.toNat)
          simp only[List.length_take]at ml2
          have e1:=ZGy (mrg (a.take s.lp.toNat) (b.take s.rp.toNat)) s.out (by omega)
          have e2:=ZGy s.out ((mrg a b).take (s.lp.toNat+s.rp.toNat)) (by omega)
          have e3:w64 (s.lp+s.rp)=s.lp+s.rp:=Z5a ⟨by omega,by omega⟩
          have e4:(s.lp+s.rp).toNat=s.lp.toNat+s.rp.toNat:=by omega
          have e5:decide (mrg (a.take s.lp.toNat) (b.take s.rp.toNat)=s.out)=decide (s.out=mrg (a.take s.lp.toNat) (b.take s.rp.toNat)):=by
           congr 1;exact propext ⟨fun e=>e.symm,fun e=>e.symm⟩
          rw[w1,w2,leT w3.1,leT w3.2,leT w4.1,leT w4.2]
          simp only[Bool.not_true,cond_false,Bool.and_self,cond_true,ZHB,m1,m2,gA,e3,e4,Z5L,e2,e1]
          rw[leT (by omega),leT (by rw[ml];omega),e5]
          simp only[Bool.and_self,cond_true,Bool.true_and]
          cases decide (s.out=(mrg a b).take (s.lp.toNat+s.rp.toNat))<;>cases decide (s.out=mrg (a.take s.lp.toNat) (b.take s.rp.toNat))<;>simp
         ·rw[w1,(Bool.not_eq_true _).mp w2];simp
        ·rw[(Bool.not_eq_true _).mp w1];simp
     ·rw[eqF p2,cond_false,if_neg p2]
      by_cases w1:s.runs.length≤1
      ·rw[ltF (by omega),cond_false]
       by_cases w2:s.rp=0
       ·rw[eqT w2,Bool.not_true,cond_false,decide_eq_true w2]
        by_cases w3:s.out.length=0
        ·rw[ltF (by omega),cond_false,Z9x s.out,decide_eq_true w3]
         cases ZEx s.runs.flatten s.inp
         ·rfl
         ·simp only[Bool.not_true,cond_false,Bool.true_and,Bool.and_true]
          by_cases p3:s.ph=3
          ·rw[eqT p3,cond_true,if_pos p3]
           by_cases w4:s.runs.length=1
           ·rw[eqT (by omega),cond_true,decide_eq_true w4]
            simp only[ZCt,ZID (show s.inp.length≤1073741824 by omega),gA,Bool.true_and]
           ·rw[eqF (by omega),decide_eq_false w4];rfl
          ·rw[eqF p3,cond_false,if_neg p3]
           by_cases p4:s.ph=4
           ·rw[eqT p4,cond_true,if_pos p4,decide_eq_true w1]
            unfold eqI
            simp
           ·rw[eqF p4,if_neg p4];rfl
        ·rw[ltT (by omega),Z9x s.out,decide_eq_false w3]
         simp
       ·rw[eqF w2,decide_eq_false w2]
        simp
      ·rw[ltT (by omega),decide_eq_false w1,decide_eq_false (show¬s.runs.length=1 by omega)]
       simp
    ·rw[ltT (by omega),Z9x s.dfd,decide_eq_false q3];simp
   ·rw[ltT (by omega),Z9x s.heap,decide_eq_false q2];simp
  ·rw[eqF q1,decide_eq_false q1];rfl
theorem ZDp (s:So) (h:s.B2):callI tE Z68 [.sl (s.inp.map Rw.e),.int s.pos,.sl (s.heap.map Rw.e),.sl (s.dfd.map Rw.e),.sl (s.out.map Rw.e),.sl (s.runs.map rsE),.int s.lp,.int s.rp,.int s.ph,.int s.wr]=some [.bool (ZAJ s)]:=by
 obtain⟨h1,h2,h3,h4,h5⟩:=h.b.p
 rw[ZBv]
 simp only[Z9h s.inp (by omega),ZCt,Z5L,ZHe s.runs h5,ZGA s.out (by omega),gA]
 unfold ZAJ
 cases aok s.inp
 ·rfl
 ·by_cases hp:win s.pos 0 s.inp.length=true
  ·rw[hp]
   cases s.runs.all ZAy
   ·rfl
   ·by_cases hw:0≤s.wr
    ·rw[ltF hw,decide_eq_true hw]
     cases isS s.out
     ·rfl
     ·have hlast:leI 0 (w64 ((s.out.length:Int)-1))=decide (0<s.out.length):=by
       rw[Z5a ⟨by omega,by omega⟩];unfold leI;congr 1;apply propext;omega
      have:=ZBm (l:=s.heap) (L:=fun i=>Z6D 0 (w64 ((s.out.length:Int)-1)) i (s.inp.map Rw.e) s.pos (s.heap.map Rw.e) (s.dfd.map Rw.e) (s.out.map Rw.e) (s.runs.map rsE) s.lp s.rp s.ph s.wr) (p:=fun r=> !Z9l r s.out) (no:=some [.bool false]) (yes:=some [.bool (Z9L s)]) (by omega) (fun u a v e=>by
       have hu:u.length<s.heap.length:=by rw[e];simp
       have ha:at' (s.heap.map Rw.e) u.length=a.e:=ZDK e rfl
       rw[Z8a,Z5L,ltT (by omega),cond_true,hlast]
       rcases ZFd s.out with ho|⟨q,x,ho⟩
       ·rw[ho,ZBq];rfl
       ·have hx:at' (s.out.map Rw.e) q.length=x.e:=ZDK (u:=q) (v:=[]) (by rw[ho]) rfl
        have hql:s.out.length=q.length+1:=by rw[ho];simp
        have hl2:w64 ((s.out.length:Int)-1)=(q.length:Int):=by rw[Z5a ⟨by omega,by omega⟩];omega
        rw[decide_eq_true (by omega:0<s.out.length),cond_true,hl2,ZEn (by omega) (by omega),ZBR (by omega)]
        simp only[cond_true,Z7W,ha,hx,gk,gv,gw,ZB7,gA,ZAQ]
        rw[show Z9l a s.out=decide (Rw.lt a x)by rw[ho,ZAS]]
        cases decide (Rw.lt a x)<;>rfl) (ZLA s h hp 0)
      refine this.trans ?_
      cases s.heap.all fun r=> !Z9l r s.out<;>rfl
    ·rw[ltT (by omega),decide_eq_false hw];rfl
  ·rw[(Bool.not_eq_true _).mp hp];rfl
def ZIF (s:So):Int:=if ZAJ s then(if s.ph=3∨s.ph=4 then w64 ((s.inp.length:Int)-s.lp)else s.inp.length)else 0
theorem ZLc (s:So) (h:s.B2):callI tE Z8T [.sl (s.inp.map Rw.e),.int s.pos,.sl (s.heap.map Rw.e),.sl (s.dfd.map Rw.e),.sl (s.out.map Rw.e),.sl (s.runs.map rsE),.int s.lp,.int s.rp,.int s.ph,.int s.wr]=some [.int (ZIF s)]:=by
 rw[ZBu,ZCb s h]
 simp only[gA,Z5L]
 unfold ZIF
 by_cases hv:ZAJ s=true
 ·rw[hv,if_pos rfl]
  by_cases p3:s.ph=3
  ·rw[eqT p3,if_pos (.inl p3)];rfl
  ·rw[eqF p3]
   by_cases p4:s.ph=4
   ·rw[eqT p4,if_pos (.inr p4)];rfl
   ·rw[eqF p4,if_neg (fun e=>e.elim p3 p4)];rfl
 ·rw[(Bool.not_eq_true _).mp hv];rfl
theorem ZLd (s:So) (h:s.B2):callI tE Z8U [.sl (s.inp.map Rw.e),.int s.pos,.sl (s.heap.map Rw.e),.sl (s.dfd.map Rw.e),.sl (s.out.map Rw.e),.sl (s.runs.map rsE),.int s.lp,.int s.rp,.int s.ph,.int s.wr]=some [.int (ZIF s)]:=by
 rw[ZBw,ZDp s h]
 simp only[gA,Z5L]
 unfold ZIF
 by_cases hv:ZAJ s=true
 ·rw[hv,if_pos rfl]
  by_cases p3:s.ph=3
  ·rw[eqT p3,if_pos (.inl p3)];rfl
  ·rw[eqF p3]
   by_cases p4:s.ph=4
   ·rw[eqT p4,if_pos (.inr p4)];rfl
   ·rw[eqF p4,if_neg (fun e=>e.elim p3 p4)];rfl
 ·rw[(Bool.not_eq_true _).mp hv];rfl
def ZGZ (c:Ck):Bool:=ZAJ c.so&&(aok c.em&&(decide (w64 ((c.em.length:Int)+ZIF c.so)=c.so.inp.length)&&decide (c.em=(ZAn c.so.inp).take c.em.length)))
def Ck.B2 (c:Ck):Prop:=c.sz≤1073741800
theorem ZJV {s:So} (h:s.B2):0≤ZIF s∧ZIF s≤s.inp.length:=by
 obtain⟨h1,h2,h3,h4,h5⟩:=h.b.p
 unfold ZIF
 by_cases hv:ZAJ s=true
 ·rw[if_pos hv]
  by_cases hp:s.ph=3∨s.ph=4
  ·rw[if_pos hp]
   have hlp:0≤s.lp∧s.lp≤s.inp.length:=by
    simp only[ZAJ,Bool.and_eq_true]at hv
    have ht:=hv.2.2.2.2.2.2
    unfold Z9L at ht
    rw[if_neg (by omega)]at ht
    simp only[Bool.and_eq_true]at ht
    have hl:=ht.2.2.2.2
    unfold Z8t at hl
    rw[if_neg (by omega)]at hl
    by_cases p3:s.ph=3
    ·rw[if_pos p3]at hl
     simp only[Bool.and_eq_true,decide_eq_true_eq]at hl
     omega
    ·rw[if_neg p3,if_pos (by omega)]at hl
     simp only[Bool.and_eq_true,decide_eq_true_eq]at hl
     omega
   rw[Z5a ⟨by omega,by omega⟩]
   omega
  ·rw[if_neg hp];omega
 ·rw[if_neg hv];omega
theorem ZJ7 (c:Ck) (h:c.B2):callI tE Z7O [.sl (c.so.inp.map Rw.e),.int c.so.pos,.sl (c.so.heap.map Rw.e),.sl (c.so.dfd.map Rw.e),.sl (c.so.out.map Rw.e),.sl (c.so.runs.map rsE),.int c.so.lp,.int c.so.rp,.int c.so.ph,.int c.so.wr,.sl (c.em.map Rw.e)]=some [.bool (ZGZ c)]:=by
 have hso:c.so.B2:=by simp only[Ck.B2,Ck.sz,So.B2]at*;omega
 have hem:c.em.length≤1073741824:=by simp only[Ck.B2,Ck.sz]at h;omega
 obtain⟨h1,h2,h3,h4,h5⟩:=hso.b.p
 have hr:=ZJV hso
 rw[ZAu]
 simp only[ZCb c.so hso,ZAq,ZLc c.so hso,ZJt c.so.inp (by omega),gA,Z5L]
 unfold ZGZ
 cases ZAJ c.so
 ·rfl
 ·cases aok c.em
  ·rfl
  ·simp only[cond_true,Bool.true_and]
   by_cases hq:w64 ((c.em.length:Int)+ZIF c.so)=c.so.inp.length
   ·rw[eqT hq,decide_eq_true hq]
    rw[Z5a ⟨by omega,by omega⟩]at hq
    rw[leT (by omega),leT (by rw[Z8b];omega)]
    simp only[Bool.and_self,cond_true,ZJR,ZG0 c.em _ (show c.em.length≤1152921504606846976 by omega),gA,Bool.true_and]
   ·rw[eqF hq,decide_eq_false hq];rfl
theorem ZJ8 (c:Ck) (h:c.B2):callI tE Z7Q [.sl (c.so.inp.map Rw.e),.int c.so.pos,.sl (c.so.heap.map Rw.e),.sl (c.so.dfd.map Rw.e),.sl (c.so.out.map Rw.e),.sl (c.so.runs.map rsE),.int c.so.lp,.int c.so.rp,.int c.so.ph,.int c.so.wr,.sl (c.em.map Rw.e)]=some [.bool (ZGZ c)]:=by
 have hso:c.so.B2:=by simp only[Ck.B2,Ck.sz,So.B2]at*;omega
 have hem:c.em.length≤1073741824:=by simp only[Ck.B2,Ck.sz]at h;omega
 obtain⟨h1,h2,h3,h4,h5⟩:=hso.b.p
 have hr:=ZJV hso
 rw[ZAv]
 simp only[ZDp c.so hso,Z9h c.em (by omega),ZLd c.so hso,ZJu c.so.inp (by omega),gA,Z5L]
 unfold ZGZ
 cases ZAJ c.so
 ·rfl
 ·cases aok c.em
  ·rfl
  ·simp only[Bool.not_true,cond_false,Bool.true_and]
   by_cases hq:w64 ((c.em.length:Int)+ZIF c.so)=c.so.inp.length
   ·rw[eqT hq,decide_eq_true hq]
    rw[Z5a ⟨by omega,by omega⟩]at hq
    rw[leT (by omega),leT (by rw[Z8b];omega)]
    simp only[Bool.not_true,cond_false,Bool.and_self,cond_true,ZJR,ZGy c.em _ (show c.em.length≤1152921504606846976 by omega),gA,Bool.true_and]
   ·rw[eqF hq,decide_eq_false hq];rfl
theorem ZHD {n:Int} (h:0≤n∧n<18446744073709551616):IntKind.wrap .u64 n=n:=by
 simp only[IntKind.wrap,IntKind.signed,IntKind.bits,Bool.false_and,Bool.false_eq_true,if_false]
 omega
theorem ZIG (n:Nat):Int.tdiv (n:Int) 10=((n/10:Nat):Int):=by rw[Int.tdiv_eq_ediv_of_nonneg (by omega)];omega
theorem ZIH (n:Nat):Int.tmod (n:Int) 10=((n%10:Nat):Int):=by rw[Int.tmod_eq_emod_of_nonneg (by omega)];omega
theorem ZFA:∀n:Nat,n<18446744073709551616→callI tE Z7o [.int (n:Int)]=some [.str (S (dec n))]:=by
 intro n
 refine ZFb (P:=fun n=>n<18446744073709551616→callI tE Z7o [.int (n:Int)]=some [.str (S (dec n))]) (fun n h _=>?_) (fun n h ih hn=>?_) n
 ·rw[ZC0,ltT (by omega),cond_true,ZHD (by omega),ZI9,ZIA (by omega) (by omega),ZH4 h]
  rfl
 ·rw[ZC0,ltF (by omega),cond_false,ZIG,ZIH,ZHD (by omega),ih (by omega)]
  simp only[ZF2,ZIy]
  rw[ZHD (by omega),ZI9,ZIA (by omega) (by omega)]
  have hl:(dec (n/10)).length≤20:=(Z8k 20 _ (by omega)).mpr (by omega)
  rw[show fitS _ _=true from Z61 (by simp;omega),cond_true,Z6t,ZH5 h]
  rfl
theorem Z6c {n:Int} (h:I64 n):callI tE Z5i [.int n]=some [.str (S (fmt n))]:=by
 obtain⟨h1,h2⟩:=h
 rw[ZDU]
 by_cases hn:n<0
 ·rw[ltT hn,cond_true]
  have e1:IntKind.wrap .u64 n=n+18446744073709551616:=by
   simp only[IntKind.wrap,IntKind.signed,IntKind.bits,Bool.false_and,Bool.false_eq_true,if_false]
   omega
  have e2:IntKind.wrap .u64 (0-(n+18446744073709551616))=(n.natAbs:Int):=by
   simp only[IntKind.wrap,IntKind.signed,IntKind.bits,Bool.false_and,Bool.false_eq_true,if_false]
   omega
  have hl:(dec n.natAbs).length≤20:=(Z8k 20 _ (by omega)).mpr (by omega)
  rw[e1,e2,ZFA _ (by omega)]
  simp only[ZF2,ZIy]
  rw[show fitS _ _=true from Z61 (by simp;omega),cond_true,Z6t,Z9S hn]
  rfl
 ·rw[ltF (by omega),cond_false,ZHD (by omega),show n=(n.natAbs:Int)by omega,ZFA _ (by omega)]
  simp only[ZF2,ZIy]
  rw[Z9T (by omega)]
  rfl
theorem ZII (s:List UInt8) (h:s.length<4611686018427387904):callI tE Z8E [.str (S s)]=some [.int (chk s:Nat)]:=by
 rw[ZCn]
 have:=Z6Q (l:=s) (L:=fun(x:Nat)=>Z70 (S s) (x:Int) (szI (S s))) (F:=fun x v=>some [Dat.int ((v.foldl ZJ3 x:Nat):Int)]) (I:=fun x _ _=>x<65521) (by omega) (fun u c v x e hI=>.inl ⟨ZJ3 x c,by
  subst e
  show Z70 _ _ _ _=_
  rw[Z9H,ZIw,ZIx,ZHr,ZH8 hI];rfl,ZGX _ _,rfl⟩) (fun x _=>by rw[Z9H,ZDi];rfl) 11 (by decide)
 exact this
theorem ZIJ (s:List UInt8) (h:s.length<4611686018427387904):callI tE Z8F [.str (S s)]=some [.int (chk s:Nat)]:=by
 rw[ZCp]
 have:=Z6Q (l:=s) (L:=fun(x:Nat)=>Z71 (S s) (x:Int)) (F:=fun x v=>some [Dat.int ((v.foldl ZJ3 x:Nat):Int)]) (I:=fun x _ _=>x<65521) (by omega) (fun u c v x e hI=>.inl ⟨ZJ3 x c,by
  subst e
  show Z71 _ _ _=_
  rw[Z9I,ZIw,ZIx,ZHr,Int.mul_comm,ZH8 hI];rfl,ZGX _ _,rfl⟩) (fun x _=>by rw[Z9I,ZDi];rfl) 11 (by decide)
 exact this
theorem ZEV (neg sgn:Bool):∀(d n:Nat) (s:List UInt8),n<10^d→n≤9223372036854775808→(sgn=false→n<9223372036854775808)→s.length+d≤1000→
  Z7G (if sgn then-(n:Int)else(n:Int)) (S s) neg=some [.str (S (if neg then 45::(ZGQ n++s)else ZGQ n++s))]
 |d,n,s,h,hd,hp,hs=>by
  rw[ZBU]
  by_cases h0:n=0
  ·subst h0
   rw[eqT (by split<;>rfl),ZH2]
   cases neg
   ·rfl
   ·rw[show fitS (S [45]) (S s)=true from Z61 (by simp;omega)]
    simp only[Bool.not_true,cond_false,cond_true,Z6t]
    rfl
  ·have hne:eqI (if sgn then-(n:Int)else(n:Int)) 0=false:=eqF (by split<;>omega)
   cases d with
   |zero=>exfalso;simp at h;omega
   |succ d=>
    have ih:=ZEV neg sgn d (n/10) ([dig (n%10)]++s) (by rw[Nat.pow_succ]at h;omega) (by omega) (by omega) (by simp;omega)
    have hm:n%10<10:=Nat.mod_lt _ (by decide)
    have e48:w64 (48+((n%10:Nat):Int))=48+((n%10:Nat):Int):=Z5a ⟨by omega,by omega⟩
    have hu:strOf [[.int (IntKind.wrap .u8 (48+((n%10:Nat):Int)))]]=S [dig (n%10)]:=by
     rw[ZI9,ZIA (by omega) (by omega),Int.toNat_natCast]
    have hf:fitS (S [dig (n%10)]) (S s)=true:=Z61 (by simp;omega)
    have hfin:(if neg then 45::(ZGQ (n/10)++([dig (n%10)]++s))else ZGQ (n/10)++([dig (n%10)]++s))=(if neg then 45::(ZGQ n++s)else ZGQ n++s):=by
     rw[ZH3 h0];simp
    rw[hfin]at ih
    rw[hne,Bool.not_false,cond_true]
    cases sgn with
    |false=>
     simp only[Bool.false_eq_true,if_false]at ih⊢
     have hp':=hp rfl
     rw[ZIH,ZIG,ltF (by omega),cond_false,e48,hu,hf,cond_true,Z6t,Z5a ⟨by omega,by omega⟩]
     exact ih
    |true=>
     simp only[if_true]at ih⊢
     have t1:Int.tmod (-(n:Int)) 10= -((n%10:Nat):Int):=by rw[Int.neg_tmod,ZIH]
     have t2:Int.tdiv (-(n:Int)) 10= -((n/10:Nat):Int):=by rw[Int.neg_tdiv,ZIG]
     rw[t1,t2,Z5a (n:= -((n/10:Nat):Int)) ⟨by omega,by omega⟩]
     by_cases hz:n%10=0
     ·rw[ltF (by omega),cond_false]
      have: -((n%10:Nat):Int)=((n%10:Nat):Int):=by omega
      rw[this,e48,hu,hf,cond_true,Z6t]
      exact ih
     ·rw[ltT (by omega),cond_true,show(0:Int)- -((n%10:Nat):Int)=((n%10:Nat):Int)by omega,Z5a (n:=((n%10:Nat):Int)) ⟨by omega,by omega⟩,e48,hu,hf,cond_true,Z6t]
      exact ih
theorem Z6L {n:Int} (h:I64 n):callI tE Z5N [.int n]=some [.str (S (fmt n))]:=by
 obtain⟨h1,h2⟩:=h
 rw[ZDW]
 by_cases h0:n=0
 ·subst h0;rfl
 ·rw[eqF h0,cond_false]
  by_cases hn:n<0
  ·have:=ZEV true true 20 n.natAbs [] (by omega) (by omega) (by simp) (by simp)
   simp only[if_true,List.append_nil]at this
   rw[show-((n.natAbs:Nat):Int)=n by omega]at this
   rw[ltT hn,this,Z9S hn,ZD4 (by omega)]
  ·have:=ZEV false false 20 n.natAbs [] (by omega) (by omega) (by omega) (by simp)
   simp only[Bool.false_eq_true,if_false,List.append_nil]at this
   rw[show((n.natAbs:Nat):Int)=n by omega]at this
   rw[ltF (by omega),this,Z9T (by omega),ZD4 (by omega)]
theorem ZGD {n:Nat} {k:Nat} (h:n<10^k) (hk:k≤9):n<1000000000:=Nat.lt_of_lt_of_le h (Nat.le_trans (Nat.pow_le_pow_right (by decide) hk) (by decide))
theorem ZK0 {s:List UInt8} {n:Int} (hn:n.natAbs<1000000000) (hs:∀m:Int,fmt m=s→m.natAbs<1000000000→m=n):(bif !decide (fmt n=s)then some [Dat.int 0,.bool false]else some [.int n,.bool true])=some (pI s):=by
 unfold pI
 by_cases h:fmt n=s
 ·rw[Z9V.mpr ⟨h,hn⟩,decide_eq_true h];rfl
 ·rw[decide_eq_false h,ZEO.mpr (fun m h1 h2=>h (by rw[←hs m h1 h2];exact h1))];rfl
theorem ZEW {s:List UInt8} (hs:∀m:Int,fmt m=s→¬m.natAbs<1000000000):some [Dat.int 0,.bool false]=some (pI s):=by
 unfold pI
 rw[ZEO.mpr hs]
theorem ZDO {u:List UInt8} (h:u.all Z9w=true) (hl:u.length≤9):ZGW u<1000000000:=ZGD (ZFc u h) hl
theorem ZEX (s d:List UInt8) (neg:Bool) (hd:s=if neg then 45::d else d) (hl:1≤d.length∧d.length≤9) (h45:neg=false→d.head?≠some 45):Z5f (S s) (S d) 0 (szI (S d)) 0=some (pI s):=by
 have huniq:∀m:Int,fmt m=s→d=dec m.natAbs∧(neg=true↔m<0):=fun m hm=>by
  cases neg with
  |true=>
   simp only[if_true]at hd
   by_cases h0:m<0
   ·rw[Z9S h0,hd]at hm
    exact⟨(List.cons.inj hm).2.symm,by simp[h0]⟩
   ·rw[Z9T (by omega),hd]at hm
    exact absurd (by rw[hm];rfl) (ZCZ m.natAbs)
  |false=>
   simp only[Bool.false_eq_true,if_false]at hd
   by_cases h0:m<0
   ·rw[Z9S h0,hd]at hm
    exact absurd (by rw[←hm];rfl) (h45 rfl)
   ·rw[Z9T (by omega),hd]at hm
    exact⟨hm.symm,by simp;omega⟩
 have hfin:∀n:Nat,d.all Z9w=true→n=ZGW d→(bif(ltI (szI (S d)) (szI (S s)))then(((callI tE Z5i [(.int (w64 (0-(n:Int))))])).bind (fun r0=>(bif(!(eqS (gs r0) (S s)))then(some [(.int 0),(.bool Bool.false)])else(some [(.int (w64 (0-(n:Int)))),(.bool Bool.true)]))))else(((callI tE Z5i [(.int (n:Int))])).bind (fun r0=>(bif(!(eqS (gs r0) (S s)))then(some [(.int 0),(.bool Bool.false)])else(some [(.int (n:Int)),(.bool Bool.true)])))))=some (pI s):=fun n ha hn=>by
  have hv:=ZDO ha hl.2
  have hw:w64 (0-(n:Int))= -(n:Int):=by rw[Z5a ⟨by omega,by omega⟩];omega
  rw[Z6C,Z6C,hw,Z6c ⟨by omega,by omega⟩,Z6c ⟨by omega,by omega⟩]
  simp only[ZF2,ZIy,ZCY]
  cases neg with
  |true=>
   simp only[if_true]at hd
   rw[ltT (by rw[hd];simp only[List.length_cons];omega),cond_true]
   refine ZK0 (by omega) fun m hm _=>?_
   obtain⟨q1,q2⟩:=huniq m hm
   have:m<0:=q2.mp rfl
   rw[hn,q1,ZB9];omega
  |false=>
   simp only[Bool.false_eq_true,if_false]at hd
   rw[ltF (by rw[hd];omega),cond_false]
   refine ZK0 (by omega) fun m hm _=>?_
   obtain⟨q1,q2⟩:=huniq m hm
   have:¬m<0:=fun h=>by have:=q2.mpr h;cases this
   rw[hn,q1,ZB9];omega
 have:=Z6Q (l:=d) (L:=fun(n:Nat)=>Z5f (S s) (S d) (n:Int) (szI (S d))) (F:=fun _ _=>some (pI s)) (I:=fun n u _=>u.all Z9w=true∧n=ZGW u) (by omega) (fun u c v n e hI=>by
  obtain⟨ha,hn⟩:=hI
  have hul:u.length≤9:=by have:=hl.2;rw[e]at this;simp at this;omega
  have hv:=ZDO ha hul
  have hc0:=ZIC c
  have step:Z5f (S s) (S d) (n:Int) (szI (S d)) u.length=if Z9w c then Z5f (S s) (S d) ((ZG5 n c:Nat):Int) (szI (S d)) (w64 (u.length+1))else some [.int 0,.bool false]:=by
   rw[ZA4]
   subst e
   rw[ZIw,ZIx,ZHr]
   by_cases h1:c.toNat<48
   ·rw[ltT (by omega),if_neg (by rw[ZAx];omega)];rfl
   ·rw[ltF (by omega)]
    by_cases h2:57<c.toNat
    ·rw[ltT (a:=57) (by omega),if_neg (by rw[ZAx];omega)];rfl
    ·rw[ltF (b:=(c.toNat:Int)) (by omega),ZJT (by omega) (by omega),if_pos (ZAx.mpr (by omega))];rfl
  by_cases hc:Z9w c=true
  ·refine .inl ⟨ZG5 n c,?_,⟨by simp[ha,hc],by rw[ZEN,hn];rfl⟩,rfl⟩
   show Z5f _ _ _ _ _=_
   rw[step,if_pos hc]
  ·refine .inr ?_
   show Z5f _ _ _ _ _=_
   rw[step,if_neg hc]
   refine ZEW fun m hm hb=>hc ?_
   obtain⟨q1,_⟩:=huniq m hm
   have:=ZAK m.natAbs
   rw[←q1,e]at this
   exact List.all_eq_true.mp this c (by simp)) (fun n hI=>by
  show Z5f _ _ _ _ _=_
  rw[ZA4,ZDi,cond_false]
  exact hfin n hI.1 hI.2) 0 ⟨rfl,rfl⟩
 exact this
theorem ZJ9 (c:UInt8) (s:List UInt8):ext (S (c::s)) (tn 1) (ByteArray.size (S (c::s)))=S s:=by
 rw[ZDN,ZJv]
 congr 1
 show List.drop 1 _=_
 simp
theorem ZBe (s:List UInt8) (hs:s.length<4611686018427387904):callI tE Z6E [.str (S s)]=some (pI s):=by
 rw[ZDy]
 have plain:∀t:List UInt8,t=s→s.head?≠some 45→(bif(ltI (szI (S s)) 1)then(some [(Dat.int 0),(.bool Bool.false)])else(bif(ltI 9 (szI (S s)))then(some [(.int 0),(.bool Bool.false)])else(Z5f (S s) (S s) 0 (szI (S s)) 0)))=some (pI s):=fun t ht h45=>by
  rw[Z6C]
  have key:∀m:Int,fmt m=s→m.natAbs<1000000000→1≤s.length∧s.length≤9:=fun m hm hb=>by
   by_cases h0:m<0
   ·rw[Z9S h0]at hm
    exact absurd (by rw[←hm];rfl) h45
   ·rw[Z9T (by omega)]at hm
    have h9:(dec m.natAbs).length≤9:=(Z8k 9 _ (by omega)).mpr (by omega)
    have h1:dec m.natAbs≠[]:=ZJS _
    rw[hm]at h9 h1
    exact⟨by cases s<;>simp_all,h9⟩
  by_cases h1:s.length<1
  ·rw[ltT (by omega),cond_true]
   exact ZEW fun m hm hb=>by have:=key m hm hb;omega
  ·rw[ltF (by omega),cond_false]
   by_cases h2:9<s.length
   ·rw[ltT (by omega),cond_true]
    exact ZEW fun m hm hb=>by have:=key m hm hb;omega
   ·rw[ltF (by omega),cond_false]
    have:=ZEX s s false rfl ⟨by omega,by omega⟩ (fun _=>h45)
    rw[Z6C]at this
    exact this
 cases s with
 |nil=>exact plain _ rfl (by simp)
 |cons c d=>
  rw[ltT (b:=szI (S (c::d))) (by rw[Z6C];simp only[List.length_cons];omega),ZEn (by omega) (by rw[Z6C];simp only[List.length_cons];omega),show byteAt (S (c::d)) 0=(c.toNat:Int)from ZHr [] d c]
  simp only[cond_true]
  by_cases hc:c=45
  ·subst hc
   rw[eqT (by rfl),cond_true,leT (by omega),leT (by rw[Z6C];simp only[List.length_cons];omega),ZJ9]
   simp only[Bool.and_self,cond_true]
   have key:∀m:Int,fmt m=45::d→m.natAbs<1000000000→1≤d.length∧d.length≤9:=fun m hm hb=>by
    by_cases h0:m<0
    ·rw[Z9S h0]at hm
     have hm:=(List.cons.inj hm).2
     have h9:(dec m.natAbs).length≤9:=(Z8k 9 _ (by omega)).mpr (by omega)
     have h1:dec m.natAbs≠[]:=ZJS _
     rw[hm]at h9 h1
     exact⟨by cases d<;>simp_all,h9⟩
    ·rw[Z9T (by omega)]at hm
     exact absurd (by rw[hm];rfl) (ZCZ m.natAbs)
   rw[Z6C]
   by_cases h1:d.length<1
   ·rw[ltT (by omega),cond_true]
    exact ZEW fun m hm hb=>by have:=key m hm hb;omega
   ·rw[ltF (by omega),cond_false]
    by_cases h2:9<d.length
    ·rw[ltT (by omega),cond_true]
     exact ZEW fun m hm hb=>by have:=key m hm hb;omega
    ·rw[ltF (by omega),cond_false]
     have:=ZEX (45::d) d true rfl ⟨by omega,by omega⟩ (fun h=>by cases h)
     rw[Z6C]at this
     exact this
  ·rw[show eqI (c.toNat:Int) 45=false from(ZC3 c 45).trans (decide_eq_false hc),cond_false]
   exact plain _ rfl (by simpa using hc)
def flt (s:List UInt8):List UInt8:=s.filter Z9w
theorem ZIK (s:List UInt8):(flt s).all Z9w=true:=by simp[flt]
theorem ZBf (s:List UInt8) (hs:s.length<4611686018427387904):callI tE Z5V [.str (S s)]=some (pI s):=by
 rw[ZDz]
 have hfl:∀u:List UInt8,(flt u).length≤u.length:=fun u=>List.length_filter_le _ _
 have hfin:∀(i:Int) (n k:Nat),n=ZGW (flt (s.take 11))→k=(flt (s.take 11)).length→(ltI i (szI (S s))=false∨ltI i (szI (S s))=true∧ltI i 11=false)→Z5g (S s) (n:Int) (k:Int) i=some (pI s):=fun i n k hn hk hi=>by
  have hkl:k≤11:=by have:=hfl (s.take 11);simp at this;omega
  have hv:=ZFc _ (ZIK (s.take 11))
  rw[←hn,←hk]at hv
  have hv11:n<100000000000:=Nat.lt_of_lt_of_le hv (Nat.le_trans (Nat.pow_le_pow_right (by decide) hkl) (by decide))
  have hw:w64 (0-(n:Int))= -(n:Int):=by rw[Z5a ⟨by omega,by omega⟩];omega
  have huniq:∀m:Int,fmt m=s→m.natAbs<1000000000→k≤9∧s.length≤10∧n=m.natAbs:=fun m hm hb=>by
   have h9:(dec m.natAbs).length≤9:=(Z8k 9 _ (by omega)).mpr (by omega)
   have hd:flt (dec m.natAbs)=dec m.natAbs:=List.filter_eq_self.mpr (fun c hc=>List.all_eq_true.mp (ZAK _) c hc)
   by_cases h0:m<0
   ·rw[Z9S h0]at hm
    have ht:s.take 11=s:=List.take_of_length_le (by rw[←hm];simp;omega)
    have hf:flt s=dec m.natAbs:=by rw[←hm];show flt (45::_)=_;rw[flt,List.filter_cons_of_neg (by decide)];exact hd
    rw[ht,hf]at hn hk
    refine⟨by omega,by rw[←hm];simp;omega,by rw[hn,ZB9]⟩
   ·rw[Z9T (by omega)]at hm
    have ht:s.take 11=s:=List.take_of_length_le (by rw[←hm];omega)
    rw[ht,←hm,hd]at hn hk
    refine⟨by omega,by rw[←hm];omega,by rw[hn,ZB9]⟩
  have tail:∀x:Int,I64 x→x.natAbs=n→(∀m:Int,fmt m=s→m.natAbs<1000000000→m=x)→(bif(ltI 9 (k:Int))then(some [(Dat.int 0),(.bool Bool.false)])else(bif(ltI 10 (szI (S s)))then(some [(.int 0),(.bool Bool.false)])else(((callI tE Z5N [(.int x)])).bind (fun r0=>(bif(!(eqS (gs r0) (S s)))then(some [(.int 0),(.bool Bool.false)])else(some [(.int x),(.bool Bool.true)]))))))=some (pI s):=fun x hx hxn hu=>by
   by_cases h1:9<k
   ·rw[ltT (by omega),cond_true]
    exact ZEW fun m hm hb=>by have:=huniq m hm hb;omega
   ·rw[ltF (by omega),cond_false,Z6C]
    by_cases h2:10<s.length
    ·rw[ltT (by omega),cond_true]
     exact ZEW fun m hm hb=>by have:=huniq m hm hb;omega
    ·rw[ltF (by omega),cond_false,Z6L hx]
     simp only[ZF2,ZIy,ZCY]
     exact ZK0 (by rw[hxn];exact ZGD hv (by omega)) hu
  have pos:(s.head?≠some 45)→∀m:Int,fmt m=s→m.natAbs<1000000000→m=(n:Int):=fun h45 m hm hb=>by
   have:=huniq m hm hb
   by_cases h0:m<0
   ·rw[Z9S h0]at hm
    exact absurd (by rw[←hm];rfl) h45
   ·omega
  have e:Z5g (S s) (n:Int) (k:Int) i=(bif(ltI 0 (szI (S s)))then(bif(inR 0 (szI (S s)))then(bif(eqI (byteAt (S s) 0) 45)then(bif(ltI 9 (k:Int))then(some [(.int 0),(.bool Bool.false)])else(bif(ltI 10 (szI (S s)))then(some [(.int 0),(.bool Bool.false)])else(((callI tE Z5N [(.int (w64 (0-(n:Int))))])).bind (fun r0=>(bif(!(eqS (gs r0) (S s)))then(some [(.int 0),(.bool Bool.false)])else(some [(.int (w64 (0-(n:Int)))),(.bool Bool.true)]))))))else(bif(ltI 9 (k:Int))then(some [(Dat.int 0),(.bool Bool.false)])else(bif(ltI 10 (szI (S s)))then(some [(.int 0),(.bool Bool.false)])else(((callI tE Z5N [(.int (n:Int))])).bind (fun r0=>(bif(!(eqS (gs r0) (S s)))then(some [(.int 0),(.bool Bool.false)])else(some [(.int (n:Int)),(.bool Bool.true)])))))))else none)else(bif(ltI 9 (k:Int))then(some [(Dat.int 0),(.bool Bool.false)])else(bif(ltI 10 (szI (S s)))then(some [(.int 0),(.bool Bool.false)])else(((callI tE Z5N [(.int (n:Int))])).bind (fun r0=>(bif(!(eqS (gs r0) (S s)))then(some [(.int 0),(.bool Bool.false)])else(some [(.int (n:Int)),(.bool Bool.true)]))))))):=by
   rw[ZA5]
   rcases hi with hi|⟨hi,hi2⟩
   ·rw[hi];rfl
   ·rw[hi,hi2];rfl
  rw[e]
  cases s with
  |nil=>exact tail n ⟨by omega,by omega⟩ (by omega) (pos (by simp))
  |cons c d=>
   rw[ltT (b:=szI (S (c::d))) (by rw[Z6C];simp only[List.length_cons];omega),ZEn (by omega) (by rw[Z6C];simp only[List.length_cons];omega),show byteAt (S (c::d)) 0=(c.toNat:Int)from ZHr [] d c]
   simp only[cond_true]
   by_cases hc:c=45
   ·subst hc
    rw[eqT (by rfl),cond_true,hw]
    refine tail _ ⟨by omega,by omega⟩ (by omega) fun m hm hb=>?_
    have:=huniq m hm hb
    by_cases h0:m<0
    ·omega
    ·rw[Z9T (by omega)]at hm
     exact absurd (by rw[hm];rfl) (ZCZ m.natAbs)
   ·rw[show eqI (c.toNat:Int) 45=false from(ZC3 c 45).trans (decide_eq_false hc),cond_false]
    exact tail n ⟨by omega,by omega⟩ (by omega) (pos (by simpa using hc))
 have hsplit:s=s.take 11++s.drop 11:=(List.take_append_drop 11 s).symm
 have htl:(s.take 11).length≤11:=by simp;omega
 have:=Z6Q (l:=s.take 11) (L:=fun(p:Nat×Nat)=>Z5g (S s) (p.1:Int) (p.2:Int)) (F:=fun _ _=>some (pI s)) (I:=fun p u _=>p.1=ZGW (flt u)∧p.2=(flt u).length) (by omega) (fun u c v p e hI=>by
  obtain⟨n,k⟩:=p
  obtain⟨hn,hk⟩:=hI
  simp only at hn hk
  have hs':s=u++c::(v++s.drop 11):=by
   have h0:=hsplit
   rw[e,List.append_assoc,List.cons_append]at h0
   exact h0
  have hul:u.length<11:=by have:=htl;rw[e]at this;simp at this;omega
  have hkl:k≤u.length:=by rw[hk];exact hfl u
  have hv:=ZFc _ (ZIK u)
  rw[←hn,←hk]at hv
  have hv11:n<100000000000:=Nat.lt_of_lt_of_le hv (Nat.le_trans (Nat.pow_le_pow_right (by decide) (show k≤11 by omega)) (by decide))
  have hc0:=ZIC c
  have step:Z5g (S s) (n:Int) (k:Int) u.length=if Z9w c then Z5g (S s) ((ZG5 n c:Nat):Int) ((k+1:Nat):Int) (w64 (u.length+1))else Z5g (S s) (n:Int) (k:Int) (w64 (u.length+1)):=by
   rw[ZA5,hs',ZIw,ZIx,ZHr,ltT (by omega)]
   by_cases h1:c.toNat<48
   ·rw[leF (by omega),if_neg (by rw[ZAx];omega)];rfl
   ·rw[leT (a:=48) (by omega)]
    by_cases h2:57<c.toNat
    ·rw[leF (a:=(c.toNat:Int)) (by omega),if_neg (by rw[ZAx];omega)];rfl
    ·rw[leT (a:=(c.toNat:Int)) (by omega),ZJx hv11 (by omega),if_pos (ZAx.mpr (by omega)),Z7X (i:=k) (by omega)];rfl
  by_cases hc:Z9w c=true
  ·refine .inl ⟨(ZG5 n c,k+1),?_,⟨?_,?_⟩,rfl⟩
   ·show Z5g _ _ _ _=_
    rw[step,if_pos hc]
   ·show ZG5 n c=ZGW (flt (u++[c]))
    rw[flt,List.filter_append,List.filter_cons_of_pos hc,List.filter_nil,ZEN,hn];rfl
   ·show k+1=(flt (u++[c])).length
    rw[flt,List.filter_append,List.filter_cons_of_pos hc,List.filter_nil,List.length_append,hk];rfl
  ·refine .inl ⟨(n,k),?_,⟨?_,?_⟩,rfl⟩
   ·show Z5g _ _ _ _=_
    rw[step,if_neg hc]
   ·show n=ZGW (flt (u++[c]))
    rw[flt,List.filter_append,List.filter_cons_of_neg hc,List.filter_nil,List.append_nil,hn];rfl
   ·show k=(flt (u++[c])).length
    rw[flt,List.filter_append,List.filter_cons_of_neg hc,List.filter_nil,List.append_nil,hk];rfl) (fun p hI=>by
  obtain⟨n,k⟩:=p
  refine hfin _ n k hI.1 hI.2 ?_
  by_cases h:s.length≤11
  ·left;rw[List.take_of_length_le h];exact ZDi s
  ·right;exact⟨ltT (by rw[Z6C,List.length_take];omega),ltF (by rw[List.length_take];omega)⟩) (0,0) ⟨rfl,rfl⟩
 exact this
theorem ZGa (u cur v:List UInt8):ext (S (u++cur++v)) u.length (u++cur).length=S cur:=by
 rw[ZJv]
 congr 1
 rw[List.append_assoc,←List.append_assoc u cur v,List.take_left' rfl,List.drop_left' rfl]
theorem ZBB (l:List (List UInt8)) (x:List UInt8):List.append (l.map StE) [[Dat.str (S x)]]=(l++[x]).map StE:=by simp[StE]
structure ZL2 where
 out:List (List UInt8)
 frm:Nat
def ZL3 (b:UInt8) (s:List UInt8) (x:ZL2) (u v:List UInt8):Prop:=x.frm≤u.length∧x.out.length≤u.length∧x.out++ZAG b (u.drop x.frm) v=Z6O b s
theorem ZHE {b:UInt8} {s u v:List UInt8} {c:UInt8} {x:ZL2} (h:ZL3 b s x u (c::v)):ZL3 b s (if c=b then⟨x.out++[u.drop x.frm],u.length+1⟩else x) (u++[c]) v:=by
 obtain⟨h1,h2,h3⟩:=h
 unfold ZAG at h3
 split
 ·rename_i hc
  rw[if_pos hc]at h3
  refine⟨by simp,by simp;omega,?_⟩
  rw[←h3]
  simp only[List.append_assoc,List.singleton_append]
  rw[show List.drop (u.length+1) (u++[c])=[]from List.drop_eq_nil_of_le (by simp)]
 ·rename_i hc
  rw[if_neg hc]at h3
  refine⟨by simp;omega,by simp;omega,?_⟩
  rw[←h3,List.drop_append_of_le_length h1]
theorem ZDq {s u v:List UInt8} {k:Nat} (hs:s=u++v) (h:k≤u.length):ext (S s) k u.length=S (u.drop k):=by
 rw[ZJv,hs,List.take_left' rfl]
theorem ZKc (b:UInt8) (s:List UInt8) (h:s.length<1099511627776):callI tE Z8m [.str (S s),.int (b.toNat:Int)]=some [.sl ((Z6O b s).map StE)]:=by
 rw[ZHZ]
 have:=Z6Q (l:=s) (L:=fun(x:ZL2) i=>Z7a (S s) (b.toNat:Int) (x.frm:Int) (szI (S s)) i (x.out.map StE)) (F:=fun _ _=>some [.sl ((Z6O b s).map StE)]) (I:=ZL3 b s) (by omega) (fun u c v x e hI=>by
  have hul:u.length<1099511627776:=by rw[e]at h;simp at h;omega
  obtain⟨h1,h2,h3⟩:=hI
  refine .inl ⟨_,?_,ZHE ⟨h1,h2,h3⟩,rfl⟩
  show Z7a _ _ _ _ _ _=Z7a _ _ _ _ _ _
  rw[ZBV]
  have hle:(u.length:Int)≤szI (S s):=by rw[Z6C,e];simp only[List.length_append,List.length_cons];omega
  have q1:ltI (u.length:Int) (szI (S s))=true:=by rw[e];exact ZIw u v c
  have q2:inR (u.length:Int) (szI (S s))=true:=by rw[e];exact ZIx u v c
  have q3:byteAt (S s) (u.length:Int)=(c.toNat:Int):=by rw[e];exact ZHr u v c
  rw[q1,q2,q3,ZC3]
  by_cases hc:c=b
  ·rw[decide_eq_true hc,if_pos hc,ZJk (by omega) (by omega) hle,Z5h,show fitM (Nat.succ x.out.length) 16=true from Z8v (by omega),Z7X (by omega),Z7W,Z7W,ZDq e h1,ZBB]
   rfl
  ·rw[decide_eq_false hc,if_neg hc];rfl) (fun x hI=>by
  obtain⟨h1,h2,h3⟩:=hI
  show Z7a _ _ _ _ _ _=_
  rw[ZBV,ZDi,cond_false,leT (a:=0) (by omega),leT (b:=szI (S s)) (by rw[Z6C];omega),Z5h,show fitM (Nat.succ x.out.length) 16=true from Z8v (by omega),Z7W,ZDN,ZDq (v:=[]) (by simp) h1,ZBB,←h3]
  rfl) ⟨[],0⟩ ⟨by simp,by simp,rfl⟩
 exact this
theorem ZKd (b:UInt8) (s:List UInt8) (h:s.length<1099511627776):callI tE Z77 [.str (S s),.int (b.toNat:Int)]=some [.sl ((Z6O b s).map StE)]:=by
 rw[ZFu]
 have:=Z6Q (l:=s) (L:=fun(x:ZL2) i=>Z6r (S s) (b.toNat:Int) (x.frm:Int) i (x.out.map StE)) (F:=fun _ _=>some [.sl ((Z6O b s).map StE)]) (I:=ZL3 b s) (by omega) (fun u c v x e hI=>by
  have hul:u.length<1099511627776:=by rw[e]at h;simp at h;omega
  obtain⟨h1,h2,h3⟩:=hI
  refine .inl ⟨_,?_,ZHE ⟨h1,h2,h3⟩,rfl⟩
  show Z6r _ _ _ _ _=Z6r _ _ _ _ _
  rw[ZAp]
  have hle:(u.length:Int)≤szI (S s):=by rw[Z6C,e];simp only[List.length_append,List.length_cons];omega
  have q1:ltI (u.length:Int) (szI (S s))=true:=by rw[e];exact ZIw u v c
  have q2:inR (u.length:Int) (szI (S s))=true:=by rw[e];exact ZIx u v c
  have q3:byteAt (S s) (u.length:Int)=(c.toNat:Int):=by rw[e];exact ZHr u v c
  rw[q1,q2,q3,ZC3]
  by_cases hc:c=b
  ·rw[decide_eq_true hc,if_pos hc,ZJk (by omega) (by omega) hle,Z5h,show fitM (Nat.succ x.out.length) 16=true from Z8v (by omega),Z7X (by omega),Z7W,Z7W,ZDq e h1,ZBB]
   rfl
  ·rw[decide_eq_false hc,if_neg hc];rfl) (fun x hI=>by
  obtain⟨h1,h2,h3⟩:=hI
  show Z6r _ _ _ _ _=_
  rw[ZAp,ZDi,cond_false,leT (a:=0) (by omega),leT (b:=szI (S s)) (by rw[Z6C];omega),Z5h,show fitM (Nat.succ x.out.length) 16=true from Z8v (by omega),Z7W,ZDN,ZDq (v:=[]) (by simp) h1,ZBB,←h3]
  rfl) ⟨[],0⟩ ⟨by simp,by simp,rfl⟩
 exact this
theorem ZGb (b:List UInt8) (u:List (List UInt8)) (x:List UInt8):Z7k b (u++[x])=if u=[]then x else Z7k b u++b++x:=by
 split
 ·rename_i h;subst h;rfl
 ·rename_i h;exact ZF9 b u x h
theorem ZGc (b:List UInt8) (l:List (List UInt8)) (hl:l.length<4611686018427387904) (h:(l.map fun x=>x.length+b.length).sum<4611686018427387904):callI tE Z8B [.sl (l.map StE),.str (S b)]=some [.str (S (Z7k b l))]:=by
 rw[ZFM]
 have:=Z6Q (l:=l) (L:=fun s i=>Z6f (S b) (S s) (l.map StE) (lenI (l.map StE)) i) (F:=fun _ _=>some [.str (S (Z7k b l))]) (I:=fun s u _=>s=Z7k b u) (by omega) (fun u x v s e hI=>by
  refine .inl ⟨Z7k b (u++[x]),?_,rfl,rfl⟩
  show Z6f _ _ _ _ _=Z6f _ _ _ _ _
  have hb:(Z7k b u).length+(x.length+b.length)<4611686018427387904:=by
   have:=ZCa b u
   rw[e]at h
   simp only[List.map_append,List.map_cons,List.sum_append,List.sum_cons]at h
   omega
  subst e
  rw[ZAb,ZGb,hI]
  simp only[ZEo,ZEp,Z7W,ZDl,cond_true,StE,ZIy]
  by_cases hu:u=[]
  ·subst hu
   rw[if_pos rfl,ltF (by simp),cond_false,Z61 (by simp[Z7k];omega),Z6t]
   rfl
  ·have hul:0<u.length:=List.length_pos_iff.mpr hu
   rw[if_neg hu,ltT (by omega),Z61 (by omega),Z6t,Z61 (by rw[List.length_append];omega),Z6t]
   rfl) (fun s hs=>by
  show Z6f _ _ _ _ _=_
  rw[ZAb,ZE7,cond_false,hs]) [] rfl
 exact this
section
variable {α:Type}
open Classical in
noncomputable def unf (P:α→Prop) (f:α→List UInt8) (s:List UInt8):Option α:=if h:∃a,P a∧f a=s then some h.choose else none
theorem ZDr {P:α→Prop} {f:α→List UInt8} (inj:∀a b,P a→P b→f a=f b→a=b) {s:List UInt8} {a:α}:unf P f s=some a↔P a∧f a=s:=by
 unfold unf
 constructor
 ·intro h
  split at h
  ·rename_i hx;cases h;exact hx.choose_spec
  ·cases h
 ·intro h
  have hx:∃a,P a∧f a=s:=⟨a,h⟩
  rw[dif_pos hx]
  exact congrArg some (inj _ _ hx.choose_spec.1 h.1 (hx.choose_spec.2.trans h.2.symm))
theorem ZDs {P:α→Prop} {f:α→List UInt8} {s:List UInt8}:unf P f s=none↔∀a,P a→f a≠s:=by
 unfold unf
 constructor
 ·intro h a h1 h2
  rw[dif_pos ⟨a,h1,h2⟩]at h;cases h
 ·intro h
  rw[dif_neg]
  rintro ⟨a,h1,h2⟩
  exact h a h1 h2
end
theorem Z8c {b:UInt8} (hb:Z9w b=false) (h45:b≠45) (n:Int):b∉fmt n:=fun h=>by
 rcases ZG6 b h with h|h
 ·rw[hb]at h;cases h
 ·exact h45 h
noncomputable def num (s:List UInt8):Int:=(ZBa s).getD 0
noncomputable def isN (s:List UInt8):Bool:=(ZBa s).isSome
theorem ZHf (s:List UInt8):pI s=[.int (num s),.bool (isN s)]:=by
 unfold pI num isN
 cases ZBa s<;>rfl
theorem ZEY {s:List UInt8} (h:isN s=true):fmt (num s)=s∧(num s).natAbs<1000000000:=by
 unfold isN at h
 cases hp:ZBa s with
 |none=>rw[hp]at h;cases h
 |some n=>
  have:=Z9V.mp hp
  unfold num
  rw[hp]
  exact this
theorem Z9y {n:Int} (h:n.natAbs<1000000000):num (fmt n)=n∧isN (fmt n)=true:=by
 unfold num isN;rw[ZHc h];exact⟨rfl,rfl⟩
theorem ZJW (s:List UInt8):(num s).natAbs<1000000000:=by
 unfold num
 cases hp:ZBa s with
 |none=>decide
 |some n=>exact(Z9V.mp hp).2
theorem ZEZ (s:List UInt8):I64 (num s):=by have:=ZJW s;exact⟨by omega,by omega⟩
theorem ZLP:tn 0=0:=rfl
theorem ZLQ:tn 1=1:=rfl
theorem ZLR:tn 2=2:=rfl
theorem ZEa {α:Type} (e:α→List Dat) (l:List α) (n:Nat):eqI (lenI (l.map e)) (n:Int)=decide (l.length=n):=by
 unfold eqI;rw[Z5L];congr 1;apply propext;omega
theorem ZKe {α:Type} {l:List α} (h:l.length=3):∃a b c,l=[a,b,c]:=by
 match l,h with
 |[a,b,c],_=>exact⟨a,b,c,rfl⟩
theorem ZKf {α:Type} {l:List α} (h:l.length=2):∃a b,l=[a,b]:=by
 match l,h with
 |[a,b],_=>exact⟨a,b,rfl⟩
def ZBO (r:Rw):List UInt8:=if r.ok then Z7k [46] [fmt r.k,fmt r.v,fmt r.w]else[]
theorem ZEb {r:Rw} (h:r.ok=true):ZBO r=Z7k [46] [fmt r.k,fmt r.v,fmt r.w]:=if_pos h
theorem ZFf {r:Rw} (h:r.ok=false):ZBO r=[]:=if_neg (by simp[h])
theorem ZGE {r:Rw} (h:r.ok=true):I64 r.k∧I64 r.v∧I64 r.w∧r.k.natAbs<1000000000∧r.v.natAbs<1000000000∧r.w.natAbs<1000000000:=by
 have:=Rw.ok_iff.mp h
 exact⟨⟨by omega,by omega⟩,⟨by omega,by omega⟩,⟨by omega,by omega⟩,by omega,by omega,by omega⟩
theorem ZD9 (b x y z:List UInt8):Z7k b [x,y,z]=x++b++y++b++z:=by simp[Z7k]
theorem ZHF (r:Rw):(ZBO r).length≤62:=by
 unfold ZBO
 split
 ·rename_i h
  obtain⟨h1,h2,h3,_⟩:=ZGE h
  have a1:=Z6k h1
  have a2:=Z6k h2
  have a3:=Z6k h3
  rw[ZD9];simp;omega
 ·simp
theorem ZCc {r:Rw} (h:r.ok=true):Z6O 46 (ZBO r)=[fmt r.k,fmt r.v,fmt r.w]:=by
 rw[ZEb h]
 refine ZBp 46 _ (by simp) fun x hx=>?_
 simp only[List.mem_cons,List.not_mem_nil,or_false]at hx
 rcases hx with rfl|rfl|rfl<;>exact Z8c (by decide) (by decide) _
theorem ZHG (a b:Rw) (ha:a.ok=true) (hb:b.ok=true) (h:ZBO a=ZBO b):a=b:=by
 have e1:=ZCc ha
 rw[h,ZCc hb]at e1
 simp only[List.cons.injEq,and_true]at e1
 exact Rw.eq_of (Z9U e1.1).symm (Z9U e1.2.1).symm (Z9U e1.2.2).symm
theorem ZK1 {r:Rw} (h:r.ok=true):ZBO r≠[]:=by
 rw[ZEb h,ZD9];simp
theorem ZFB {b:UInt8} (hb:Z9w b=false) (h45:b≠45) (h46:b≠46) (r:Rw):b∉ZBO r:=by
 unfold ZBO
 split
 ·rw[ZD9]
  simp only[List.mem_append,List.mem_singleton,not_or]
  exact⟨⟨⟨⟨Z8c hb h45 _,h46⟩,Z8c hb h45 _⟩,h46⟩,Z8c hb h45 _⟩
 ·simp
theorem ZHg (r:Rw):callI tE Z9s [.int r.k,.int r.v,.int r.w]=some [.str (S (ZBO r))]:=by
 simp only[ZDV,ZCL,gA]
 cases h:r.ok
 ·rw[ZFf h];rfl
 ·obtain⟨h1,h2,h3,_⟩:=ZGE h
  have a1:=Z6k h1
  have a2:=Z6k h2
  have a3:=Z6k h3
  simp only[Bool.not_true,cond_false,Z6c h1,Z6c h2,Z6c h3,gA]
  rw[Z61 (by simp;omega),Z6t,Z61 (by simp;omega),Z6t,Z61 (by simp;omega),Z6t,Z61 (by simp;omega),Z6t,ZEb h,ZD9]
  rfl
theorem ZFC (r:Rw):callI tE Z7n [.int r.k,.int r.v,.int r.w]=some [.str (S (ZBO r))]:=by
 simp only[ZDZ,ZEB,gA]
 cases h:r.ok
 ·rw[ZFf h];rfl
 ·obtain⟨h1,h2,h3,_⟩:=ZGE h
  have a1:=Z6k h1
  have a2:=Z6k h2
  have a3:=Z6k h3
  simp only[Bool.not_true,cond_false,Z6L h1,Z6L h2,Z6L h3,gA]
  rw[Z61 (by simp;omega),Z6t,Z61 (by simp;omega),Z6t,Z61 (by simp;omega),Z6t,Z61 (by simp;omega),Z6t,ZEb h,ZD9]
  rfl
noncomputable def ZBL (s:List UInt8):Option Rw:=unf (fun r:Rw=>r.ok=true) ZBO s
theorem ZBC {s:List UInt8} {r:Rw}:ZBL s=some r↔r.ok=true∧ZBO r=s:=ZDr ZHG
theorem ZBD {s:List UInt8}:ZBL s=none↔∀r:Rw,r.ok=true→ZBO r≠s:=ZDs
noncomputable def pR (s:List UInt8):List Dat:=match ZBL s with
 |some r=>[.int r.k,.int r.v,.int r.w,.bool true]
 |none=>[.int 0,.int 0,.int 0,.bool false]
theorem ZKg {s:List UInt8} (h:(Z6O 46 s).length≠3):pR s=[.int 0,.int 0,.int 0,.bool false]:=by
 unfold pR
 rw[ZBD.mpr fun r hr e=>h (by rw[←e,ZCc hr];rfl)]
theorem ZLe {s a b c:List UInt8} (h:Z6O 46 s=[a,b,c]):pR s=bif isN a&&(isN b&&(isN c&&(⟨num a,num b,num c⟩:Rw).ok))then[.int (num a),.int (num b),.int (num c),.bool true]else[.int 0,.int 0,.int 0,.bool false]:=by
 have hs:Z7k [46] [a,b,c]=s:=by rw[←h];exact ZDo 46 s
 unfold pR
 cases hb:isN a&&(isN b&&(isN c&&(⟨num a,num b,num c⟩:Rw).ok))
 ·rw[ZBD.mpr fun r hr e=>?_]
  ·rfl
  ·have e2:=ZCc hr
   rw[e,h]at e2
   simp only[List.cons.injEq,and_true]at e2
   obtain⟨rfl,rfl,rfl⟩:=e2
   obtain⟨_,_,_,q1,q2,q3⟩:=ZGE hr
   obtain⟨u1,u2⟩:=Z9y q1
   obtain⟨u3,u4⟩:=Z9y q2
   obtain⟨u5,u6⟩:=Z9y q3
   rw[u1,u2,u3,u4,u5,u6]at hb
   have:(⟨r.k,r.v,r.w⟩:Rw)=r:=rfl
   rw[this,hr]at hb
   cases hb
 ·simp only[Bool.and_eq_true]at hb
  obtain⟨h1,h2,h3,h4⟩:=hb
  rw[ZBC.mpr ⟨h4,by rw[ZEb h4];simp only[(ZEY h1).1,(ZEY h2).1,(ZEY h3).1];exact hs⟩]
  rfl
theorem ZIL (s:List UInt8) (hs:s.length<1099511627776):callI tE ZAM [.str (S s)]=some (pR s):=by
 rw[ZE2]
 have hc:=ZKc 46 s hs
 rw[show((46:UInt8).toNat:Int)=46 from rfl]at hc
 simp only[hc,gA]
 rw[show eqI (lenI ((Z6O 46 s).map StE)) 3=decide ((Z6O 46 s).length=3)from ZEa StE _ 3]
 by_cases h3:(Z6O 46 s).length=3
 ·rw[decide_eq_true h3]
  obtain⟨a,b,c,hl⟩:=ZKe h3
  have la:a.length<4611686018427387904:=by have:=Z7K (b:=46) (s:=s) (x:=a) (by rw[hl];simp);omega
  have lb:b.length<4611686018427387904:=by have:=Z7K (b:=46) (s:=s) (x:=b) (by rw[hl];simp);omega
  have lc:c.length<4611686018427387904:=by have:=Z7K (b:=46) (s:=s) (x:=c) (by rw[hl];simp);omega
  rw[ZLe hl,hl]
  simp only[List.map_cons,List.map_nil,StE,ZLP,ZLQ,ZLR,gA,ZBe a la,ZBe b lb,ZBe c lc,ZHf,ZCL ⟨num a,num b,num c⟩,Bool.not_true,cond_false,ZHp]
  cases isN a<;>cases isN b<;>cases isN c<;>cases(⟨num a,num b,num c⟩:Rw).ok<;>rfl
 ·rw[decide_eq_false h3,ZKg h3];rfl
theorem ZIM (s:List UInt8) (hs:s.length<1099511627776):callI tE ZAN [.str (S s)]=some (pR s):=by
 rw[ZE3]
 have hc:=ZKd 46 s hs
 rw[show((46:UInt8).toNat:Int)=46 from rfl]at hc
 simp only[hc,gA]
 rw[show eqI (lenI ((Z6O 46 s).map StE)) 3=decide ((Z6O 46 s).length=3)from ZEa StE _ 3]
 by_cases h3:(Z6O 46 s).length=3
 ·rw[decide_eq_true h3]
  obtain⟨a,b,c,hl⟩:=ZKe h3
  have la:a.length<4611686018427387904:=by have:=Z7K (b:=46) (s:=s) (x:=a) (by rw[hl];simp);omega
  have lb:b.length<4611686018427387904:=by have:=Z7K (b:=46) (s:=s) (x:=b) (by rw[hl];simp);omega
  have lc:c.length<4611686018427387904:=by have:=Z7K (b:=46) (s:=s) (x:=c) (by rw[hl];simp);omega
  have hsj:Z7k [46] [a,b,c]=s:=by rw[←hl];exact ZDo 46 s
  have hne:s≠[]:=by rw[←hsj,ZD9];simp
  rw[hl]
  simp only[List.map_cons,List.map_nil,StE,ZLP,ZLQ,ZLR,gA,ZBf a la,ZBf b lb,ZBf c lc,ZHf,ZFC ⟨num a,num b,num c⟩,Bool.not_true,cond_false,ZHp,ZCY]
  show(bif decide (ZBO ⟨num a,num b,num c⟩=s)then some [Dat.int (num a),.int (num b),.int (num c),.bool true]else some [.int 0,.int 0,.int 0,.bool false])=some (pR s)
  unfold pR
  by_cases he:ZBO ⟨num a,num b,num c⟩=s
  ·rw[decide_eq_true he]
   have hok:(⟨num a,num b,num c⟩:Rw).ok=true:=by
    cases h:(⟨num a,num b,num c⟩:Rw).ok with
    |true=>rfl
    |false=>rw[ZFf h]at he;exact absurd he.symm hne
   rw[ZBC.mpr ⟨hok,he⟩];rfl
  ·rw[decide_eq_false he,ZBD.mpr fun r hr e=>he ?_]
   ·rfl
   ·have e2:=ZCc hr
    rw[e,hl]at e2
    simp only[List.cons.injEq,and_true]at e2
    obtain⟨rfl,rfl,rfl⟩:=e2
    obtain⟨_,_,_,q1,q2,q3⟩:=ZGE hr
    rw[(Z9y q1).1,(Z9y q2).1,(Z9y q3).1]
    exact e
 ·rw[decide_eq_false h3,ZKg h3];rfl
def ZBP (l:List Rw):List UInt8:=Z7k [32] (l.map ZBO)
def Z6l (l:List Rw):List UInt8:=if aok l then ZBP l else[]
theorem Z9G {l:List Rw} (h:aok l=true):Z6l l=ZBP l:=if_pos h
theorem ZGF {l:List Rw} (h:aok l=false):Z6l l=[]:=if_neg (by simp[h])
theorem ZIN (l:List Rw):((l.map ZBO).map fun x=>x.length+[(32:UInt8)].length).sum≤63*l.length:=by
 induction l with
 |nil=>simp
 |cons a l ih=>
  have:=ZHF a
  simp only[List.map_cons,List.sum_cons,List.length_cons,List.length_nil]at ih⊢
  omega
theorem ZGG (l:List Rw):(ZBP l).length≤63*l.length:=Nat.le_trans (ZCa _ _) (ZIN l)
theorem Z72 (l:List Rw):(Z6l l).length≤1512:=by
 unfold Z6l
 split
 ·rename_i h;have:=Z6i h;have:=ZGG l;omega
 ·simp
theorem ZEc {l:List Rw} (h:l≠[]):Z6O 32 (ZBP l)=l.map ZBO:=by
 refine ZBp 32 _ (by simpa using h) fun x hx=>?_
 obtain⟨r,_,rfl⟩:=List.mem_map.mp hx
 exact ZFB (by decide) (by decide) (by decide) r
theorem ZDP:∀{l m:List Rw},(∀r∈l,r.ok=true)→(∀r∈m,r.ok=true)→l.map ZBO=m.map ZBO→l=m
 |[],[],_,_,_=>rfl
 |[],_::_,_,_,h=>by simp at h
 |_::_,[],_,_,h=>by simp at h
 |a::l,b::m,h1,h2,h=>by
  simp only[List.map_cons,List.cons.injEq]at h
  rw[ZHG a b (h1 a (by simp)) (h2 b (by simp)) h.1,ZDP (fun r hr=>h1 r (by simp[hr])) (fun r hr=>h2 r (by simp[hr])) h.2]
theorem ZEd {l:List Rw} (ha:∀r∈l,r.ok=true) (h:ZBP l=[]):l=[]:=by
 cases l with
 |nil=>rfl
 |cons a l=>
  have h1:=ZK1 (ha a (by simp))
  cases l with
  |nil=>exact absurd h h1
  |cons b l=>
   have:ZBP (a::b::l)=ZBO a++[32]++ZBP (b::l):=Z8r (by simp)
   rw[this]at h
   simp at h
theorem ZGH {l m:List Rw} (h1:∀r∈l,r.ok=true) (h2:∀r∈m,r.ok=true) (h:ZBP l=ZBP m):l=m:=by
 by_cases hl:l=[]
 ·subst hl
  exact(ZEd h2 h.symm).symm
 ·by_cases hm:m=[]
  ·subst hm;exact ZEd h1 h
  ·have e:=ZEc hl
   rw[h,ZEc hm]at e
   exact(ZDP h2 h1 e).symm
theorem ZIO (l m:List Rw) (h1:aok l=true) (h2:aok m=true) (h:Z6l l=Z6l m):l=m:=by
 rw[Z9G h1,Z9G h2]at h
 exact ZGH (ZEC h1) (ZEC h2) h
noncomputable def ZBE (s:List UInt8):Option (List Rw):=unf (fun l=>aok l=true) Z6l s
theorem Z9m {s:List UInt8} {l:List Rw}:ZBE s=some l↔aok l=true∧Z6l l=s:=ZDr ZIO
theorem ZDQ {s:List UInt8}:ZBE s=none↔∀l:List Rw,aok l=true→Z6l l≠s:=ZDs
noncomputable def pRs (s:List UInt8):List Dat:=match ZBE s with
 |some l=>[.sl (l.map Rw.e),.bool true]
 |none=>[.sl [],.bool false]
theorem ZIP:pRs []=[.sl [],.bool true]:=by
 unfold pRs
 rw[show ZBE []=some []from Z9m.mpr ⟨rfl,rfl⟩];rfl
theorem ZK2 (u:List (List UInt8)) (r:Rw):List.append (u.map StE) [[Dat.str (S (ZBO r))]]=(u++[ZBO r]).map StE:=by simp[StE]
theorem ZK3 {l:List Rw} (h:l.length<1099511627776):((l.map ZBO).map fun x=>x.length+[(32:UInt8)].length).sum<4611686018427387904:=by
 have:=ZIN l;omega
theorem ZCd (l:List Rw) (h:l.length<1099511627776):callI tE Z6x [.sl (l.map Rw.e)]=some [.str (S (ZBP l))]:=by
 rw[ZDx]
 have:=Z6Q (l:=l) (L:=fun(s:List (List UInt8)) i=>Z6W (l.map Rw.e) (lenI (l.map Rw.e)) i (s.map StE)) (F:=fun _ _=>some [.str (S (ZBP l))]) (I:=fun s u _=>s=u.map ZBO) (by omega) (fun u r v s e hI=>by
  have hul:u.length<1099511627776:=by rw[e]at h;simp at h;omega
  refine .inl ⟨(u++[r]).map ZBO,?_,rfl,rfl⟩
  show Z6W _ _ _ _=Z6W _ _ _ _
  subst e
  rw[ZA3,hI]
  simp only[ZEo,ZEp,Z7W,ZDl,cond_true,Rw.e,gA,ZHg,Z5h]
  rw[show fitM (Nat.succ (u.map ZBO).length) 16=true from Z8v (by simp;omega),ZK2]
  simp) (fun s hs=>by
  show Z6W _ _ _ _=_
  rw[ZA3,ZE7,cond_false,hs,ZGc [32] (l.map ZBO) (by simp;omega) (ZK3 h)];rfl) [] rfl
 exact this
theorem ZEe (l:List Rw):callI tE Z8C [.sl (l.map Rw.e)]=some [.str (S (Z6l l))]:=by
 simp only[ZCm,ZAq,gA]
 cases h:aok l
 ·rw[ZGF h];rfl
 ·have:=Z6i h
  rw[Bool.not_true,cond_false,ZCd l (by omega),Z9G h];rfl
theorem Z9X (l:List Rw) (h:l.length<1099511627776):callI tE Z5q [.sl (l.map Rw.e)]=some [.str (S (Z6l l))]:=by
 rw[ZCq]
 cases hok:aok l
 ·rw[ZGF hok,Z7s,Z9h l (by omega),hok]
  cases ltI 0 (lenI (l.map Rw.e))<;>rfl
 ·rw[Z9G hok]
  have:=Z6Q (l:=l) (L:=fun s i=>Z5y (l.map Rw.e) (S s) i) (F:=fun _ _=>some [.str (S (ZBP l))]) (I:=fun s u _=>s=ZBP u) (by omega) (fun u r v s e hI=>by
   refine .inl ⟨ZBP (u++[r]),?_,rfl,rfl⟩
   show Z5y _ _ _=Z5y _ _ _
   have hul:u.length<1099511627776:=by rw[e]at h;simp at h;omega
   have l1:=ZGG u
   have l2:=ZHF r
   rw[Z7s,Z9h l (by omega),hok]
   subst e
   simp only[ZEo,ZEp,Z7W,ZDl,cond_true,Rw.e,gA,ZFC,hI]
   unfold ZBP at*
   have e1:(u++[r]).map ZBO=u.map ZBO++[ZBO r]:=by simp
   rw[e1,ZGb]
   by_cases hu:u=[]
   ·subst hu
    rw[if_pos (by rfl),ltF (by simp),cond_false,Z61 (by simp[Z7k];omega),Z6t];rfl
   ·have hul:0<u.length:=List.length_pos_iff.mpr hu
    rw[if_neg (by simpa using hu),ltT (by omega),Z61 (by simp;omega),Z6t,Z61 (by simp;omega),Z6t];rfl) (fun s hs=>by
   show Z5y _ _ _=_
   rw[Z7s,ZE7,cond_false,hs]) [] rfl
  exact this
theorem ZHH {s x:List UInt8} {u v:List (List UInt8)} (hne:s≠[]) (e:Z6O 32 s=u++x::v) (h:ZBL x=none):pRs s=[.sl [],.bool false]:=by
 unfold pRs
 rw[ZDQ.mpr fun l hl he=>?_]
 rw[Z9G hl]at he
 have hl0:l≠[]:=by rintro rfl;exact hne he.symm
 have e2:=ZEc hl0
 rw[he,e]at e2
 have hx:x∈l.map ZBO:=by rw[←e2];simp
 obtain⟨r,hr,rfl⟩:=List.mem_map.mp hx
 exact ZBD.mp h r (ZEC hl r hr) rfl
theorem ZIQ {s:List UInt8} {out:List Rw} (hne:s≠[]) (e:Z6O 32 s=out.map ZBO) (ha:∀r∈out,r.ok=true):(bif aok out then some [Dat.sl (out.map Rw.e),.bool true]else some [.sl [],.bool false])=some (pRs s):=by
 have hs:ZBP out=s:=by unfold ZBP;rw[←e];exact ZDo 32 s
 unfold pRs
 cases h:aok out
 ·rw[ZDQ.mpr fun l hl he=>?_]
  ·rfl
  ·rw[Z9G hl,←hs]at he
   rw[ZGH (ZEC hl) ha he,h]at hl
   cases hl
 ·rw[Z9m.mpr ⟨h,by rw[Z9G h];exact hs⟩];rfl
theorem ZIR {x:List UInt8} {r:Rw} (h:ZBL x=some r):pR x=[.int r.k,.int r.v,.int r.w,.bool true]:=by unfold pR;rw[h]
theorem ZIS {x:List UInt8} (h:ZBL x=none):pR x=[.int 0,.int 0,.int 0,.bool false]:=by unfold pR;rw[h]
theorem ZJX (u:List Rw) (r:Rw):List.append (u.map Rw.e) [[Dat.int r.k,.int r.v,.int r.w]]=(u++[r]).map Rw.e:=by simp[Rw.e]
theorem ZDA (s:List UInt8) (hs:s.length<1073741824):callI tE Z74 [.str (S s)]=some (pRs s):=by
 rw[ZDa]
 by_cases hne:s=[]
 ·subst hne;rw[ZIP,show eqS (S []) (S [])=true from(ZCY _ _).trans (decide_eq_true rfl)];rfl
 ·rw[show eqS (S s) (S [])=false from(ZCY _ _).trans (decide_eq_false hne),cond_false]
  have hc:=ZKc 32 s (by omega)
  rw[show((32:UInt8).toNat:Int)=32 from rfl]at hc
  have hcl:=ZAH 32 s
  simp only[hc,gA]
  have:=Z6Q (l:=Z6O 32 s) (L:=fun(o:List Rw) i=>Z5v (lenI ((Z6O 32 s).map StE)) i (o.map Rw.e) ((Z6O 32 s).map StE)) (F:=fun _ _=>some (pRs s)) (I:=fun o u _=>u=o.map ZBO∧∀r∈o,r.ok=true) (by omega) (fun u x v o e hI=>by
   have hx:x.length≤s.length:=Z7K (b:=32) (by rw[e];simp)
   have hul:u.length<1099511627776:=by rw[e]at hcl;simp at hcl;omega
   have hol:o.length=u.length:=by rw[hI.1];simp
   have step:Z5v (lenI ((Z6O 32 s).map StE)) u.length (o.map Rw.e) ((Z6O 32 s).map StE)=match ZBL x with
     |some r=>Z5v (lenI ((Z6O 32 s).map StE)) (w64 (u.length+1)) ((o++[r]).map Rw.e) ((Z6O 32 s).map StE)
     |none=>some [.sl [],.bool false]:=by
    rw[Z9g,e]
    simp only[ZEo,ZEp,Z7W,ZDl,cond_true,StE,gA,ZIL x (by omega)]
    cases hp:ZBL x with
    |none=>rw[ZIS hp];rfl
    |some r=>
     rw[ZIR hp,Z5h,show fitM (Nat.succ o.length) 24=true from Z8v (by omega)]
     simp only[gA,ZJX]
     rfl
   cases hp:ZBL x with
   |none=>
    refine .inr ?_
    show Z5v _ _ _ _=_
    rw[step,hp,ZHH hne e hp]
   |some r=>
    obtain⟨q1,q2⟩:=ZBC.mp hp
    refine .inl ⟨o++[r],?_,⟨by rw[hI.1];simp[q2],fun z hz=>?_⟩,rfl⟩
    ·show Z5v _ _ _ _=_
     rw[step,hp]
    ·rcases List.mem_append.mp hz with hz|hz
     ·exact hI.2 z hz
     ·simp at hz;subst hz;exact q1) (fun o hI=>by
   show Z5v _ _ _ _=_
   rw[Z9g,ZE7,cond_false,ZAq]
   simp only[gA,ZHp]
   exact ZIQ hne hI.1 hI.2) [] ⟨rfl,by simp⟩
  exact this
theorem ZDB (s:List UInt8) (hs:s.length<1073741824):callI tE Z60 [.str (S s)]=some (pRs s):=by
 rw[ZDb]
 have hc:=ZKd 32 s (by omega)
 rw[show((32:UInt8).toNat:Int)=32 from rfl]at hc
 have hcl:=ZAH 32 s
 simp only[hc,gA]
 by_cases hne:s=[]
 ·subst hne
  rw[Z8A,ZIP,show eqS (S []) (S [])=true from(ZCY _ _).trans (decide_eq_true rfl)]
  have:=Z9h [] (by simp)
  simp only[List.map_nil]at this
  rw[this]
  cases ltI 0 (lenI ((Z6O 32 []).map StE))<;>rfl
 ·have:=Z6Q (l:=Z6O 32 s) (L:=fun(o:List Rw) i=>Z5w (S s) i (o.map Rw.e) ((Z6O 32 s).map StE)) (F:=fun _ _=>some (pRs s)) (I:=fun o u _=>u=o.map ZBO∧∀r∈o,r.ok=true) (by omega) (fun u x v o e hI=>by
   have hx:x.length≤s.length:=Z7K (b:=32) (by rw[e];simp)
   have hul:u.length<1099511627776:=by rw[e]at hcl;simp at hcl;omega
   have hol:o.length=u.length:=by rw[hI.1];simp
   have step:Z5w (S s) u.length (o.map Rw.e) ((Z6O 32 s).map StE)=match ZBL x with
     |some r=>Z5w (S s) (w64 (u.length+1)) ((o++[r]).map Rw.e) ((Z6O 32 s).map StE)
     |none=>some [.sl [],.bool false]:=by
    rw[Z8A,e,show eqS (S s) (S [])=false from(ZCY _ _).trans (decide_eq_false hne)]
    simp only[ZEo,ZEp,Z7W,ZDl,cond_true,Bool.not_false,StE,gA,ZIM x (by omega)]
    cases hp:ZBL x with
    |none=>rw[ZIS hp];rfl
    |some r=>
     rw[ZIR hp,Z5h,show fitM (Nat.succ o.length) 24=true from Z8v (by omega)]
     simp only[gA,ZJX]
     rfl
   cases hp:ZBL x with
   |none=>
    refine .inr ?_
    show Z5w _ _ _ _=_
    rw[step,hp,ZHH hne e hp]
   |some r=>
    obtain⟨q1,q2⟩:=ZBC.mp hp
    refine .inl ⟨o++[r],?_,⟨by rw[hI.1];simp[q2],fun z hz=>?_⟩,rfl⟩
    ·show Z5w _ _ _ _=_
     rw[step,hp]
    ·rcases List.mem_append.mp hz with hz|hz
     ·exact hI.2 z hz
     ·simp at hz;subst hz;exact q1) (fun o hI=>by
   show Z5w _ _ _ _=_
   have hol:o.length=(Z6O 32 s).length:=by rw[hI.1];simp
   rw[Z8A,ZE7,cond_false,Z9h o (by omega)]
   simp only[gA,ZHp]
   exact ZIQ hne hI.1 hI.2) [] ⟨rfl,by simp⟩
  exact this
theorem ZFg {b:UInt8} {c:Nat}:∀{l:List (List UInt8)},(∀x∈l,x.length≤c)→(l.map fun x=>x.length+[b].length).sum≤(c+1)*l.length
 |[],_=>by simp
 |x::l,h=>by
  have h1:=h x (by simp)
  have ih:=ZFg (b:=b) (l:=l) (fun y hy=>h y (by simp[hy]))
  simp only[List.map_cons,List.sum_cons,List.length_cons,List.length_nil]at ih⊢
  rw[Nat.mul_add];omega
theorem ZIT {b:UInt8} {c:Nat} {l:List (List UInt8)} (h:∀x∈l,x.length≤c):(Z7k [b] l).length≤(c+1)*l.length:=Nat.le_trans (ZCa _ _) (ZFg h)
theorem ZBF {b c:UInt8} (h:b≠c):∀l:List (List UInt8),(∀x∈l,b∉x)→b∉Z7k [c] l
 |[],_=>by simp[Z7k]
 |[x],hx=>by simpa[Z7k]using hx x (by simp)
 |x::y::r,hx=>by
  have ih:=ZBF h (y::r) (fun z hz=>hx z (by simp[hz]))
  rw[Z8r (by simp)]
  simp only[List.mem_append,List.mem_singleton,not_or]
  exact⟨⟨hx x (by simp),h⟩,ih⟩
theorem ZGd {b:UInt8} (hb:Z9w b=false) (h45:b≠45) (h46:b≠46) (h32:b≠32) (l:List Rw):b∉ZBP l:=
 ZBF h32 _ (fun x hx=>by
  obtain⟨r,_,rfl⟩:=List.mem_map.mp hx
  exact ZFB hb h45 h46 r)
theorem ZAU {b:UInt8} (hb:Z9w b=false) (h45:b≠45) (h46:b≠46) (h32:b≠32) (l:List Rw):b∉Z6l l:=by
 unfold Z6l
 split
 ·exact ZGd hb h45 h46 h32 l
 ·simp
def Z6p (l:List (List Rw)):List UInt8:=Z7k [124] (l.map Z6l)
theorem ZHI (l:List (List Rw)):∀x∈l.map Z6l,x.length≤1512:=fun x hx=>by
 obtain⟨r,_,rfl⟩:=List.mem_map.mp hx
 exact Z72 r
theorem ZBG (l:List (List Rw)):(Z6p l).length≤1513*l.length:=by have:=ZIT (b:=124) (ZHI l);simpa[Z6p]using this
theorem ZCe {b:UInt8} (hb:Z9w b=false) (h45:b≠45) (h46:b≠46) (h32:b≠32) (h124:b≠124) (l:List (List Rw)):b∉Z6p l:=
 ZBF h124 _ (fun x hx=>by
  obtain⟨r,_,rfl⟩:=List.mem_map.mp hx
  exact ZAU hb h45 h46 h32 r)
theorem ZGe (l:List (List Rw)) (h:ZAT l):callI tE Z8D [.sl (l.map rsE)]=some [.str (S (Z6p l))]:=by
 have hl:=Z7t List.length l
 unfold ZAT at h
 rw[ZCu]
 have hj:=ZFg (b:=124) (ZHI l)
 rw[List.length_map]at hj
 have:=Z6Q (l:=l) (L:=fun(s:List (List UInt8)) i=>Z6F (l.map rsE) (lenI (l.map rsE)) i (s.map StE)) (F:=fun _ _=>some [.str (S (Z6p l))]) (I:=fun s u _=>s=u.map Z6l) (by omega) (fun u a v s e hI=>by
  have hul:u.length<1099511627776:=by rw[e]at hl;simp at hl;rw[e]at h;omega
  refine .inl ⟨(u++[a]).map Z6l,?_,rfl,rfl⟩
  show Z6F _ _ _ _=Z6F _ _ _ _
  have hf:fitM (Nat.succ u.length) 16=true:=Z8v (by omega)
  subst e
  rw[Z9J,hI]
  simp only[ZEo,ZEp,Z7W,ZDl,cond_true,rsE,gA,ZEe,Z5h]
  rw[List.length_map,hf,cond_true,ZBB]
  simp) (fun s hs=>by
  show Z6F _ _ _ _=_
  rw[Z9J,ZE7,cond_false,hs,ZGc [124] (l.map Z6l) (by simp;omega) (by omega)];rfl) [] rfl
 exact this
theorem ZGf (l:List (List Rw)) (h:ZAT l):callI tE Z8G [.sl (l.map rsE)]=some [.str (S (Z6p l))]:=by
 have hl:=Z7t List.length l
 unfold ZAT at h
 rw[ZCx]
 have:=Z6Q (l:=l) (L:=fun s i=>Z5z (l.map rsE) (S s) i) (F:=fun _ _=>some [.str (S (Z6p l))]) (I:=fun s u _=>s=Z6p u) (by omega) (fun u a v s e hI=>by
  have hul:u.length<1099511627776:=by rw[e]at hl;simp at hl;rw[e]at h;omega
  have ha:a.length≤1073741824:=Nat.le_trans (Z9F (by rw[e];simp)) h
  have l0:=ZBG u
  have l1:=Z72 a
  refine .inl ⟨Z6p (u++[a]),?_,rfl,rfl⟩
  show Z5z _ _ _=Z5z _ _ _
  have ej:Z6p (u++[a])=if u=[]then Z6l a else Z6p u++[124]++Z6l a:=by
   unfold Z6p
   rw[List.map_append,List.map_cons,List.map_nil,ZGb]
   simp
  subst e
  rw[Z9K,hI,ej]
  simp only[ZEo,ZEp,Z7W,ZDl,cond_true,rsE,gA,Z9X a (show a.length<1099511627776 by omega)]
  by_cases hu:u=[]
  ·have e0:Z6p u=[]:=by rw[hu];rfl
   rw[if_pos hu,ltF (by simp[hu]),e0,cond_false,Z61 (by simp;omega),Z6t]
   rfl
  ·have hul:0<u.length:=List.length_pos_iff.mpr hu
   rw[if_neg hu,ltT (by omega),cond_true,Z61 (by simp;omega),Z6t,cond_true,Z61 (by simp;omega),Z6t,cond_true]) (fun s hs=>by
  show Z5z _ _ _=_
  rw[Z9K,ZE7,cond_false,hs]) [] rfl
 exact this
theorem Z8S:∀(n:Nat) (a b:List Rw),a.length+b.length=n→(mrg a b).Perm (a++b)
 |_,[],b,_=>by rw[Z9W];exact List.Perm.refl _
 |_,x::a,[],_=>by rw[ZAI];simp
 |0,x::a,y::b,h=>by simp at h
 |n+1,x::a,y::b,h=>by
  simp only[List.length_cons]at h
  rw[ZET]
  split
  ·exact(Z8S n a (y::b) (by simp;omega)).cons x
  ·exact((Z8S n (x::a) b (by simp;omega)).cons y).trans (List.perm_middle.symm)
theorem ZFh {l m:List Rw} (h:aok m=true) (hl:l.length≤m.length) (hs:∀r∈l,r∈m):aok l=true:=by
 have:=ZHx.mp h
 exact ZHx.mpr ⟨by omega,fun r hr=>this.2 r (hs r hr)⟩
theorem Z85 {s:So} (h:ZAJ s=true):aok s.inp=true∧(0≤s.pos∧s.pos≤s.inp.length)∧(∀r∈s.runs,ZAy r=true)∧0≤s.wr∧Srt s.out∧(∀r∈s.heap,Z9l r s.out=false)∧Z9L s=true:=by
 simp only[ZAJ,Bool.and_eq_true,Z9R,decide_eq_true_eq,List.all_eq_true,ZES,Bool.not_eq_true']at h
 exact h
theorem ZBH {s:So} (h:Z9L s=true) (p:s.ph=1):s.lp=0∧s.rp=0∧(s.out≠[]∨s.dfd=[])∧ZD8 s≤60∧(s.runs.flatten++(s.out++(s.heap++s.dfd))).Perm (s.inp.take s.pos.toNat):=by
 unfold Z9L at h
 rw[if_pos p]at h
 simp only[Bool.and_eq_true,decide_eq_true_eq,ZBd]at h
 exact h
theorem Z8i {s:So} (h:Z9L s=true) (p:s.ph≠1):s.pos=s.inp.length∧s.heap=[]∧s.dfd=[]∧s.runs.flatten.Perm s.inp∧Z8t s=true:=by
 unfold Z9L at h
 rw[if_neg p]at h
 simp only[Bool.and_eq_true,decide_eq_true_eq,ZBd]at h
 exact h
theorem ZCf {s:So} (h:Z8t s=true) (p:s.ph=2):∃a b r,s.runs=a::b::r∧(0≤s.lp∧s.lp≤a.length)∧(0≤s.rp∧s.rp≤b.length)∧s.out=mrg (a.take s.lp.toNat) (b.take s.rp.toNat)∧s.out=(mrg a b).take (s.lp.toNat+s.rp.toNat):=by
 unfold Z8t at h
 rw[if_pos p]at h
 unfold ZEU at h
 split at h
 ·rename_i a b r hr
  simp only[Bool.and_eq_true,decide_eq_true_eq,Z9R]at h
  exact⟨a,b,r,hr,h.1,h.2.1,h.2.2.1,h.2.2.2⟩
 ·cases h
theorem ZCg {s:So} (h:Z8t s=true) (p:s.ph=3):s.runs.length=1∧(0≤s.lp∧s.lp<s.inp.length)∧s.rp=0∧s.out=[]:=by
 unfold Z8t at h
 rw[if_neg (by omega),if_pos p]at h
 simp only[Bool.and_eq_true,decide_eq_true_eq]at h
 exact⟨h.1,h.2.1,h.2.2.1,h.2.2.2⟩
theorem ZHJ {s:So} (h:Z8t s=true) (p:s.ph=4):s.runs.length≤1∧s.lp=s.inp.length∧s.rp=0∧s.out=[]:=by
 unfold Z8t at h
 rw[if_neg (by omega),if_neg (by omega),if_pos p]at h
 simp only[Bool.and_eq_true,decide_eq_true_eq]at h
 exact⟨h.1,h.2.1,h.2.2.1,h.2.2.2⟩
theorem ZBg {s:So} (h:Z8t s=true):s.ph=2∨s.ph=3∨s.ph=4:=by
 unfold Z8t at h
 split at h
 ·exact .inl (by assumption)
 ·split at h
  ·exact .inr (.inl (by assumption))
  ·split at h
   ·exact .inr (.inr (by assumption))
   ·cases h
theorem ZDC {s:So} (h:ZAJ s=true):aok s.heap=true∧aok s.dfd=true∧aok s.out=true:=by
 obtain⟨h1,h2,h3,h4,h5,h6,h7⟩:=Z85 h
 by_cases p1:s.ph=1
 ·obtain⟨q1,q2,q3,q4,q5⟩:=ZBH h7 p1
  have hlen:=q5.length_eq
  simp only[List.length_append,List.length_take]at hlen
  have hm:∀r,r∈s.runs.flatten++(s.out++(s.heap++s.dfd))→r∈s.inp:=fun r hr=>List.mem_of_mem_take (q5.mem_iff.mp hr)
  refine⟨ZFh h1 (by omega) (fun r hr=>hm r ?_),ZFh h1 (by omega) (fun r hr=>hm r ?_),ZFh h1 (by omega) (fun r hr=>hm r ?_)⟩
  ·exact List.mem_append_right _ (List.mem_append_right _ (List.mem_append_left _ hr))
  ·exact List.mem_append_right _ (List.mem_append_right _ (List.mem_append_right _ hr))
  ·exact List.mem_append_right _ (List.mem_append_left _ hr)
 ·obtain⟨q1,q2,q3,q4,q5⟩:=Z8i h7 p1
  refine⟨by rw[q2];rfl,by rw[q3];rfl,?_⟩
  rcases ZBg q5 with p|p|p
  ·obtain⟨a,b,r,e1,e2,e3,e4,e5⟩:=ZCf q5 p
   have hp:=Z8S _ a b rfl
   have hlen:=q4.length_eq
   rw[e1]at hlen
   simp only[List.flatten_cons,List.length_append]at hlen
   have ml:=Z8s a b
   refine ZFh h1 (by rw[e5,List.length_take];omega) (fun x hx=>?_)
   rw[e5]at hx
   have hx2:=hp.mem_iff.mp (List.mem_of_mem_take hx)
   refine q4.mem_iff.mp ?_
   rw[e1]
   simp only[List.flatten_cons,List.mem_append]at hx2⊢
   rcases hx2 with hx2|hx2
   ·exact .inl hx2
   ·exact .inr (.inl hx2)
  ·rw[(ZCg q5 p).2.2.2];rfl
  ·rw[(ZHJ q5 p).2.2.2];rfl
def ZGg (s:So):List (List UInt8):=[Z6l s.inp,fmt s.pos,Z6l s.heap,Z6l s.dfd,Z6l s.out,Z6p s.runs,fmt s.lp,fmt s.rp,fmt s.ph,fmt s.wr]
def ZBQ (s:So):List UInt8:=Z7k [47] (ZGg s)
def ZBh (s:So):List UInt8:=if ZAJ s then ZBQ s else[]
def So.nb (s:So):Prop:=I64 s.pos∧I64 s.lp∧I64 s.rp∧I64 s.ph∧I64 s.wr
theorem ZHK (s:So):ZBQ s=Z6l s.inp++[47]++fmt s.pos++[47]++Z6l s.heap++[47]++Z6l s.dfd++[47]++Z6l s.out++[47]++Z6p s.runs++[47]++fmt s.lp++[47]++fmt s.rp++[47]++fmt s.ph++[47]++fmt s.wr:=by
 simp[ZBQ,ZGg,Z7k]
theorem ZIU (s:So) (hb:s.nb) (h:ZAT s.runs):(ZBQ s).length≤1624571391080:=by
 obtain⟨b1,b2,b3,b4,b5⟩:=hb
 have hl:=Z7t List.length s.runs
 unfold ZAT at h
 have a1:=Z6k b1
 have a2:=Z6k b2
 have a3:=Z6k b3
 have a4:=Z6k b4
 have a5:=Z6k b5
 have l1:=Z72 s.inp
 have l2:=Z72 s.heap
 have l3:=Z72 s.dfd
 have l4:=Z72 s.out
 have l5:=ZBG s.runs
 rw[ZHK]
 simp only[List.length_append,List.length_cons,List.length_nil]
 omega
theorem ZIV (s:So) (h:s.B2) (hb:s.nb):callI tE Z8j [.sl (s.inp.map Rw.e),.int s.pos,.sl (s.heap.map Rw.e),.sl (s.dfd.map Rw.e),.sl (s.out.map Rw.e),.sl (s.runs.map rsE),.int s.lp,.int s.rp,.int s.ph,.int s.wr]=some [.str (S (ZBh s))]:=by
 obtain⟨h1,h2,h3,h4,h5⟩:=h.b.p
 have hl:=Z7t List.length s.runs
 have h5':=h5
 unfold ZAT at h5'
 obtain⟨b1,b2,b3,b4,b5⟩:=hb
 rw[ZCB,ZCb s h]
 simp only[gA]
 unfold ZBh
 by_cases hv:ZAJ s=true
 ·obtain⟨r1,r2,r3⟩:=ZDC hv
  have a1:=Z6k b1
  have a2:=Z6k b2
  have a3:=Z6k b3
  have a4:=Z6k b4
  have a5:=Z6k b5
  have l1:=Z72 s.inp
  have l2:=Z72 s.heap
  have l3:=Z72 s.dfd
  have l4:=Z72 s.out
  have l5:=ZBG s.runs
  have t2:=ZCd s.heap (by omega)
  have t3:=ZCd s.dfd (by omega)
  have t4:=ZCd s.out (by omega)
  rw[←Z9G r1]at t2
  rw[←Z9G r2]at t3
  rw[←Z9G r3]at t4
  have hj:=ZGc [47] (ZGg s) (by simp[ZGg]) (by simp[ZGg];omega)
  simp only[ZGg,List.map_cons,List.map_nil,StE]at hj
  rw[hv,if_pos rfl,Bool.not_true,cond_false]
  simp only[ZEe,Z6c b1,Z6c b2,Z6c b3,Z6c b4,Z6c b5,t2,t3,t4,ZGe s.runs h5,gA,hj]
  rfl
 ·rw[if_neg hv,(Bool.not_eq_true _).mp hv];rfl
theorem ZGI (s:So) (h:s.B2) (hb:s.nb):callI tE Z6T [.sl (s.inp.map Rw.e),.int s.pos,.sl (s.heap.map Rw.e),.sl (s.dfd.map Rw.e),.sl (s.out.map Rw.e),.sl (s.runs.map rsE),.int s.lp,.int s.rp,.int s.ph,.int s.wr]=some [.str (S (ZBh s))]:=by
 obtain⟨h1,h2,h3,h4,h5⟩:=h.b.p
 have hl:=Z7t List.length s.runs
 have h5':=h5
 unfold ZAT at h5'
 obtain⟨b1,b2,b3,b4,b5⟩:=hb
 rw[ZCE,ZDp s h]
 simp only[gA]
 unfold ZBh
 by_cases hv:ZAJ s=true
 ·have a1:=Z6k b1
  have a2:=Z6k b2
  have a3:=Z6k b3
  have a4:=Z6k b4
  have a5:=Z6k b5
  have l1:=Z72 s.inp
  have l2:=Z72 s.heap
  have l3:=Z72 s.dfd
  have l4:=Z72 s.out
  have l5:=ZBG s.runs
  rw[hv,if_pos rfl,Bool.not_true,cond_false,ZHK]
  simp only[Z9X s.inp (by omega),Z9X s.heap (by omega),Z9X s.dfd (by omega),Z9X s.out (by omega),Z6L b1,Z6L b2,Z6L b3,Z6L b4,Z6L b5,ZGf s.runs h5,gA]
  rw[Z61 (by simp;omega),Z6t,cond_true,Z61 (by simp;omega),Z6t,cond_true,Z61 (by simp;omega),Z6t,cond_true,Z61 (by simp;omega),Z6t,cond_true,Z61 (by simp;omega),Z6t,cond_true,Z61 (by simp;omega),Z6t,cond_true]
  rw[Z61 (by simp;omega),Z6t,cond_true,Z61 (by simp;omega),Z6t,cond_true,Z61 (by simp;omega),Z6t,cond_true,Z61 (by simp;omega),Z6t,cond_true,Z61 (by simp;omega),Z6t,cond_true,Z61 (by simp;omega),Z6t,cond_true]
  rw[Z61 (by simp;omega),Z6t,cond_true,Z61 (by simp;omega),Z6t,cond_true,Z61 (by simp;omega),Z6t,cond_true,Z61 (by simp;omega),Z6t,cond_true,Z61 (by simp;omega),Z6t,cond_true,Z61 (by simp;omega),Z6t,cond_true]
 ·rw[if_neg hv,(Bool.not_eq_true _).mp hv];rfl
set_option maxRecDepth 100000
theorem ZEy (a0:Int):callI tE Z9Z [.int a0]=(((callI tE Z6b [(.int a0),(.int 8),(.int 60)])).bind (fun r0=>(some [(.bool (gb r0))]))):=(callI_run rfl (by kernel_rfl)).trans (by kernel_rfl)
noncomputable def Z86 (x0 x1:Rows) (x2 x3:Int):Option (List Dat):=loopK tE Z8e 0 ⟨[(0,(.ro 3 Bool.false x0)),(5,(.ro 3 Bool.false x1)),(6,(.i .i64 x2)),(7,(.i .i64 x3))],[]⟩
theorem Z9n (x0 x1:Rows) (x2 x3:Int):Z86 x0 x1 x2 x3=(bif(ltI x3 x2)then(bif(inR x3 (lenI x1))then(((callI tE Z9Z [(.int (gn (at' x1 (tn x3))))])).bind (fun r0=>(bif(!(gb r0))then(some [(.bool Bool.false)])else(Z86 x0 x1 x2 (w64 (x3+1))))))else none)else(some [(.bool (ltI 0 (lenI x0)))])):=(loopK_run (by kernel_rfl)).trans (by kernel_rfl)
theorem ZDj (a0:Rows):callI tE Z8e [.sl a0]=(Z86 a0 a0 (lenI a0) 0):=(callI_run rfl (by kernel_rfl)).trans (by kernel_rfl)
set_option maxRecDepth 10000
theorem ZJY {α:Type} {e:α→List Dat} {l:List α} {k:Nat} {a:α} (h:l[k]?=some a):at' (l.map e) k=e a:=by
 simp[List.getD_eq_getElem?_getD,h]
theorem ZJZ {α:Type} {e:α→List Dat} {l:List α} {k:Nat} {a:α} (h:l[k]?=some a):inR (k:Int) (lenI (l.map e))=true:=ZBR (List.getElem?_eq_some_iff.mp h).1
def ZFi:Nat→Rw→Nat→List Rw→Nat
 |b,_,_,[]=>b
 |b,m,i,a::l=>if Rw.lt a m then ZFi i a (i+1) l else ZFi b m (i+1) l
def ZDD:List Rw→Nat
 |[]=>0
 |a::l=>ZFi 0 a 1 l
theorem ZFj:∀(v u:List Rw) (b:Nat) (m:Rw),(u++v)[b]?=some m→(∀x∈u,Rw.le m x)→∃m',(u++v)[ZFi b m u.length v]?=some m'∧∀x∈u++v,Rw.le m' x
 |[],u,b,m,hb,hu=>⟨m,hb,by simpa using hu⟩
 |a::v,u,b,m,hb,hu=>by
  have e:u++a::v=(u++[a])++v:=by simp
  have el:u.length+1=(u++[a]).length:=by simp
  simp only[ZFi]
  split
  ·rename_i hlt
   rw[e,el]
   refine ZFj v (u++[a]) u.length a (by rw[←e];simp) (fun x hx=>?_)
   rcases List.mem_append.mp hx with hx|hx
   ·exact Rw.le_tr (Rw.lt_le hlt) (hu x hx)
   ·rw[List.mem_singleton.mp hx];exact Rw.le_rfl a
  ·rename_i hlt
   rw[e,el]
   refine ZFj v (u++[a]) b m (by rw[←e];exact hb) (fun x hx=>?_)
   rcases List.mem_append.mp hx with hx|hx
   ·exact hu x hx
   ·rw[List.mem_singleton.mp hx];exact hlt
theorem ZHL {l:List Rw} (h:l≠[]):∃m,l[ZDD l]?=some m∧∀x∈l,Rw.le m x:=by
 cases l with
 |nil=>exact absurd rfl h
 |cons a l=>exact ZFj l [a] 0 a rfl (fun x hx=>by rw[List.mem_singleton.mp hx];exact Rw.le_rfl a)
theorem ZEf (l:List Rw) (hl:l.length<4611686018427387904):∀(v u:List Rw) (b:Nat) (m:Rw),l=u++v→l[b]?=some m→Z6Y (l.map Rw.e) (b:Int) (l.map Rw.e) (lenI (l.map Rw.e)) (u.length:Int)=some [.int (ZFi b m u.length v:Nat)]
 |[],u,b,m,e,hb=>by
  rw[List.append_nil]at e
  subst e
  rw[Z7u,ZE7,cond_false];rfl
 |a::v,u,b,m,e,hb=>by
  have hul:u.length<l.length:=by rw[e];simp
  have ha:l[u.length]?=some a:=by rw[e];simp
  rw[Z7u,show ltI (u.length:Int) (lenI (l.map Rw.e))=true from by rw[e];exact ZEo u v a,ZJZ ha,ZJZ hb,Z7W,ZJY ha,Z7W,ZJY hb,ltF (show(0:Int)≤(b:Int)by omega)]
  simp only[cond_true,cond_false,gA,Rw.e,ZBo,ZAQ,Z7X (show u.length<9223372036854775807 by omega)]
  have i1:=ZEf l hl v (u++[a]) u.length a (by rw[e];simp) ha
  have i2:=ZEf l hl v (u++[a]) b m (by rw[e];simp) hb
  rw[List.length_append]at i1 i2
  simp only[ZFi]
  by_cases hlt:Rw.lt a m
  ·rw[decide_eq_true hlt,cond_true,if_pos hlt];exact i1
  ·rw[decide_eq_false hlt,cond_false,if_neg hlt];exact i2
theorem ZLf {l:List Rw} (h:l≠[]) (hl:l.length<4611686018427387904):callI tE Z63 [.sl (l.map Rw.e)]=some [.int (ZDD l:Nat)]:=by
 cases l with
 |nil=>exact absurd rfl h
 |cons a l=>
  have:=ZEf (a::l) hl l [a] 0 a rfl rfl
  rw[ZCv,Z7u,ltT (by rw[Z5L];simp only[List.length_cons];omega),show inR 0 (lenI ((a::l).map Rw.e))=true from ZBR (i:=0) (by simp),ltT (show(-1:Int)<0 by decide)]
  exact this
theorem ZEg (l:List Rw) (hl:l.length<4611686018427387904):∀(v u:List Rw) (b:Nat) (m:Rw),l=u++v→l[b]?=some m→Z6Z (l.map Rw.e) (b:Int) (u.length:Int)=some [.int (ZFi b m u.length v:Nat)]
 |[],u,b,m,e,hb=>by
  rw[List.append_nil]at e
  subst e
  rw[Z7v,ZE7,cond_false];rfl
 |a::v,u,b,m,e,hb=>by
  have hul:u.length<l.length:=by rw[e];simp
  have ha:l[u.length]?=some a:=by rw[e];simp
  rw[Z7v,show ltI (u.length:Int) (lenI (l.map Rw.e))=true from by rw[e];exact ZEo u v a,ZJZ ha,ZJZ hb,Z7W,ZJY ha,Z7W,ZJY hb,ltF (show(0:Int)≤(b:Int)by omega)]
  simp only[cond_true,cond_false,gA,Rw.e,ZB7,ZAQ,Z7X (show u.length<9223372036854775807 by omega)]
  have i1:=ZEg l hl v (u++[a]) u.length a (by rw[e];simp) ha
  have i2:=ZEg l hl v (u++[a]) b m (by rw[e];simp) hb
  rw[List.length_append]at i1 i2
  simp only[ZFi]
  by_cases hlt:Rw.lt a m
  ·rw[decide_eq_true hlt,cond_true,if_pos hlt];exact i1
  ·rw[decide_eq_false hlt,cond_false,if_neg hlt];exact i2
theorem ZLg {l:List Rw} (h:l≠[]) (hl:l.length<4611686018427387904):callI tE Z8H [.sl (l.map Rw.e)]=some [.int (ZDD l:Nat)]:=by
 cases l with
 |nil=>exact absurd rfl h
 |cons a l=>
  have:=ZEg (a::l) hl l [a] 0 a rfl rfl
  rw[ZCy,Z7v,ltT (by rw[Z5L];simp only[List.length_cons];omega),ltT (show(-1:Int)<0 by decide)]
  exact this
def ZEh (l:List Rw) (k:Nat):List Rw:=l.take k++l.drop (k+1)
theorem ZHM (l:List Rw) (k:Nat):List.take (tn ((k:Int)-0)) (List.drop (tn 0) (l.map Rw.e))=(l.take k).map Rw.e:=by
 rw[show((k:Int)-0)=(k:Int)by omega]
 show List.take k (List.drop 0 _)=_
 rw[List.drop_zero,List.map_take]
theorem ZHN (l:List Rw) (k:Nat) (h:k<l.length):List.take (tn (lenI (l.map Rw.e)-((k+1:Nat):Int))) (List.drop (tn ((k+1:Nat):Int)) (l.map Rw.e))=(l.drop (k+1)).map Rw.e:=by
 rw[Z5L,show((l.length:Int)-((k+1:Nat):Int))=((l.length-(k+1):Nat):Int)by omega]
 show List.take (l.length-(k+1)) (List.drop (k+1) _)=_
 rw[List.map_drop,List.take_of_length_le (by simp)]
theorem ZKh (l:List Rw) (k:Nat) (h:k<l.length) (hl:l.length≤1073741824):callI tE Z7Z [.sl (l.map Rw.e),.int (k:Int)]=some [.sl ((ZEh l k).map Rw.e)]:=by
 rw[ZG3,leT (show(0:Int)≤(k:Int)by omega),leT (show(k:Int)≤lenI (l.map Rw.e)by rw[Z5L];omega),ZHM,ZDJ _ (by simp;omega),Z7X (by omega),leT (show(0:Int)≤((k+1:Nat):Int)by omega),leT (show((k+1:Nat):Int)≤lenI (l.map Rw.e)by rw[Z5L];omega),ZHN l k h]
 simp only[gA,Bool.and_self,cond_true,Z5h]
 rw[Z8v (by simp;omega),cond_true,ZAh];rfl
theorem ZKi (l:List Rw) (k:Nat) (h:k<l.length) (hl:l.length≤1073741824):callI tE ZAl [.sl (l.map Rw.e),.int (k:Int)]=some [.sl ((ZEh l k).map Rw.e)]:=by
 rw[ZEv,leT (show(0:Int)≤(k:Int)by omega),leT (show(k:Int)≤lenI (l.map Rw.e)by rw[Z5L];omega),ZHM,Z7X (by omega),leT (show(0:Int)≤((k+1:Nat):Int)by omega),leT (show((k+1:Nat):Int)≤lenI (l.map Rw.e)by rw[Z5L];omega),ZHN l k h]
 simp only[Bool.and_self,cond_true,Z5h]
 rw[Z8v (by simp;omega),Z8v (by simp;omega),cond_true,cond_true,ZAh];rfl
theorem ZHh (l:List (List Rw)) (h:ZAT l):callI tE Z8f [.sl (l.map rsE)]=some [.sl (l.map rsE)]:=by
 have hl:=Z7t List.length l
 have h:szL List.length l≤1073741824:=h
 rw[ZDd]
 have:=Z6Q (l:=l) (L:=fun(s:List (List Rw)) i=>Z6K (l.map rsE) (lenI (l.map rsE)) i (s.map rsE)) (F:=fun _ _=>some [.sl (l.map rsE)]) (I:=fun s u _=>s=u) (by omega) (fun u a v s e hI=>by
  have ha:a.length≤1073741824:=Nat.le_trans (Z9F (by rw[e];simp)) h
  have hul:u.length≤1073741824:=by rw[e]at hl h;simp at hl;rw[e]at*;omega
  refine .inl ⟨u++[a],?_,rfl,rfl⟩
  show Z6K _ _ _ _=Z6K _ _ _ _
  subst e
  rw[Z9i,hI]
  simp only[ZEo,ZEp,Z7W,ZDl,cond_true,rsE,gA,ZDJ a (by omega),Z5h]
  rw[show fitM (Nat.succ u.length) 24=true from Z8v (by omega),ZDM]
  rfl) (fun s hs=>by
  show Z6K _ _ _ _=_
  rw[Z9i,ZE7,cond_false,hs]) [] rfl
 exact this
theorem ZIW (l:List (List Rw)) (h:ZAT l):callI tE Z9a [.sl (l.map rsE)]=some [.sl (l.map rsE)]:=by
 have hl:=Z7t List.length l
 have h:szL List.length l≤1073741824:=h
 rw[ZEt]
 have:=Z6Q (l:=l) (L:=fun(s:List (List Rw)) i=>Z6j (l.map rsE) i (s.map rsE)) (F:=fun _ _=>some [.sl (l.map rsE)]) (I:=fun s u _=>s=u) (by omega) (fun u a v s e hI=>by
  have ha:a.length≤1073741824:=Nat.le_trans (Z9F (by rw[e];simp)) h
  have hul:u.length≤1073741824:=by rw[e]at hl h;simp at hl;rw[e]at*;omega
  refine .inl ⟨u++[a],?_,rfl,rfl⟩
  show Z6j _ _ _=Z6j _ _ _
  subst e
  rw[ZAR,hI]
  simp only[ZEo,ZEp,Z7W,ZDl,cond_true,rsE,gA,Z5h]
  rw[show fitM (0+a.length) 24=true from Z8v (by omega),show fitM (Nat.succ u.length) 24=true from Z8v (by omega),ZDM]
  rfl) (fun s hs=>by
  show Z6j _ _ _=_
  rw[ZAR,ZE7,cond_false,hs]) [] rfl
 exact this
theorem ZJA (s:So) (h:s.B):callI tE Z8y [.sl (s.inp.map Rw.e),.int s.pos,.sl (s.heap.map Rw.e),.sl (s.dfd.map Rw.e),.sl (s.out.map Rw.e),.sl (s.runs.map rsE),.int s.lp,.int s.rp,.int s.ph,.int s.wr]=some [.sl (s.inp.map Rw.e),.int s.pos,.sl (s.heap.map Rw.e),.sl (s.dfd.map Rw.e),.sl (s.out.map Rw.e),.sl (s.runs.map rsE),.int s.lp,.int s.rp,.int s.ph,.int s.wr]:=by
 obtain⟨h1,h2,h3,h4,h5⟩:=h.p
 simp only[ZCP,ZDJ s.inp (by omega),ZDJ s.heap (by omega),ZDJ s.dfd (by omega),ZDJ s.out (by omega),ZHh s.runs h5,gA]
theorem ZK4 (s:So) (h:s.B):callI tE ZAk [.sl (s.inp.map Rw.e),.int s.pos,.sl (s.heap.map Rw.e),.sl (s.dfd.map Rw.e),.sl (s.out.map Rw.e),.sl (s.runs.map rsE),.int s.lp,.int s.rp,.int s.ph,.int s.wr]=some [.sl (s.inp.map Rw.e),.int s.pos,.sl (s.heap.map Rw.e),.sl (s.dfd.map Rw.e),.sl (s.out.map Rw.e),.sl (s.runs.map rsE),.int s.lp,.int s.rp,.int s.ph,.int s.wr]:=by
 obtain⟨h1,h2,h3,h4,h5⟩:=h.p
 simp only[ZEu,Z5h,ZIW s.runs h5,gA]
 rw[Z8v (by omega),Z8v (by omega),Z8v (by omega),Z8v (by omega)];rfl
theorem ZHO (n:Int):callI tE Z9Z [.int n]=some [.bool (win n 8 60)]:=by
 simp only[ZEy,ZBX,gA]
def ZEz (s:So):So:=⟨s.inp,s.pos,s.heap,s.dfd,[],s.runs++[s.out],s.lp,s.rp,s.ph,s.wr⟩
def ZBz (s:So):So:=⟨s.inp,s.pos,s.heap,s.dfd,s.out,s.runs,0,0,if s.runs.length=0 then 4 else if s.runs.length=1 then 3 else 2,s.wr⟩
def rwZ:Rw:=⟨0,0,0⟩
def ZLB (s:So):So:=⟨s.inp,s.pos,ZEh s.heap (ZDD s.heap),s.dfd,s.out++[s.heap.getD (ZDD s.heap) rwZ],s.runs,s.lp,s.rp,s.ph,w64 (s.wr+((s.heap.getD (ZDD s.heap) rwZ).cost:Nat))⟩
def ZIX (s:So) (r:Rw):So:=if Z9l r s.out then⟨s.inp,w64 (s.pos+1),s.heap,s.dfd++[r],s.out,s.runs,s.lp,s.rp,s.ph,s.wr⟩else⟨s.inp,w64 (s.pos+1),s.heap++[r],s.dfd,s.out,s.runs,s.lp,s.rp,s.ph,s.wr⟩
def ZJa (s:So):So:=if s.heap=[]then(if s.dfd=[]then(if s.out=[]then ZBz s else ZBz (ZEz s))else⟨s.inp,s.pos,s.dfd,[],[],s.runs++[s.out],s.lp,s.rp,s.ph,s.wr⟩)else ZLB s
def ZHs (s:So) (g:Int) (r:Rw):Bool:=leI ((ZD8 s:Nat)+(r.cost:Nat)) g
def ZJB (s:So) (g:Int):So:=match s.inp[s.pos.toNat]? with
 |some r=>if ZHs s g r=true then ZIX s r else ZJa s
 |none=>ZJa s
def ZJC (s:So) (x:Rw):So:=⟨s.inp,s.pos,s.heap,s.dfd,s.out++[x],s.runs,w64 (s.lp+1),s.rp,s.ph,w64 (s.wr+(x.cost:Nat))⟩
def ZJD (s:So) (x:Rw):So:=⟨s.inp,s.pos,s.heap,s.dfd,s.out++[x],s.runs,s.lp,w64 (s.rp+1),s.ph,w64 (s.wr+(x.cost:Nat))⟩
def ZGh (s:So):So:=match s.runs with
 |a::b::r=>match a[s.lp.toNat]?,b[s.rp.toNat]? with
  |none,none=>ZBz (ZEz ⟨s.inp,s.pos,s.heap,s.dfd,s.out,r,s.lp,s.rp,s.ph,s.wr⟩)
  |some x,none=>ZJC s x
  |none,some y=>ZJD s y
  |some x,some y=>if Rw.le x y then ZJC s x else ZJD s y
 |_=>s
def ZEi (s:So):So×List Rw:=match s.runs with
 |a::_=>match a[s.lp.toNat]? with
  |some x=>(⟨s.inp,s.pos,s.heap,s.dfd,s.out,s.runs,w64 (s.lp+1),s.rp,if w64 (s.lp+1)=s.inp.length then 4 else s.ph,s.wr⟩,[x])
  |none=>(s,[])
 |[]=>(s,[])
def ZGi (s:So) (g:Int):Bool:=ZAJ s&&(win g 8 60&& !eqI s.ph 4)
def ZF0 (s:So) (g:Int):So×List Rw×Bool:=
 bif ZGi s g then(if s.ph=1 then(ZJB s g,[],true)else if s.ph=2 then(ZGh s,[],true)else((ZEi s).1,(ZEi s).2,true))else(s,[],false)
def StR (x:So×List Rw×Bool):List Dat:=[.sl (x.1.inp.map Rw.e),.int x.1.pos,.sl (x.1.heap.map Rw.e),.sl (x.1.dfd.map Rw.e),.sl (x.1.out.map Rw.e),.sl (x.1.runs.map rsE),.int x.1.lp,.int x.1.rp,.int x.1.ph,.int x.1.wr,.sl (x.2.1.map Rw.e),.bool x.2.2]
theorem ZIY (s:So) (h:s.B):callI tE Z62 [.sl (s.inp.map Rw.e),.int s.pos,.sl (s.heap.map Rw.e),.sl (s.dfd.map Rw.e),.sl (s.out.map Rw.e),.sl (s.runs.map rsE),.int s.lp,.int s.rp,.int s.ph,.int s.wr]=some (ZEz s).e:=by
 obtain⟨h1,h2,h3,h4,h5⟩:=h.p
 have hl:=Z7t List.length s.runs
 have h5:szL List.length s.runs≤1073741824:=h5
 rw[ZFV,Z5h,Z8v (by omega),cond_true,ZDM];rfl
theorem ZDE (s:So):callI tE Z5Y [.sl (s.inp.map Rw.e),.int s.pos,.sl (s.heap.map Rw.e),.sl (s.dfd.map Rw.e),.sl (s.out.map Rw.e),.sl (s.runs.map rsE),.int s.lp,.int s.rp,.int s.ph,.int s.wr]=some (ZBz s).e:=by
 rw[ZDe,Z5L]
 unfold ZBz
 by_cases h0:s.runs.length=0
 ·rw[eqT (by omega),if_pos h0];rfl
 ·rw[eqF (by omega),if_neg h0]
  by_cases h1:s.runs.length=1
  ·rw[eqT (by omega),if_pos h1];rfl
  ·rw[eqF (by omega),if_neg h1];rfl
theorem ZK5 (s:So):callI tE Z6I [.sl (s.inp.map Rw.e),.int s.pos,.sl (s.heap.map Rw.e),.sl (s.dfd.map Rw.e),.sl (s.out.map Rw.e),.sl (s.runs.map rsE),.int s.lp,.int s.rp,.int s.ph,.int s.wr]=some (ZBz s).e:=by
 rw[ZEw,Z5L]
 unfold ZBz
 by_cases h0:s.runs.length=0
 ·rw[eqF (by omega),eqT (show(s.runs.length:Int)=0 by omega),if_pos h0];rfl
 ·rw[eqF (show(s.runs.length:Int)≠0 by omega),if_neg h0]
  by_cases h1:s.runs.length=1
  ·rw[eqT (by omega),if_pos h1];rfl
  ·rw[eqF (by omega),if_neg h1];rfl
theorem Z8l (l:List Rw) (r:Rw):List.append (l.map Rw.e) [[Dat.int r.k,.int r.v,.int r.w]]=(l++[r]).map Rw.e:=ZJy l r
theorem ZDF:eqI (lenI (([]:List Rw).map Rw.e)) 0=true:=rfl
theorem ZCG:ltI 0 (lenI (([]:List Rw).map Rw.e))=false:=rfl
theorem ZJb {l:List Rw} (h:l≠[]):eqI (lenI (l.map Rw.e)) 0=false:=by
 cases l with
 |nil=>exact absurd rfl h
 |cons a l=>exact eqF (by rw[Z5L];simp only[List.length_cons];omega)
theorem ZGJ {l:List Rw} (h:l≠[]):ltI 0 (lenI (l.map Rw.e))=true:=by
 cases l with
 |nil=>exact absurd rfl h
 |cons a l=>exact ltT (by rw[Z5L];simp only[List.length_cons];omega)
theorem ZKj {l:List Rw} (h:l≠[]):inR (ZDD l:Nat) (lenI (l.map Rw.e))=true∧at' (l.map Rw.e) (ZDD l)=(l.getD (ZDD l) rwZ).e∧ZDD l<l.length:=by
 obtain⟨m,h1,_⟩:=ZHL h
 exact⟨ZJZ h1,by rw[ZJY h1];simp[List.getD_eq_getElem?_getD,h1],(List.getElem?_eq_some_iff.mp h1).1⟩
theorem ZFD {s:So} (h:s.B2):s.inp.length≤1073741800∧s.heap.length≤1073741800∧s.dfd.length≤1073741800∧s.out.length≤1073741800∧s.runs.length≤1073741800∧szL List.length s.runs≤1073741800:=by
 have h:s.sz≤1073741800:=h
 have hl:=Z7t List.length s.runs
 simp only[So.sz]at h
 exact⟨by omega,by omega,by omega,by omega,by omega,by omega⟩
theorem ZLh (s:So) (h:s.B2):(bif(eqI (lenI (s.heap.map Rw.e)) 0)then(bif(ltI 0 (lenI (s.dfd.map Rw.e)))then(((callI tE Z62 [(.sl (s.inp.map Rw.e)),(.int s.pos),(.sl (s.heap.map Rw.e)),(.sl (s.dfd.map Rw.e)),(.sl (s.out.map Rw.e)),(.sl (s.runs.map rsE)),(.int s.lp),(.int s.rp),(.int s.ph),(.int s.wr)])).bind (fun r5=>(some [(.sl (gl r5)),(.int (gn (tk 1 r5))),(.sl (gl (tk 3 r5))),(.sl []),(.sl (gl (tk 4 r5))),(.sl (gl (tk 5 r5))),(.int (gn (tk 6 r5))),(.int (gn (tk 7 r5))),(.int (gn (tk 8 r5))),(.int (gn (tk 9 r5))),(.sl []),(.bool true)])))else(bif(ltI 0 (lenI (s.heap.map Rw.e)))then(((callI tE Z63 [(.sl (s.heap.map Rw.e))])).bind (fun r5=>(bif(inR (gn r5) (lenI (s.heap.map Rw.e)))then(((callI tE Z7Z [(.sl (s.heap.map Rw.e)),(.int (gn r5))])).bind (fun r6=>(bif(fitM (Nat.succ (len (s.out.map Rw.e))) 24)then(((callI tE Z5O [(.int (gn (at' (s.heap.map Rw.e) (tn (gn r5))))),(.int (gn (tk 1 (at' (s.heap.map Rw.e) (tn (gn r5)))))),(.int (gn (tk 2 (at' (s.heap.map Rw.e) (tn (gn r5))))))])).bind (fun r7=>(some [(.sl (s.inp.map Rw.e)),(.int s.pos),(.sl (gl r6)),(.sl (s.dfd.map Rw.e)),(.sl (List.append (s.out.map Rw.e) [[(.int (gn (at' (s.heap.map Rw.e) (tn (gn r5))))),(.int (gn (tk 1 (at' (s.heap.map Rw.e) (tn (gn r5)))))),(.int (gn (tk 2 (at' (s.heap.map Rw.e) (tn (gn r5))))))]])),(.sl (s.runs.map rsE)),(.int s.lp),(.int s.rp),(.int s.ph),(.int (w64 (s.wr+(gn r7)))),(.sl []),(.bool true)])))else none)))else none)))else(bif(ltI 0 (lenI (s.out.map Rw.e)))then(((callI tE Z62 [(.sl (s.inp.map Rw.e)),(.int s.pos),(.sl (s.heap.map Rw.e)),(.sl (s.dfd.map Rw.e)),(.sl (s.out.map Rw.e)),(.sl (s.runs.map rsE)),(.int s.lp),(.int s.rp),(.int s.ph),(.int s.wr)])).bind (fun r5=>(((callI tE Z5Y [(.sl (gl r5)),(.int (gn (tk 1 r5))),(.sl (gl (tk 2 r5))),(.sl (gl (tk 3 r5))),(.sl (gl (tk 4 r5))),(.sl (gl (tk 5 r5))),(.int (gn (tk 6 r5))),(.int (gn (tk 7 r5))),(.int (gn (tk 8 r5))),(.int (gn (tk 9 r5)))])).bind (fun r6=>(some [(.sl (gl r6)),(.int (gn (tk 1 r6))),(.sl (gl (tk 2 r6))),(.sl (gl (tk 3 r6))),(.sl (gl (tk 4 r6))),(.sl (gl (tk 5 r6))),(.int (gn (tk 6 r6))),(.int (gn (tk 7 r6))),(.int (gn (tk 8 r6))),(.int (gn (tk 9 r6))),(.sl []),(.bool true)])))))else(((callI tE Z5Y [(.sl (s.inp.map Rw.e)),(.int s.pos),(.sl (s.heap.map Rw.e)),(.sl (s.dfd.map Rw.e)),(.sl (s.out.map Rw.e)),(.sl (s.runs.map rsE)),(.int s.lp),(.int s.rp),(.int s.ph),(.int s.wr)])).bind (fun r5=>(some [(.sl (gl r5)),(.int (gn (tk 1 r5))),(.sl (gl (tk 2 r5))),(.sl (gl (tk 3 r5))),(.sl (gl (tk 4 r5))),(.sl (gl (tk 5 r5))),(.int (gn (tk 6 r5))),(.int (gn (tk 7 r5))),(.int (gn (tk 8 r5))),(.int (gn (tk 9 r5))),(.sl []),(.bool true)]))))))else(bif(ltI 0 (lenI (s.heap.map Rw.e)))then(((callI tE Z63 [(.sl (s.heap.map Rw.e))])).bind (fun r5=>(bif(inR (gn r5) (lenI (s.heap.map Rw.e)))then(((callI tE Z7Z [(.sl (s.heap.map Rw.e)),(.int (gn r5))])).bind (fun r6=>(bif(fitM (Nat.succ (len (s.out.map Rw.e))) 24)then(((callI tE Z5O [(.int (gn (at' (s.heap.map Rw.e) (tn (gn r5))))),(.int (gn (tk 1 (at' (s.heap.map Rw.e) (tn (gn r5)))))),(.int (gn (tk 2 (at' (s.heap.map Rw.e) (tn (gn r5))))))])).bind (fun r7=>(some [(.sl (s.inp.map Rw.e)),(.int s.pos),(.sl (gl r6)),(.sl (s.dfd.map Rw.e)),(.sl (List.append (s.out.map Rw.e) [[(.int (gn (at' (s.heap.map Rw.e) (tn (gn r5))))),(.int (gn (tk 1 (at' (s.heap.map Rw.e) (tn (gn r5)))))),(.int (gn (tk 2 (at' (s.heap.map Rw.e) (tn (gn r5))))))]])),(.sl (s.runs.map rsE)),(.int s.lp),(.int s.rp),(.int s.ph),(.int (w64 (s.wr+(gn r7)))),(.sl []),(.bool true)])))else none)))else none)))else(bif(ltI 0 (lenI (s.out.map Rw.e)))then(((callI tE Z62 [(.sl (s.inp.map Rw.e)),(.int s.pos),(.sl (s.heap.map Rw.e)),(.sl (s.dfd.map Rw.e)),(.sl (s.out.map Rw.e)),(.sl (s.runs.map rsE)),(.int s.lp),(.int s.rp),(.int s.ph),(.int s.wr)])).bind (fun r5=>(((callI tE Z5Y [(.sl (gl r5)),(.int (gn (tk 1 r5))),(.sl (gl (tk 2 r5))),(.sl (gl (tk 3 r5))),(.sl (gl (tk 4 r5))),(.sl (gl (tk 5 r5))),(.int (gn (tk 6 r5))),(.int (gn (tk 7 r5))),(.int (gn (tk 8 r5))),(.int (gn (tk 9 r5)))])).bind (fun r6=>(some [(.sl (gl r6)),(.int (gn (tk 1 r6))),(.sl (gl (tk 2 r6))),(.sl (gl (tk 3 r6))),(.sl (gl (tk 4 r6))),(.sl (gl (tk 5 r6))),(.int (gn (tk 6 r6))),(.int (gn (tk 7 r6))),(.int (gn (tk 8 r6))),(.int (gn (tk 9 r6))),(.sl []),(.bool true)])))))else(((callI tE Z5Y [(.sl (s.inp.map Rw.e)),(.int s.pos),(.sl (s.heap.map Rw.e)),(.sl (s.dfd.map Rw.e)),(.sl (s.out.map Rw.e)),(.sl (s.runs.map rsE)),(.int s.lp),(.int s.rp),(.int s.ph),(.int s.wr)])).bind (fun r5=>(some [(.sl (gl r5)),(.int (gn (tk 1 r5))),(.sl (gl (tk 2 r5))),(.sl (gl (tk 3 r5))),(.sl (gl (tk 4 r5))),(.sl (gl (tk 5 r5))),(.int (gn (tk 6 r5))),(.int (gn (tk 7 r5))),(.int (gn (tk 8 r5))),(.int (gn (tk 9 r5))),(.sl []),(.bool true)]))))))=some (StR (ZJa s,[],true)):=by
 obtain⟨b1,b2,b3,b4,b5,b6⟩:=ZFD h
 have k1:=ZIY s h.b
 have k2:=ZDE s
 have k3:=ZDE (ZEz s)
 simp only[So.e,ZEz,List.map_nil]at k1 k2 k3
 unfold ZJa
 by_cases hh:s.heap=[]
 ·rw[if_pos hh]
  rw[hh]at k1 k2 k3⊢
  by_cases hd:s.dfd=[]
  ·rw[if_pos hd]
   rw[hd]at k1 k2 k3⊢
   by_cases ho:s.out=[]
   ·rw[if_pos ho]
    rw[ho]at k1 k2 k3⊢
    simp only[ZDF,ZCG,cond_true,cond_false,k2,gA]
    simp only[ZBz,hh,hd,ho];rfl
   ·rw[if_neg ho]
    simp only[ZDF,ZCG,ZGJ ho,cond_true,cond_false,k1,k3,gA]
    simp only[ZBz,ZEz,hh,hd];rfl
  ·rw[if_neg hd]
   simp only[ZDF,ZGJ hd,cond_true,cond_false,k1,gA]
   rfl
 ·rw[if_neg hh]
  obtain⟨m1,m2,m3⟩:=ZKj hh
  have k4:=ZLf hh (by omega)
  have k5:=ZKh s.heap (ZDD s.heap) m3 (by omega)
  simp only[ZJb hh,ZGJ hh,cond_true,cond_false,k4,k5,m1,m2,Z7W,Rw.e,ZB6,gA,Z5h]
  rw[show fitM (Nat.succ s.out.length) 24=true from Z8v (by omega),cond_true,Z8l]
  rfl
theorem ZLi (s:So) (h:s.B2):(bif(ltI 0 (w64 ((lenI (s.heap.map Rw.e))+(lenI (s.dfd.map Rw.e)))))then(((callI tE ZAD [(.sl (s.inp.map Rw.e)),(.int s.pos),(.sl (s.heap.map Rw.e)),(.sl (s.dfd.map Rw.e)),(.sl (s.out.map Rw.e)),(.sl (s.runs.map rsE)),(.int s.lp),(.int s.rp),(.int s.ph),(.int s.wr)])).bind (fun r5=>(some [(.sl (gl r5)),(.int (gn (tk 1 r5))),(.sl (gl (tk 2 r5))),(.sl (gl (tk 3 r5))),(.sl (gl (tk 4 r5))),(.sl (gl (tk 5 r5))),(.int (gn (tk 6 r5))),(.int (gn (tk 7 r5))),(.int (gn (tk 8 r5))),(.int (gn (tk 9 r5))),(.sl []),(.bool true)])))else(bif(ltI 0 (lenI (s.out.map Rw.e)))then(bif(fitM (Nat.succ (len (s.runs.map rsE))) 24)then(((callI tE Z6I [(.sl (s.inp.map Rw.e)),(.int s.pos),(.sl (s.heap.map Rw.e)),(.sl (s.dfd.map Rw.e)),(.sl []),(.sl (List.append (s.runs.map rsE) [[(.sl (s.out.map Rw.e))]])),(.int s.lp),(.int s.rp),(.int s.ph),(.int s.wr)])).bind (fun r5=>(some [(.sl (gl r5)),(.int (gn (tk 1 r5))),(.sl (gl (tk 2 r5))),(.sl (gl (tk 3 r5))),(.sl (gl (tk 4 r5))),(.sl (gl (tk 5 r5))),(.int (gn (tk 6 r5))),(.int (gn (tk 7 r5))),(.int (gn (tk 8 r5))),(.int (gn (tk 9 r5))),(.sl []),(.bool true)])))else none)else(((callI tE Z6I [(.sl (s.inp.map Rw.e)),(.int s.pos),(.sl (s.heap.map Rw.e)),(.sl (s.dfd.map Rw.e)),(.sl (s.out.map Rw.e)),(.sl (s.runs.map rsE)),(.int s.lp),(.int s.rp),(.int s.ph),(.int s.wr)])).bind (fun r5=>(some [(.sl (gl r5)),(.int (gn (tk 1 r5))),(.sl (gl (tk 2 r5))),(.sl (gl (tk 3 r5))),(.sl (gl (tk 4 r5))),(.sl (gl (tk 5 r5))),(.int (gn (tk 6 r5))),(.int (gn (tk 7 r5))),(.int (gn (tk 8 r5))),(.int (gn (tk 9 r5))),(.sl []),(.bool true)])))))=some (StR (ZJa s,[],true)):=by
 obtain⟨b1,b2,b3,b4,b5,b6⟩:=ZFD h
 have k2:=ZK5 s
 have k3:=ZK5 (ZEz s)
 simp only[So.e,ZEz,List.map_nil]at k2 k3
 have ew:w64 (lenI (s.heap.map Rw.e)+lenI (s.dfd.map Rw.e))=((s.heap.length+s.dfd.length:Nat):Int):=by rw[Z5L,Z5L,Z5a ⟨by omega,by omega⟩];omega
 rw[ew]
 unfold ZJa
 by_cases hh:s.heap=[]
 ·rw[if_pos hh]
  rw[hh]at k2 k3⊢
  by_cases hd:s.dfd=[]
  ·rw[if_pos hd]
   rw[hd]at k2 k3⊢
   by_cases ho:s.out=[]
   ·rw[if_pos ho]
    rw[ho]at k2 k3⊢
    rw[show ltI 0 (((([]:List Rw).length+([]:List Rw).length:Nat)):Int)=false from rfl]
    simp only[ZCG,cond_true,cond_false,k2,gA]
    simp only[ZBz,hh,hd,ho];rfl
   ·rw[if_neg ho]
    rw[show ltI 0 (((([]:List Rw).length+([]:List Rw).length:Nat)):Int)=false from rfl]
    simp only[ZCG,ZGJ ho,cond_true,cond_false,Z5h]
    rw[show fitM (Nat.succ s.runs.length) 24=true from Z8v (by omega),cond_true,show([[Dat.sl (s.out.map Rw.e)]]:Rows)=[[.sl (s.out.map Rw.e)]]from rfl,ZDM,k3]
    simp only[gA]
    simp only[ZBz,ZEz,hh,hd];rfl
  ·rw[if_neg hd,ZCS,ZDF,cond_true,Z5h,show fitM (Nat.succ s.runs.length) 24=true from Z8v (by omega),cond_true,ZDM]
   rw[show ltI 0 (((([]:List Rw).length+s.dfd.length:Nat)):Int)=true from ltT (by cases hq:s.dfd with|nil=>exact absurd hq hd|cons a l=>simp only[List.length_cons];omega)]
   rfl
 ·rw[if_neg hh]
  obtain⟨m1,m2,m3⟩:=ZKj hh
  have k4:=ZLg hh (by omega)
  have k5:=ZKi s.heap (ZDD s.heap) m3 (by omega)
  rw[show ltI 0 ((s.heap.length+s.dfd.length:Nat):Int)=true from ltT (by omega),ZCS]
  simp only[ZJb hh,cond_true,cond_false,k4,k5,m1,m2,Z7W,Rw.e,ZBn,gA,Z5h]
  rw[show fitM (Nat.succ s.out.length) 24=true from Z8v (by omega),cond_true,Z8l]
  rfl
theorem ZIZ (a b:List Rw) (r:List (List Rw)):inR 0 (lenI ((a::b::r).map rsE))=true∧inR 1 (lenI ((a::b::r).map rsE))=true∧gl (at' ((a::b::r).map rsE) (tn 0))=a.map Rw.e∧gl (at' ((a::b::r).map rsE) (tn 1))=b.map Rw.e∧
  (leI 0 2&&leI 2 (lenI ((a::b::r).map rsE)))=true∧List.take (tn (lenI ((a::b::r).map rsE)-2)) (List.drop (tn 2) ((a::b::r).map rsE))=r.map rsE:=by
 refine⟨ZBR (i:=0) (by simp),ZBR (i:=1) (by simp),rfl,rfl,?_,?_⟩
 ·rw[Z5L,leT (show(2:Int)≤((a::b::r).length:Nat)by simp only[List.length_cons];omega)];rfl
 ·rw[Z5L,show(((a::b::r).length:Nat):Int)-2=(r.length:Int)by simp only[List.length_cons];omega]
  show List.take r.length (r.map rsE)=_
  rw[List.take_of_length_le (by simp)]
theorem ZGj {l:List Rw} {p:Nat} (h:l[p]?=none) (hp:p≤l.length):eqI (p:Int) (lenI (l.map Rw.e))=true∧ltI (p:Int) (lenI (l.map Rw.e))=false:=by
 have:=List.getElem?_eq_none_iff.mp h
 rw[Z5L]
 exact⟨eqT (by omega),ltF (by omega)⟩
theorem ZCH {l:List Rw} {p:Nat} {x:Rw} (h:l[p]?=some x):eqI (p:Int) (lenI (l.map Rw.e))=false∧ltI (p:Int) (lenI (l.map Rw.e))=true∧inR (p:Int) (lenI (l.map Rw.e))=true∧at' (l.map Rw.e) p=x.e:=by
 have:=(List.getElem?_eq_some_iff.mp h).1
 refine⟨?_,?_,ZJZ h,ZJY h⟩
 ·rw[Z5L];exact eqF (by omega)
 ·rw[Z5L];exact ltT (by omega)
theorem ZLC (s:So) (h:s.B2) (hv:ZAJ s=true) (h1:s.ph≠1):(bif(eqI s.ph 2)then(bif(inR 0 (lenI (s.runs.map rsE)))then(bif(inR 1 (lenI (s.runs.map rsE)))then(bif(eqI s.lp (lenI (gl (at' (s.runs.map rsE) (tn 0)))))then(bif(eqI s.rp (lenI (gl (at' (s.runs.map rsE) (tn 1)))))then(bif((leI 0 2)&&(leI 2 (lenI (s.runs.map rsE))))then(((callI tE Z62 [(.sl (s.inp.map Rw.e)),(.int s.pos),(.sl (s.heap.map Rw.e)),(.sl (s.dfd.map Rw.e)),(.sl (s.out.map Rw.e)),(.sl (List.take (tn ((lenI (s.runs.map rsE))-2)) (List.drop (tn 2) (s.runs.map rsE)))),(.int s.lp),(.int s.rp),(.int s.ph),(.int s.wr)])).bind (fun r3=>(((callI tE Z5Y [(.sl (gl r3)),(.int (gn (tk 1 r3))),(.sl (gl (tk 2 r3))),(.sl (gl (tk 3 r3))),(.sl (gl (tk 4 r3))),(.sl (gl (tk 5 r3))),(.int (gn (tk 6 r3))),(.int (gn (tk 7 r3))),(.int (gn (tk 8 r3))),(.int (gn (tk 9 r3)))])).bind (fun r4=>(some [(.sl (gl r4)),(.int (gn (tk 1 r4))),(.sl (gl (tk 2 r4))),(.sl (gl (tk 3 r4))),(.sl (gl (tk 4 r4))),(.sl (gl (tk 5 r4))),(.int (gn (tk 6 r4))),(.int (gn (tk 7 r4))),(.int (gn (tk 8 r4))),(.int (gn (tk 9 r4))),(.sl []),(.bool true)])))))else none)else(bif(eqI s.rp (lenI (gl (at' (s.runs.map rsE) (tn 1)))))then(bif(inR s.lp (lenI (gl (at' (s.runs.map rsE) (tn 0)))))then(bif(fitM (Nat.succ (len (s.out.map Rw.e))) 24)then(((callI tE Z5O [(.int (gn (at' (gl (at' (s.runs.map rsE) (tn 0))) (tn s.lp)))),(.int (gn (tk 1 (at' (gl (at' (s.runs.map rsE) (tn 0))) (tn s.lp))))),(.int (gn (tk 2 (at' (gl (at' (s.runs.map rsE) (tn 0))) (tn s.lp)))))])).bind (fun r3=>(some [(.sl (s.inp.map Rw.e)),(.int s.pos),(.sl (s.heap.map Rw.e)),(.sl (s.dfd.map Rw.e)),(.sl (List.append (s.out.map Rw.e) [[(.int (gn (at' (gl (at' (s.runs.map rsE) (tn 0))) (tn s.lp)))),(.int (gn (tk 1 (at' (gl (at' (s.runs.map rsE) (tn 0))) (tn s.lp))))),(.int (gn (tk 2 (at' (gl (at' (s.runs.map rsE) (tn 0))) (tn s.lp)))))]])),(.sl (s.runs.map rsE)),(.int (w64 (s.lp+1))),(.int s.rp),(.int s.ph),(.int (w64 (s.wr+(gn r3)))),(.sl []),(.bool true)])))else none)else none)else(bif(ltI s.lp (lenI (gl (at' (s.runs.map rsE) (tn 0)))))then(bif(inR s.lp (lenI (gl (at' (s.runs.map rsE) (tn 0)))))then(bif(inR s.rp (lenI (gl (at' (s.runs.map rsE) (tn 1)))))then(((callI tE Z5Q [(.int (gn (at' (gl (at' (s.runs.map rsE) (tn 0))) (tn s.lp)))),(.int (gn (tk 1 (at' (gl (at' (s.runs.map rsE) (tn 0))) (tn s.lp))))),(.int (gn (tk 2 (at' (gl (at' (s.runs.map rsE) (tn 0))) (tn s.lp))))),(.int (gn (at' (gl (at' (s.runs.map rsE) (tn 1))) (tn s.rp)))),(.int (gn (tk 1 (at' (gl (at' (s.runs.map rsE) (tn 1))) (tn s.rp))))),(.int (gn (tk 2 (at' (gl (at' (s.runs.map rsE) (tn 1))) (tn s.rp)))))])).bind (fun r3=>(bif(leI (gn r3) 0)then(bif(inR s.lp (lenI (gl (at' (s.runs.map rsE) (tn 0)))))then(bif(fitM (Nat.succ (len (s.out.map Rw.e))) 24)then(((callI tE Z5O [(.int (gn (at' (gl (at' (s.runs.map rsE) (tn 0))) (tn s.lp)))),(.int (gn (tk 1 (at' (gl (at' (s.runs.map rsE) (tn 0))) (tn s.lp))))),(.int (gn (tk 2 (at' (gl (at' (s.runs.map rsE) (tn 0))) (tn s.lp)))))])).bind (fun r4=>(some [(.sl (s.inp.map Rw.e)),(.int s.pos),(.sl (s.heap.map Rw.e)),(.sl (s.dfd.map Rw.e)),(.sl (List.append (s.out.map Rw.e) [[(.int (gn (at' (gl (at' (s.runs.map rsE) (tn 0))) (tn s.lp)))),(.int (gn (tk 1 (at' (gl (at' (s.runs.map rsE) (tn 0))) (tn s.lp))))),(.int (gn (tk 2 (at' (gl (at' (s.runs.map rsE) (tn 0))) (tn s.lp)))))]])),(.sl (s.runs.map rsE)),(.int (w64 (s.lp+1))),(.int s.rp),(.int s.ph),(.int (w64 (s.wr+(gn r4)))),(.sl []),(.bool true)])))else none)else none)else(bif(inR s.rp (lenI (gl (at' (s.runs.map rsE) (tn 1)))))then(bif(fitM (Nat.succ (len (s.out.map Rw.e))) 24)then(((callI tE Z5O [(.int (gn (at' (gl (at' (s.runs.map rsE) (tn 1))) (tn s.rp)))),(.int (gn (tk 1 (at' (gl (at' (s.runs.map rsE) (tn 1))) (tn s.rp))))),(.int (gn (tk 2 (at' (gl (at' (s.runs.map rsE) (tn 1))) (tn s.rp)))))])).bind (fun r4=>(some [(.sl (s.inp.map Rw.e)),(.int s.pos),(.sl (s.heap.map Rw.e)),(.sl (s.dfd.map Rw.e)),(.sl (List.append (s.out.map Rw.e) [[(.int (gn (at' (gl (at' (s.runs.map rsE) (tn 1))) (tn s.rp)))),(.int (gn (tk 1 (at' (gl (at' (s.runs.map rsE) (tn 1))) (tn s.rp))))),(.int (gn (tk 2 (at' (gl (at' (s.runs.map rsE) (tn 1))) (tn s.rp)))))]])),(.sl (s.runs.map rsE)),(.int s.lp),(.int (w64 (s.rp+1))),(.int s.ph),(.int (w64 (s.wr+(gn r4)))),(.sl []),(.bool true)])))else none)else none))))else none)else none)else(bif(inR s.rp (lenI (gl (at' (s.runs.map rsE) (tn 1)))))then(bif(fitM (Nat.succ (len (s.out.map Rw.e))) 24)then(((callI tE Z5O [(.int (gn (at' (gl (at' (s.runs.map rsE) (tn 1))) (tn s.rp)))),(.int (gn (tk 1 (at' (gl (at' (s.runs.map rsE) (tn 1))) (tn s.rp))))),(.int (gn (tk 2 (at' (gl (at' (s.runs.map rsE) (tn 1))) (tn s.rp)))))])).bind (fun r3=>(some [(.sl (s.inp.map Rw.e)),(.int s.pos),(.sl (s.heap.map Rw.e)),(.sl (s.dfd.map Rw.e)),(.sl (List.append (s.out.map Rw.e) [[(.int (gn (at' (gl (at' (s.runs.map rsE) (tn 1))) (tn s.rp)))),(.int (gn (tk 1 (at' (gl (at' (s.runs.map rsE) (tn 1))) (tn s.rp))))),(.int (gn (tk 2 (at' (gl (at' (s.runs.map rsE) (tn 1))) (tn s.rp)))))]])),(.sl (s.runs.map rsE)),(.int s.lp),(.int (w64 (s.rp+1))),(.int s.ph),(.int (w64 (s.wr+(gn r3)))),(.sl []),(.bool true)])))else none)else none))))else(bif(eqI s.rp (lenI (gl (at' (s.runs.map rsE) (tn 1)))))then(bif(inR s.lp (lenI (gl (at' (s.runs.map rsE) (tn 0)))))then(bif(fitM (Nat.succ (len (s.out.map Rw.e))) 24)then(((callI tE Z5O [(.int (gn (at' (gl (at' (s.runs.map rsE) (tn 0))) (tn s.lp)))),(.int (gn (tk 1 (at' (gl (at' (s.runs.map rsE) (tn 0))) (tn s.lp))))),(.int (gn (tk 2 (at' (gl (at' (s.runs.map rsE) (tn 0))) (tn s.lp)))))])).bind (fun r3=>(some [(.sl (s.inp.map Rw.e)),(.int s.pos),(.sl (s.heap.map Rw.e)),(.sl (s.dfd.map Rw.e)),(.sl (List.append (s.out.map Rw.e) [[(.int (gn (at' (gl (at' (s.runs.map rsE) (tn 0))) (tn s.lp)))),(.int (gn (tk 1 (at' (gl (at' (s.runs.map rsE) (tn 0))) (tn s.lp))))),(.int (gn (tk 2 (at' (gl (at' (s.runs.map rsE) (tn 0))) (tn s.lp)))))]])),(.sl (s.runs.map rsE)),(.int (w64 (s.lp+1))),(.int s.rp),(.int s.ph),(.int (w64 (s.wr+(gn r3)))),(.sl []),(.bool true)])))else none)else none)else(bif(ltI s.lp (lenI (gl (at' (s.runs.map rsE) (tn 0)))))then(bif(inR s.lp (lenI (gl (at' (s.runs.map rsE) (tn 0)))))then(bif(inR s.rp (lenI (gl (at' (s.runs.map rsE) (tn 1)))))then(((callI tE Z5Q [(.int (gn (at' (gl (at' (s.runs.map rsE) (tn 0))) (tn s.lp)))),(.int (gn (tk 1 (at' (gl (at' (s.runs.map rsE) (tn 0))) (tn s.lp))))),(.int (gn (tk 2 (at' (gl (at' (s.runs.map rsE) (tn 0))) (tn s.lp))))),(.int (gn (at' (gl (at' (s.runs.map rsE) (tn 1))) (tn s.rp)))),(.int (gn (tk 1 (at' (gl (at' (s.runs.map rsE) (tn 1))) (tn s.rp))))),(.int (gn (tk 2 (at' (gl (at' (s.runs.map rsE) (tn 1))) (tn s.rp)))))])).bind (fun r3=>(bif(leI (gn r3) 0)then(bif(inR s.lp (lenI (gl (at' (s.runs.map rsE) (tn 0)))))then(bif(fitM (Nat.succ (len (s.out.map Rw.e))) 24)then(((callI tE Z5O [(.int (gn (at' (gl (at' (s.runs.map rsE) (tn 0))) (tn s.lp)))),(.int (gn (tk 1 (at' (gl (at' (s.runs.map rsE) (tn 0))) (tn s.lp))))),(.int (gn (tk 2 (at' (gl (at' (s.runs.map rsE) (tn 0))) (tn s.lp)))))])).bind (fun r4=>(some [(.sl (s.inp.map Rw.e)),(.int s.pos),(.sl (s.heap.map Rw.e)),(.sl (s.dfd.map Rw.e)),(.sl (List.append (s.out.map Rw.e) [[(.int (gn (at' (gl (at' (s.runs.map rsE) (tn 0))) (tn s.lp)))),(.int (gn (tk 1 (at' (gl (at' (s.runs.map rsE) (tn 0))) (tn s.lp))))),(.int (gn (tk 2 (at' (gl (at' (s.runs.map rsE) (tn 0))) (tn s.lp)))))]])),(.sl (s.runs.map rsE)),(.int (w64 (s.lp+1))),(.int s.rp),(.int s.ph),(.int (w64 (s.wr+(gn r4)))),(.sl []),(.bool true)])))else none)else none)else(bif(inR s.rp (lenI (gl (at' (s.runs.map rsE) (tn 1)))))then(bif(fitM (Nat.succ (len (s.out.map Rw.e))) 24)then(((callI tE Z5O [(.int (gn (at' (gl (at' (s.runs.map rsE) (tn 1))) (tn s.rp)))),(.int (gn (tk 1 (at' (gl (at' (s.runs.map rsE) (tn 1))) (tn s.rp))))),(.int (gn (tk 2 (at' (gl (at' (s.runs.map rsE) (tn 1))) (tn s.rp)))))])).bind (fun r4=>(some [(.sl (s.inp.map Rw.e)),(.int s.pos),(.sl (s.heap.map Rw.e)),(.sl (s.dfd.map Rw.e)),(.sl (List.append (s.out.map Rw.e) [[(.int (gn (at' (gl (at' (s.runs.map rsE) (tn 1))) (tn s.rp)))),(.int (gn (tk 1 (at' (gl (at' (s.runs.map rsE) (tn 1))) (tn s.rp))))),(.int (gn (tk 2 (at' (gl (at' (s.runs.map rsE) (tn 1))) (tn s.rp)))))]])),(.sl (s.runs.map rsE)),(.int s.lp),(.int (w64 (s.rp+1))),(.int s.ph),(.int (w64 (s.wr+(gn r4)))),(.sl []),(.bool true)])))else none)else none))))else none)else none)else(bif(inR s.rp (lenI (gl (at' (s.runs.map rsE) (tn 1)))))then(bif(fitM (Nat.succ (len (s.out.map Rw.e))) 24)then(((callI tE Z5O [(.int (gn (at' (gl (at' (s.runs.map rsE) (tn 1))) (tn s.rp)))),(.int (gn (tk 1 (at' (gl (at' (s.runs.map rsE) (tn 1))) (tn s.rp))))),(.int (gn (tk 2 (at' (gl (at' (s.runs.map rsE) (tn 1))) (tn s.rp)))))])).bind (fun r3=>(some [(.sl (s.inp.map Rw.e)),(.int s.pos),(.sl (s.heap.map Rw.e)),(.sl (s.dfd.map Rw.e)),(.sl (List.append (s.out.map Rw.e) [[(.int (gn (at' (gl (at' (s.runs.map rsE) (tn 1))) (tn s.rp)))),(.int (gn (tk 1 (at' (gl (at' (s.runs.map rsE) (tn 1))) (tn s.rp))))),(.int (gn (tk 2 (at' (gl (at' (s.runs.map rsE) (tn 1))) (tn s.rp)))))]])),(.sl (s.runs.map rsE)),(.int s.lp),(.int (w64 (s.rp+1))),(.int s.ph),(.int (w64 (s.wr+(gn r3)))),(.sl []),(.bool true)])))else none)else none))))else none)else none)else(bif(eqI s.ph 3)then(bif(inR 0 (lenI (s.runs.map rsE)))then(bif(inR s.lp (lenI (gl (at' (s.runs.map rsE) (tn 0)))))then(bif(fitM 1 24)then(bif(eqI (w64 (s.lp+1)) (lenI (s.inp.map Rw.e)))then(some [(.sl (s.inp.map Rw.e)),(.int s.pos),(.sl (s.heap.map Rw.e)),(.sl (s.dfd.map Rw.e)),(.sl (s.out.map Rw.e)),(.sl (s.runs.map rsE)),(.int (w64 (s.lp+1))),(.int s.rp),(.int 4),(.int s.wr),(.sl [[(.int (gn (at' (gl (at' (s.runs.map rsE) (tn 0))) (tn s.lp)))),(.int (gn (tk 1 (at' (gl (at' (s.runs.map rsE) (tn 0))) (tn s.lp))))),(.int (gn (tk 2 (at' (gl (at' (s.runs.map rsE) (tn 0))) (tn s.lp)))))]]),(.bool true)])else(some [(.sl (s.inp.map Rw.e)),(.int s.pos),(.sl (s.heap.map Rw.e)),(.sl (s.dfd.map Rw.e)),(.sl (s.out.map Rw.e)),(.sl (s.runs.map rsE)),(.int (w64 (s.lp+1))),(.int s.rp),(.int s.ph),(.int s.wr),(.sl [[(.int (gn (at' (gl (at' (s.runs.map rsE) (tn 0))) (tn s.lp)))),(.int (gn (tk 1 (at' (gl (at' (s.runs.map rsE) (tn 0))) (tn s.lp))))),(.int (gn (tk 2 (at' (gl (at' (s.runs.map rsE) (tn 0))) (tn s.lp)))))]]),(.bool true)]))else none)else none)else none)else(some [(.sl (s.inp.map Rw.e)),(.int s.pos),(.sl (s.heap.map Rw.e)),(.sl (s.dfd.map Rw.e)),(.sl (s.out.map Rw.e)),(.sl (s.runs.map rsE)),(.int s.lp),(.int s.rp),(.int s.ph),(.int s.wr),(.sl []),(.bool true)])))=some (StR (if s.ph=2 then(ZGh s,[],true)else if s.ph=3 then((ZEi s).1,(ZEi s).2,true)else(s,[],true))):=by
 obtain⟨b1,b2,b3,b4,b5,b6⟩:=ZFD h
 obtain⟨_,_,_,_,hl⟩:=Z8i (Z85 hv).2.2.2.2.2.2 h1
 by_cases h2:s.ph=2
 ·obtain⟨a,b,r,e,⟨l0,l1⟩,⟨r0,r1⟩,_,_⟩:=ZCf hl h2
  obtain⟨inp,pos,heap,dfd,out,runs,lp,rp,ph,wr⟩:=s
  simp only at*
  subst e
  obtain⟨p,rfl⟩:∃p:Nat,lp=p:=⟨lp.toNat,by omega⟩
  obtain⟨q,rfl⟩:∃q:Nat,rp=q:=⟨rp.toNat,by omega⟩
  obtain⟨q1,q2,q3,q4,q5,q6⟩:=ZIZ a b r
  have k1:=ZIY ⟨inp,pos,heap,dfd,out,r,p,q,ph,wr⟩ (by
   have h:So.sz _≤1073741800:=h
   simp only[So.sz,szL]at h
   show So.sz _≤1073741824
   simp only[So.sz];omega)
  have k2:=ZDE (ZEz ⟨inp,pos,heap,dfd,out,r,p,q,ph,wr⟩)
  simp only[So.e,ZEz,List.map_nil]at k1 k2
  rw[eqT h2,if_pos h2,cond_true]
  unfold ZGh
  simp only[Int.toNat_natCast]
  cases ha:a[p]? with
  |none=>
   obtain⟨n1,n2⟩:=ZGj ha (by omega)
   cases hb:b[q]? with
   |none=>
    obtain⟨m1,m2⟩:=ZGj hb (by omega)
    simp only[q1,q2,q3,q4,q5,q6,n1,n2,m1,m2,cond_true,cond_false,k1,k2,gA]
    rfl
   |some y=>
    obtain⟨m1,m2,m3,m4⟩:=ZCH hb
    simp only[q1,q2,q3,q4,n1,n2,m1,m2,m3,m4,cond_true,cond_false,Z7W,Rw.e,ZB6,gA,Z5h]
    rw[show fitM (Nat.succ out.length) 24=true from Z8v (by omega),cond_true,Z8l]
    rfl
  |some x=>
   obtain⟨n1,n2,n3,n4⟩:=ZCH ha
   cases hb:b[q]? with
   |none=>
    obtain⟨m1,m2⟩:=ZGj hb (by omega)
    simp only[q1,q2,q3,q4,n1,n2,n3,n4,m1,m2,cond_true,cond_false,Z7W,Rw.e,ZB6,gA,Z5h]
    rw[show fitM (Nat.succ out.length) 24=true from Z8v (by omega),cond_true,Z8l]
    rfl
   |some y=>
    obtain⟨m1,m2,m3,m4⟩:=ZCH hb
    simp only[q1,q2,q3,q4,n1,n2,n3,n4,m1,m2,m3,m4,cond_true,cond_false,Z7W,Rw.e,ZB6,ZBo,ZFU,gA,Z5h]
    rw[show fitM (Nat.succ out.length) 24=true from Z8v (by omega)]
    by_cases hle:Rw.le x y
    ·rw[decide_eq_true hle,if_pos hle]
     simp only[cond_true]
     rw[Z8l];rfl
    ·rw[decide_eq_false hle,if_neg hle]
     simp only[cond_true,cond_false]
     rw[Z8l];rfl
 ·rw[eqF h2,if_neg h2,cond_false]
  by_cases h3:s.ph=3
  ·obtain⟨e,⟨l0,l1⟩,_,_⟩:=ZCg hl h3
   obtain⟨hp1,hp2,hp3,hp4,_⟩:=Z8i (Z85 hv).2.2.2.2.2.2 h1
   obtain⟨inp,pos,heap,dfd,out,runs,lp,rp,ph,wr⟩:=s
   simp only at*
   obtain⟨a,rfl⟩:=List.length_eq_one_iff.mp e
   obtain⟨p,rfl⟩:∃p:Nat,lp=p:=⟨lp.toNat,by omega⟩
   have hal:a.length=inp.length:=by have:=hp4.length_eq;simpa using this
   obtain⟨x,hx⟩:∃x,a[p]?=some x:=⟨_,List.getElem?_eq_getElem (by omega)⟩
   obtain⟨n1,n2,n3,n4⟩:=ZCH hx
   rw[eqT h3,if_pos h3,cond_true]
   unfold ZEi
   simp only[Int.toNat_natCast,hx]
   rw[show inR 0 (lenI ([a].map rsE))=true from ZBR (i:=0) (by simp),show gl (at' ([a].map rsE) (tn 0))=a.map Rw.e from rfl,n3,show fitM 1 24=true from Z8v (by omega),Z5L]
   simp only[cond_true,Z7W,n4,Rw.e,gA]
   by_cases hw:w64 ((p:Int)+1)=(inp.length:Int)
   ·rw[eqT hw,if_pos hw];rfl
   ·rw[eqF hw,if_neg hw];rfl
  ·rw[eqF h3,if_neg h3];rfl
theorem ZLD (s:So) (h:s.B2) (hv:ZAJ s=true) (h1:s.ph≠1) (h4:s.ph≠4):(bif(eqI s.ph 2)then(((callI tE Z6J [(.sl (s.runs.map rsE)),(.int 0),(.int s.lp)])).bind (fun r3=>(((callI tE Z6J [(.sl (s.runs.map rsE)),(.int 1),(.int s.rp)])).bind (fun r4=>(bif(eqI (w64 ((lenI (gl r3))+(lenI (gl r4)))) 0)then(bif((leI 0 2)&&(leI 2 (lenI (s.runs.map rsE))))then(bif(fitM (Nat.succ (len (List.take (tn ((lenI (s.runs.map rsE))-2)) (List.drop (tn 2) (s.runs.map rsE))))) 24)then(((callI tE Z6I [(.sl (s.inp.map Rw.e)),(.int s.pos),(.sl (s.heap.map Rw.e)),(.sl (s.dfd.map Rw.e)),(.sl []),(.sl (List.append (List.take (tn ((lenI (s.runs.map rsE))-2)) (List.drop (tn 2) (s.runs.map rsE))) [[(.sl (s.out.map Rw.e))]])),(.int s.lp),(.int s.rp),(.int s.ph),(.int s.wr)])).bind (fun r5=>(some [(.sl (gl r5)),(.int (gn (tk 1 r5))),(.sl (gl (tk 2 r5))),(.sl (gl (tk 3 r5))),(.sl (gl (tk 4 r5))),(.sl (gl (tk 5 r5))),(.int (gn (tk 6 r5))),(.int (gn (tk 7 r5))),(.int (gn (tk 8 r5))),(.int (gn (tk 9 r5))),(.sl []),(.bool true)])))else none)else none)else(bif(eqI (lenI (gl r4)) 0)then(bif(inR 0 (lenI (gl r3)))then(bif(fitM (Nat.succ (len (s.out.map Rw.e))) 24)then(bif(inR 0 (lenI (gl r3)))then(((callI tE Z5p [(.int (gn (at' (gl r3) (tn 0)))),(.int (gn (tk 1 (at' (gl r3) (tn 0))))),(.int (gn (tk 2 (at' (gl r3) (tn 0)))))])).bind (fun r5=>(some [(.sl (s.inp.map Rw.e)),(.int s.pos),(.sl (s.heap.map Rw.e)),(.sl (s.dfd.map Rw.e)),(.sl (List.append (s.out.map Rw.e) [[(.int (gn (at' (gl r3) (tn 0)))),(.int (gn (tk 1 (at' (gl r3) (tn 0))))),(.int (gn (tk 2 (at' (gl r3) (tn 0)))))]])),(.sl (s.runs.map rsE)),(.int (w64 (s.lp+1))),(.int s.rp),(.int s.ph),(.int (w64 (s.wr+(gn r5)))),(.sl []),(.bool true)])))else none)else none)else none)else(bif(ltI 0 (lenI (gl r3)))then(bif(inR 0 (lenI (gl r3)))then(bif(inR 0 (lenI (gl r4)))then(((callI tE Z5j [(.int (gn (at' (gl r3) (tn 0)))),(.int (gn (tk 1 (at' (gl r3) (tn 0))))),(.int (gn (tk 2 (at' (gl r3) (tn 0))))),(.int (gn (at' (gl r4) (tn 0)))),(.int (gn (tk 1 (at' (gl r4) (tn 0))))),(.int (gn (tk 2 (at' (gl r4) (tn 0)))))])).bind (fun r5=>(bif(leI (gn r5) 0)then(bif(inR 0 (lenI (gl r3)))then(bif(fitM (Nat.succ (len (s.out.map Rw.e))) 24)then(bif(inR 0 (lenI (gl r3)))then(((callI tE Z5p [(.int (gn (at' (gl r3) (tn 0)))),(.int (gn (tk 1 (at' (gl r3) (tn 0))))),(.int (gn (tk 2 (at' (gl r3) (tn 0)))))])).bind (fun r6=>(some [(.sl (s.inp.map Rw.e)),(.int s.pos),(.sl (s.heap.map Rw.e)),(.sl (s.dfd.map Rw.e)),(.sl (List.append (s.out.map Rw.e) [[(.int (gn (at' (gl r3) (tn 0)))),(.int (gn (tk 1 (at' (gl r3) (tn 0))))),(.int (gn (tk 2 (at' (gl r3) (tn 0)))))]])),(.sl (s.runs.map rsE)),(.int (w64 (s.lp+1))),(.int s.rp),(.int s.ph),(.int (w64 (s.wr+(gn r6)))),(.sl []),(.bool true)])))else none)else none)else none)else(bif(inR 0 (lenI (gl r4)))then(bif(fitM (Nat.succ (len (s.out.map Rw.e))) 24)then(bif(inR 0 (lenI (gl r4)))then(((callI tE Z5p [(.int (gn (at' (gl r4) (tn 0)))),(.int (gn (tk 1 (at' (gl r4) (tn 0))))),(.int (gn (tk 2 (at' (gl r4) (tn 0)))))])).bind (fun r6=>(some [(.sl (s.inp.map Rw.e)),(.int s.pos),(.sl (s.heap.map Rw.e)),(.sl (s.dfd.map Rw.e)),(.sl (List.append (s.out.map Rw.e) [[(.int (gn (at' (gl r4) (tn 0)))),(.int (gn (tk 1 (at' (gl r4) (tn 0))))),(.int (gn (tk 2 (at' (gl r4) (tn 0)))))]])),(.sl (s.runs.map rsE)),(.int s.lp),(.int (w64 (s.rp+1))),(.int s.ph),(.int (w64 (s.wr+(gn r6)))),(.sl []),(.bool true)])))else none)else none)else none))))else none)else none)else(bif(inR 0 (lenI (gl r4)))then(bif(fitM (Nat.succ (len (s.out.map Rw.e))) 24)then(bif(inR 0 (lenI (gl r4)))then(((callI tE Z5p [(.int (gn (at' (gl r4) (tn 0)))),(.int (gn (tk 1 (at' (gl r4) (tn 0))))),(.int (gn (tk 2 (at' (gl r4) (tn 0)))))])).bind (fun r5=>(some [(.sl (s.inp.map Rw.e)),(.int s.pos),(.sl (s.heap.map Rw.e)),(.sl (s.dfd.map Rw.e)),(.sl (List.append (s.out.map Rw.e) [[(.int (gn (at' (gl r4) (tn 0)))),(.int (gn (tk 1 (at' (gl r4) (tn 0))))),(.int (gn (tk 2 (at' (gl r4) (tn 0)))))]])),(.sl (s.runs.map rsE)),(.int s.lp),(.int (w64 (s.rp+1))),(.int s.ph),(.int (w64 (s.wr+(gn r5)))),(.sl []),(.bool true)])))else none)else none)else none))))))))else(bif(eqI (w64 (s.lp+1)) (lenI (s.inp.map Rw.e)))then(bif(inR 0 (lenI (s.runs.map rsE)))then(bif(inR s.lp (lenI (gl (at' (s.runs.map rsE) (tn 0)))))then(some [(.sl (s.inp.map Rw.e)),(.int s.pos),(.sl (s.heap.map Rw.e)),(.sl (s.dfd.map Rw.e)),(.sl (s.out.map Rw.e)),(.sl (s.runs.map rsE)),(.int (w64 (s.lp+1))),(.int s.rp),(.int 4),(.int s.wr),(.sl [[(.int (gn (at' (gl (at' (s.runs.map rsE) (tn 0))) (tn s.lp)))),(.int (gn (tk 1 (at' (gl (at' (s.runs.map rsE) (tn 0))) (tn s.lp))))),(.int (gn (tk 2 (at' (gl (at' (s.runs.map rsE) (tn 0))) (tn s.lp)))))]]),(.bool true)])else none)else none)else(bif(inR 0 (lenI (s.runs.map rsE)))then(bif(inR s.lp (lenI (gl (at' (s.runs.map rsE) (tn 0)))))then(some [(.sl (s.inp.map Rw.e)),(.int s.pos),(.sl (s.heap.map Rw.e)),(.sl (s.dfd.map Rw.e)),(.sl (s.out.map Rw.e)),(.sl (s.runs.map rsE)),(.int (w64 (s.lp+1))),(.int s.rp),(.int s.ph),(.int s.wr),(.sl [[(.int (gn (at' (gl (at' (s.runs.map rsE) (tn 0))) (tn s.lp)))),(.int (gn (tk 1 (at' (gl (at' (s.runs.map rsE) (tn 0))) (tn s.lp))))),(.int (gn (tk 2 (at' (gl (at' (s.runs.map rsE) (tn 0))) (tn s.lp)))))]]),(.bool true)])else none)else none)))=some (StR (if s.ph=2 then(ZGh s,[],true)else((ZEi s).1,(ZEi s).2,true))):=by
 obtain⟨b1,b2,b3,b4,b5,b6⟩:=ZFD h
 obtain⟨_,_,_,_,hl⟩:=Z8i (Z85 hv).2.2.2.2.2.2 h1
 by_cases h2:s.ph=2
 ·obtain⟨a,b,r,e,⟨l0,l1⟩,⟨r0,r1⟩,_,_⟩:=ZCf hl h2
  obtain⟨inp,pos,heap,dfd,out,runs,lp,rp,ph,wr⟩:=s
  simp only at*
  subst e
  obtain⟨p,rfl⟩:∃p:Nat,lp=p:=⟨lp.toNat,by omega⟩
  obtain⟨q,rfl⟩:∃q:Nat,rp=q:=⟨rp.toNat,by omega⟩
  obtain⟨q1,q2,q3,q4,q5,q6⟩:=ZIZ a b r
  obtain⟨w1,e1,_,_,g1⟩:=ZGC (a::b::r) 0 (p:Int) (show szL List.length (a::b::r)≤1073741824 by omega) (by omega)
  obtain⟨w2,e2,_,_,g2⟩:=ZGC (a::b::r) 1 (q:Int) (show szL List.length (a::b::r)≤1073741824 by omega) (by omega)
  simp only[List.getElem?_cons_zero,List.getElem?_cons_succ,Int.toNat_natCast]at g1 g2
  have k2:=ZK5 (ZEz ⟨inp,pos,heap,dfd,out,r,p,q,ph,wr⟩)
  simp only[So.e,ZEz,List.map_nil]at k2
  have z00:eqI (w64 (lenI (([]:List Rw).map Rw.e)+lenI (([]:List Rw).map Rw.e))) 0=true:=rfl
  have z10:∀x:Rw,eqI (w64 (lenI (([x]:List Rw).map Rw.e)+lenI (([]:List Rw).map Rw.e))) 0=false:=fun x=>rfl
  have z01:∀x:Rw,eqI (w64 (lenI (([]:List Rw).map Rw.e)+lenI (([x]:List Rw).map Rw.e))) 0=false:=fun x=>rfl
  have z11:∀x y:Rw,eqI (w64 (lenI (([x]:List Rw).map Rw.e)+lenI (([y]:List Rw).map Rw.e))) 0=false:=fun x y=>rfl
  have e1:callI tE Z6J [.sl ((a::b::r).map rsE),.int 0,.int (p:Int)]=some [.sl (w1.map Rw.e)]:=e1
  have e2:callI tE Z6J [.sl ((a::b::r).map rsE),.int 1,.int (q:Int)]=some [.sl (w2.map Rw.e)]:=e2
  rw[eqT h2,if_pos h2,cond_true]
  simp only[e1,e2,gA]
  unfold ZGh
  simp only[Int.toNat_natCast]
  cases ha:a[p]? with
  |none=>
   rw[ha]at g1
   simp only at g1
   subst g1
   cases hb:b[q]? with
   |none=>
    rw[hb]at g2
    simp only at g2
    subst g2
    simp only[z00,q5,q6,cond_true,Z5h]
    have h:So.sz _≤1073741800:=h
    have hl2:=Z7t List.length r
    simp only[So.sz,szL]at h
    rw[show fitM (Nat.succ r.length) 24=true from Z8v (by omega),cond_true,ZDM,k2]
    rfl
   |some y=>
    rw[hb]at g2
    simp only at g2
    subst g2
    simp only[z01,ZDF,ZCG,ZKO,ZD7,ZKN,ZD6,cond_true,cond_false,Rw.e,ZBn,gA,Z5h]
    rw[show fitM (Nat.succ out.length) 24=true from Z8v (by omega),cond_true,Z8l]
    rfl
  |some x=>
   rw[ha]at g1
   simp only at g1
   subst g1
   cases hb:b[q]? with
   |none=>
    rw[hb]at g2
    simp only at g2
    subst g2
    simp only[z10,ZDF,ZCG,ZKO,ZD7,ZKN,ZD6,cond_true,cond_false,Rw.e,ZBn,gA,Z5h]
    rw[show fitM (Nat.succ out.length) 24=true from Z8v (by omega),cond_true,Z8l]
    rfl
   |some y=>
    rw[hb]at g2
    simp only at g2
    subst g2
    simp only[z11,ZKO,ZD7,ZKN,ZD6,cond_true,cond_false,Rw.e,ZBn,ZB7,ZFU,gA,Z5h]
    rw[show fitM (Nat.succ out.length) 24=true from Z8v (by omega)]
    by_cases hle:Rw.le x y
    ·rw[decide_eq_true hle,if_pos hle]
     simp only[cond_true]
     rw[Z8l];rfl
    ·rw[decide_eq_false hle,if_neg hle]
     simp only[cond_true,cond_false]
     rw[Z8l];rfl
 ·rw[eqF h2,if_neg h2,cond_false]
  have h3:s.ph=3:=by rcases ZBg hl with e|e|e<;>first|exact absurd e h2|exact e|exact absurd e h4
  obtain⟨e,⟨l0,l1⟩,_,_⟩:=ZCg hl h3
  obtain⟨hp1,hp2,hp3,hp4,_⟩:=Z8i (Z85 hv).2.2.2.2.2.2 h1
  obtain⟨inp,pos,heap,dfd,out,runs,lp,rp,ph,wr⟩:=s
  simp only at*
  obtain⟨a,rfl⟩:=List.length_eq_one_iff.mp e
  obtain⟨p,rfl⟩:∃p:Nat,lp=p:=⟨lp.toNat,by omega⟩
  have hal:a.length=inp.length:=by have:=hp4.length_eq;simpa using this
  obtain⟨x,hx⟩:∃x,a[p]?=some x:=⟨_,List.getElem?_eq_getElem (by omega)⟩
  obtain⟨n1,n2,n3,n4⟩:=ZCH hx
  unfold ZEi
  simp only[Int.toNat_natCast,hx]
  rw[show inR 0 (lenI ([a].map rsE))=true from ZBR (i:=0) (by simp),show gl (at' ([a].map rsE) (tn 0))=a.map Rw.e from rfl,n3,Z5L]
  simp only[cond_true,Z7W,n4,Rw.e,gA]
  by_cases hw:w64 ((p:Int)+1)=(inp.length:Int)
  ·rw[eqT hw,if_pos hw];rfl
  ·rw[eqF hw,if_neg hw];rfl
theorem ZHP {s:So} {g:Int} {r:Rw}:leI (w64 ((ZD8 s:Nat)+(r.cost:Nat))) g=ZHs s g r∨1073741824<ZD8 s:=by
 have:=ZB5 r
 by_cases h:1073741824<ZD8 s
 ·exact .inr h
 ·refine .inl ?_
  unfold ZHs
  rw[Z5a ⟨by omega,by omega⟩]
theorem ZKk {s:So} (hv:ZAJ s=true) (h1:s.ph=1):ZD8 s≤60:=(ZBH (Z85 hv).2.2.2.2.2.2 h1).2.2.2.1
theorem ZK6 (s:So) (g:Int) (h:s.B2):callI tE Z9M [.sl (s.inp.map Rw.e),.int s.pos,.sl (s.heap.map Rw.e),.sl (s.dfd.map Rw.e),.sl (s.out.map Rw.e),.sl (s.runs.map rsE),.int s.lp,.int s.rp,.int s.ph,.int s.wr,.int g]=some (StR (ZF0 s g)):=by
 obtain⟨b1,b2,b3,b4,b5,b6⟩:=ZFD h
 rw[ZCw,ZJA s h.b,ZCb s h,ZHO]
 simp only[gA]
 unfold ZF0 ZGi
 cases hv:ZAJ s with
 |false=>rfl
 |true=>
  cases hg:win g 8 60 with
  |false=>rfl
  |true=>
   by_cases h4:s.ph=4
   ·rw[eqT h4];rfl
   ·rw[eqF h4]
    by_cases h1:s.ph=1
    ·rw[eqT h1,if_pos h1]
     have hm:=ZKk hv h1
     obtain⟨_,⟨p0,p1⟩,_⟩:=Z85 hv
     have hT:=ZLh s h
     simp only[Bool.not_true,Bool.not_false,Bool.and_self,cond_true,cond_false,ZLN s h.b,gA]
     unfold ZJB
     cases hq:s.inp[s.pos.toNat]? with
     |none=>
      have hp:ltI s.pos (lenI (s.inp.map Rw.e))=false:=by rw[Z5L];exact ltF (by have:=List.getElem?_eq_none_iff.mp hq;omega)
      rw[hp,cond_false]
      exact hT
     |some r=>
      have hlt:=(List.getElem?_eq_some_iff.mp hq).1
      obtain⟨p,hp⟩:∃p:Nat,s.pos=p:=⟨s.pos.toNat,by omega⟩
      rw[hp,Int.toNat_natCast]at hq
      obtain⟨n1,n2,n3,n4⟩:=ZCH hq
      rw[←hp]at n2 n3
      have n4:at' (s.inp.map Rw.e) (tn s.pos)=r.e:=by rw[hp,Z7W];exact n4
      have hf:leI (w64 ((ZD8 s:Nat)+(r.cost:Nat))) g=ZHs s g r:=ZHP.resolve_right (by omega)
      simp only[n2,n3,n4,cond_true,Rw.e,ZB6,hf,gA]
      cases hfit:ZHs s g r with
      |false=>simp only[cond_false,Bool.false_eq_true,if_false];exact hT
      |true=>
       simp only[cond_true,if_true,ZJU r s.out (by omega),gA,Z5h]
       rw[show fitM (Nat.succ s.dfd.length) 24=true from Z8v (by omega),show fitM (Nat.succ s.heap.length) 24=true from Z8v (by omega),cond_true,cond_true,Z8l,Z8l]
       unfold ZIX
       cases Z9l r s.out<;>rfl
    ·rw[eqF h1,if_neg h1]
     have hL:=ZLC s h hv h1
     simp only[Bool.not_true,Bool.not_false,Bool.and_self,cond_true,cond_false]
     refine hL.trans ?_
     by_cases h2:s.ph=2
     ·rw[if_pos h2,if_pos h2]
     ·rw[if_neg h2,if_neg h2]
      obtain⟨_,_,_,_,hl⟩:=Z8i (Z85 hv).2.2.2.2.2.2 h1
      rw[if_pos (by rcases ZBg hl with e|e|e<;>first|exact absurd e h2|exact e|exact absurd e h4)]
theorem ZK7 (s:So) (g:Int) (h:s.B2):callI tE Z9N [.sl (s.inp.map Rw.e),.int s.pos,.sl (s.heap.map Rw.e),.sl (s.dfd.map Rw.e),.sl (s.out.map Rw.e),.sl (s.runs.map rsE),.int s.lp,.int s.rp,.int s.ph,.int s.wr,.int g]=some (StR (ZF0 s g)):=by
 obtain⟨b1,b2,b3,b4,b5,b6⟩:=ZFD h
 rw[ZCz,ZK4 s h.b,ZDp s h,ZCt]
 simp only[gA]
 unfold ZF0 ZGi
 cases hv:ZAJ s with
 |false=>rfl
 |true=>
  cases hg:win g 8 60 with
  |false=>rfl
  |true=>
   by_cases h4:s.ph=4
   ·rw[eqT h4];rfl
   ·rw[eqF h4]
    by_cases h1:s.ph=1
    ·rw[eqT h1,if_pos h1]
     have hm:=ZKk hv h1
     obtain⟨_,⟨p0,p1⟩,_⟩:=Z85 hv
     have hT:=ZLi s h
     simp only[Bool.not_true,Bool.not_false,Bool.and_self,cond_true,cond_false,ZLO s h.b,gA]
     unfold ZJB
     cases hq:s.inp[s.pos.toNat]? with
     |none=>
      have hp:ltI s.pos (lenI (s.inp.map Rw.e))=false:=by rw[Z5L];exact ltF (by have:=List.getElem?_eq_none_iff.mp hq;omega)
      rw[hp,cond_false]
      exact hT
     |some r=>
      have hlt:=(List.getElem?_eq_some_iff.mp hq).1
      obtain⟨p,hp⟩:∃p:Nat,s.pos=p:=⟨s.pos.toNat,by omega⟩
      rw[hp,Int.toNat_natCast]at hq
      obtain⟨n1,n2,n3,n4⟩:=ZCH hq
      rw[←hp]at n2 n3
      have n4:at' (s.inp.map Rw.e) (tn s.pos)=r.e:=by rw[hp,Z7W];exact n4
      have hf:leI (w64 ((ZD8 s:Nat)+(r.cost:Nat))) g=ZHs s g r:=ZHP.resolve_right (by omega)
      simp only[n2,n3,n4,cond_true,Rw.e,ZBn,hf,gA]
      cases hfit:ZHs s g r with
      |false=>simp only[cond_false,Bool.false_eq_true,if_false];exact hT
      |true=>
       simp only[cond_true,if_true,Z5h]
       rw[show fitM (Nat.succ s.dfd.length) 24=true from Z8v (by omega),show fitM (Nat.succ s.heap.length) 24=true from Z8v (by omega)]
       unfold ZIX
       rcases ZFd s.out with ho|⟨u,x,ho⟩
       ·rw[ho,ZCG,ZBq]
        simp only[cond_true,cond_false]
        rw[Z8l];rfl
       ·have e1:w64 (lenI (s.out.map Rw.e)-1)=(u.length:Int):=by rw[Z5L,ho,Z5a ⟨by simp only[List.length_append,List.length_singleton];omega,by rw[ho]at b4;simp only[List.length_append,List.length_singleton]at*;omega⟩];simp
        have hux:s.out[u.length]?=some x:=by rw[ho];simp
        rw[ZGJ (by rw[ho];simp),e1,ZJZ hux,Z7W,ZJY hux]
        simp only[cond_true,Rw.e,ZB7,ZAQ,gA]
        rw[ho,ZAS]
        by_cases hlt:Rw.lt r x
        ·rw[decide_eq_true hlt]
         simp only[cond_true]
         rw[Z8l];rfl
        ·rw[decide_eq_false hlt]
         simp only[cond_true,cond_false]
         rw[Z8l];rfl
    ·rw[eqF h1,if_neg h1]
     have hL:=ZLD s h hv h1 h4
     simp only[Bool.not_true,Bool.not_false,Bool.and_self,cond_true,cond_false]
     exact hL
theorem Z9z {s:So} (h1:aok s.inp=true) (h2:0≤s.pos∧s.pos≤s.inp.length) (h3:∀r∈s.runs,ZAy r=true) (h4:0≤s.wr) (h5:Srt s.out) (h6:∀r∈s.heap,Z9l r s.out=false) (h7:Z9L s=true):ZAJ s=true:=by
 simp only[ZAJ,Bool.and_eq_true,Z9R,decide_eq_true_eq,List.all_eq_true,ZES,Bool.not_eq_true']
 exact⟨h1,h2,h3,h4,h5,h6,h7⟩
theorem ZAz {s:So} (p:s.ph=1) (h1:s.lp=0) (h2:s.rp=0) (h3:s.out≠[]∨s.dfd=[]) (h4:ZD8 s≤60) (h5:(s.runs.flatten++(s.out++(s.heap++s.dfd))).Perm (s.inp.take s.pos.toNat)):Z9L s=true:=by
 unfold Z9L
 rw[if_pos p]
 simp only[Bool.and_eq_true,decide_eq_true_eq,ZBd]
 exact⟨h1,h2,h3,h4,h5⟩
theorem Z9Y {s:So} (p:s.ph≠1) (h1:s.pos=s.inp.length) (h2:s.heap=[]) (h3:s.dfd=[]) (h4:s.runs.flatten.Perm s.inp) (h5:Z8t s=true):Z9L s=true:=by
 unfold Z9L
 rw[if_neg p]
 simp only[Bool.and_eq_true,decide_eq_true_eq,ZBd]
 exact⟨h1,h2,h3,h4,h5⟩
theorem ZDG {s:So} (p:s.ph=2) {a b:List Rw} {r:List (List Rw)} (e:s.runs=a::b::r) (h1:0≤s.lp∧s.lp≤a.length) (h2:0≤s.rp∧s.rp≤b.length) (h3:s.out=mrg (a.take s.lp.toNat) (b.take s.rp.toNat)) (h4:s.out=(mrg a b).take (s.lp.toNat+s.rp.toNat)):Z8t s=true:=by
 unfold Z8t
 rw[if_pos p]
 unfold ZEU
 rw[e]
 simp only[Bool.and_eq_true,decide_eq_true_eq,Z9R]
 exact⟨h1,h2,h3,h4⟩
theorem ZFE {s:So} (p:s.ph=3) (h1:s.runs.length=1) (h2:0≤s.lp∧s.lp<s.inp.length) (h3:s.rp=0) (h4:s.out=[]):Z8t s=true:=by
 unfold Z8t
 rw[if_neg (by omega),if_pos p]
 simp only[Bool.and_eq_true,decide_eq_true_eq]
 exact⟨h1,h2,h3,h4⟩
theorem ZFF {s:So} (p:s.ph=4) (h1:s.runs.length≤1) (h2:s.lp=s.inp.length) (h3:s.rp=0) (h4:s.out=[]):Z8t s=true:=by
 unfold Z8t
 rw[if_neg (by omega),if_neg (by omega),if_pos p]
 simp only[Bool.and_eq_true,decide_eq_true_eq]
 exact⟨h1,h2,h3,h4⟩
theorem ZAV:∀(n:Nat) (a b:List Rw),a.length+b.length=n→Srt a→Srt b→Srt (mrg a b)
 |0,a,b,h,_,_=>by
  have e1:a=[]:=List.length_eq_zero_iff.mp (by omega)
  subst e1
  rw[Z9W]
  have e2:b=[]:=List.length_eq_zero_iff.mp (by omega)
  subst e2
  exact .nil
 |n+1,[],b,h,_,hb=>by rw[Z9W];exact hb
 |n+1,x::a,[],h,ha,_=>by rw[ZAI];exact ha
 |n+1,x::a,y::b,h,ha,hb=>by
  obtain⟨ha1,ha2⟩:=List.pairwise_cons.mp ha
  obtain⟨hb1,hb2⟩:=List.pairwise_cons.mp hb
  simp only[List.length_cons]at h
  rw[ZET]
  split
  ·rename_i hle
   refine List.pairwise_cons.mpr ⟨fun z hz=>?_,ZAV n a (y::b) (by simp only[List.length_cons];omega) ha2 hb⟩
   have:=(Z8S _ a (y::b) rfl).mem_iff.mp hz
   rcases List.mem_append.mp this with h1|h1
   ·exact ha1 z h1
   ·rcases List.mem_cons.mp h1 with rfl|h1
    ·exact hle
    ·exact Rw.le_tr hle (hb1 z h1)
  ·rename_i hle
   have hyx:Rw.le y x:=(Rw.le_total y x).resolve_right hle
   refine List.pairwise_cons.mpr ⟨fun z hz=>?_,ZAV n (x::a) b (by simp only[List.length_cons];omega) ha hb2⟩
   have:=(Z8S _ (x::a) b rfl).mem_iff.mp hz
   rcases List.mem_append.mp this with h1|h1
   ·rcases List.mem_cons.mp h1 with rfl|h1
    ·exact hyx
    ·exact Rw.le_tr hyx (ha1 z h1)
   ·exact hb1 z h1
theorem ZAW {u v:List Rw} (h:Srt (u++v)):Srt u∧Srt v:=⟨(List.pairwise_append.mp h).1,(List.pairwise_append.mp h).2.1⟩
theorem ZGK {a1 a2 b1 b2:List Rw} (ha:Srt (a1++a2)) (hb:Srt (b1++b2)) (h:mrg a1 b1=(mrg (a1++a2) (b1++b2)).take (a1.length+b1.length)):mrg (a1++a2) (b1++b2)=mrg a1 b1++mrg a2 b2:=by
 have hs:=ZAV _ _ _ rfl ha hb
 have e:=List.take_append_drop (a1.length+b1.length) (mrg (a1++a2) (b1++b2))
 rw[←h]at e
 have hd:(mrg (a1++a2) (b1++b2)).drop (a1.length+b1.length)=mrg a2 b2:=by
  refine Z8R ?_ ?_ (ZAV _ _ _ rfl (ZAW ha).2 (ZAW hb).2)
  ·refine List.perm_iff_count.mpr fun x=>?_
   have p1:=(Z8S _ (a1++a2) (b1++b2) rfl).count_eq x
   have p2:=(Z8S _ a1 b1 rfl).count_eq x
   have p3:=(Z8S _ a2 b2 rfl).count_eq x
   rw[←e]at p1
   simp only[List.count_append]at p1 p2 p3
   omega
  ·rw[←e]at hs;exact(ZAW hs).2
 rw[hd]at e
 exact e.symm
theorem ZIa {a1 a2 b1 b2:List Rw} {x:Rw} (ha:Srt (a1++x::a2)) (hb:Srt (b1++b2)) (h:mrg a1 b1=(mrg (a1++x::a2) (b1++b2)).take (a1.length+b1.length)) (hx:∀y∈b2.head?,Rw.le x y):
  mrg (a1++[x]) b1=mrg a1 b1++[x]∧(mrg (a1++x::a2) (b1++b2)).take (a1.length+1+b1.length)=mrg a1 b1++[x]:=by
 have e:=ZGK ha hb h
 have e2:mrg (x::a2) b2=x::mrg a2 b2:=by
  cases b2 with
  |nil=>rw[ZAI,ZAI]
  |cons y b=>rw[ZET,if_pos (hx y rfl)]
 rw[e2]at e
 have hs:=ZAV _ _ _ rfl ha hb
 rw[e,show mrg a1 b1++x::mrg a2 b2=(mrg a1 b1++[x])++mrg a2 b2 by simp]at hs
 refine⟨Z8R ?_ (ZAV _ _ _ rfl ?_ (ZAW hb).1) (ZAW hs).1,?_⟩
 ·refine List.perm_iff_count.mpr fun z=>?_
  have p1:=(Z8S _ (a1++[x]) b1 rfl).count_eq z
  have p2:=(Z8S _ a1 b1 rfl).count_eq z
  simp only[List.count_append]at p1 p2⊢
  omega
 ·have:a1++x::a2=(a1++[x])++a2:=by simp
  rw[this]at ha
  exact(ZAW ha).1
 ·rw[e,show mrg a1 b1++x::mrg a2 b2=(mrg a1 b1++[x])++mrg a2 b2 by simp]
  exact List.take_left' (by simp[Z8s];omega)
theorem ZIb {a1 a2 b1 b2:List Rw} {y:Rw} (ha:Srt (a1++a2)) (hb:Srt (b1++y::b2)) (h:mrg a1 b1=(mrg (a1++a2) (b1++y::b2)).take (a1.length+b1.length)) (hy:∀x∈a2.head?,¬Rw.le x y):
  mrg a1 (b1++[y])=mrg a1 b1++[y]∧(mrg (a1++a2) (b1++y::b2)).take (a1.length+(b1.length+1))=mrg a1 b1++[y]:=by
 have e:=ZGK ha hb h
 have e2:mrg a2 (y::b2)=y::mrg a2 b2:=by
  cases a2 with
  |nil=>rw[Z9W,Z9W]
  |cons x a=>rw[ZET,if_neg (hy x rfl)]
 rw[e2]at e
 have hs:=ZAV _ _ _ rfl ha hb
 rw[e,show mrg a1 b1++y::mrg a2 b2=(mrg a1 b1++[y])++mrg a2 b2 by simp]at hs
 refine⟨Z8R ?_ (ZAV _ _ _ rfl (ZAW ha).1 ?_) (ZAW hs).1,?_⟩
 ·refine List.perm_iff_count.mpr fun z=>?_
  have p1:=(Z8S _ a1 (b1++[y]) rfl).count_eq z
  have p2:=(Z8S _ a1 b1 rfl).count_eq z
  simp only[List.count_append]at p1 p2⊢
  omega
 ·have:b1++y::b2=(b1++[y])++b2:=by simp
  rw[this]at hb
  exact(ZAW hb).1
 ·rw[e,show mrg a1 b1++y::mrg a2 b2=(mrg a1 b1++[y])++mrg a2 b2 by simp]
  exact List.take_left' (by simp[Z8s];omega)
def ZCh (s:So):Nat:=
 if s.ph=1 then 3*(s.inp.length-s.pos.toNat)+2*(s.heap.length+s.dfd.length)+(if s.out=[]then 0 else 1)+(s.inp.length*(s.inp.length+2)+s.inp.length+2)
 else if s.ph=2 then(s.runs.length-1)*(s.inp.length+2)+(s.inp.length+1)-(s.lp.toNat+s.rp.toNat)
 else if s.ph=3 then s.inp.length-s.lp.toNat
 else 0
def rest (s:So):List Rw:=if s.ph=3 then(ZAn s.inp).drop s.lp.toNat else if s.ph=4 then[]else ZAn s.inp
structure ZDR (s s':So) (em:List Rw):Prop where
 ok:ZAJ s'=true
 wr:s.wr≤s'.wr∧s'.wr≤s.wr+4
 inp:s'.inp=s.inp
 less:ZCh s'<ZCh s
 rest:rest s=em++rest s'
theorem ZFk:∀{l:List (List Rw)},(∀r∈l,ZAy r=true)→l.length≤l.flatten.length
 |[],_=>Nat.le_refl _
 |a::l,h=>by
  have ih:=ZFk (l:=l) (fun r hr=>h r (by simp[hr]))
  have:=h a (by simp)
  simp only[ZAy,Bool.and_eq_true,decide_eq_true_eq]at this
  simp only[List.length_cons,List.flatten_cons,List.length_append]
  omega
theorem ZEj {r:List Rw} (h:ZAy r=true):r≠[]∧Srt r∧aok r=true:=by
 simp only[ZAy,Bool.and_eq_true,decide_eq_true_eq,ZES]at h
 exact⟨fun e=>by rw[e]at h;simp at h,h.2.1,h.2.2⟩
theorem ZFl {r:List Rw} (h1:r≠[]) (h2:Srt r) (h3:aok r=true):ZAy r=true:=by
 simp only[ZAy,Bool.and_eq_true,decide_eq_true_eq,ZES]
 exact⟨by cases r with|nil=>exact absurd rfl h1|cons a l=>simp,h2,h3⟩
theorem ZGk {s:So} (h1:aok s.inp=true) (hp:s.pos=s.inp.length) (h3:∀r∈s.runs,ZAy r=true) (h4:0≤s.wr) (hh:s.heap=[]) (hd:s.dfd=[]) (ho:s.out=[]) (hpm:s.runs.flatten.Perm s.inp):
  ZAJ (ZBz s)=true∧ZCh (ZBz s)≤s.runs.length*(s.inp.length+2)∧ZCh (ZBz s)<s.inp.length*(s.inp.length+2)+s.inp.length+2∧rest (ZBz s)=ZAn s.inp:=by
 have hlen:=hpm.length_eq
 have hrl:=ZFk h3
 have hmul:(s.runs.length-1)*(s.inp.length+2)≤s.inp.length*(s.inp.length+2):=Nat.mul_le_mul_right _ (by omega)
 obtain⟨inp,pos,heap,dfd,out,runs,lp,rp,ph,wr⟩:=s
 simp only at*
 subst hh;subst hd;subst ho
 unfold ZBz
 simp only
 rcases runs with _|⟨a,_|⟨b,r⟩⟩
 ·have hi:inp=[]:=List.length_eq_zero_iff.mp (by simpa using hlen.symm)
  subst hi
  refine⟨Z9z h1 (by simp only at*;simp at hp;omega) h3 h4 .nil (fun r hr=>by cases hr) (Z9Y (by simp) hp rfl rfl hpm (ZFF rfl (by simp) rfl rfl rfl)),by simp[ZCh],by simp[ZCh],by simp[rest,ZAn]⟩
 ·have ha:=(ZEj (h3 a (by simp))).1
  have hil:0<inp.length:=by
   cases a with
   |nil=>exact absurd rfl ha
   |cons x a=>simp at hlen;omega
  refine⟨Z9z h1 (by simp only;omega) h3 h4 .nil (fun r hr=>by cases hr) (Z9Y (by simp) hp rfl rfl hpm (ZFE (by simp) (by simp) (by simp only;omega) rfl rfl)),by simp[ZCh]<;>omega,by simp[ZCh]<;>omega,by simp[rest]⟩
 ·have e0:¬(a::b::r).length=0:=by simp
  have e1:¬(a::b::r).length=1:=by simp
  simp only[if_neg e0,if_neg e1]
  refine⟨Z9z h1 (by simp only;omega) h3 h4 .nil (fun r hr=>by cases hr) (Z9Y (by simp) hp rfl rfl hpm (ZDG rfl rfl (by simp) (by simp) (by simp[Z9W]) (by simp))),?_,?_,by simp[rest]⟩
  ·simp only[ZCh,List.length_cons,Nat.add_sub_cancel]at*
   have:(r.length+1+1)*(inp.length+2)=(r.length+1)*(inp.length+2)+(inp.length+2):=Nat.succ_mul _ _
   simp;omega
  ·simp only[ZCh,List.length_cons,Nat.add_sub_cancel]at*
   simp;omega
theorem ZHi {l:List Rw} {m:Rw} (hs:Srt l) (h:Z9l m l=false):Srt (l++[m]):=by
 rcases ZFd l with rfl|⟨u,x,rfl⟩
 ·exact List.pairwise_singleton _ _
 ·rw[ZAS,decide_eq_false_iff_not]at h
  refine List.pairwise_append.mpr ⟨hs,List.pairwise_singleton _ _,fun z hz y hy=>?_⟩
  rw[List.mem_singleton.mp hy]
  rcases List.mem_append.mp hz with hz|hz
  ·exact Rw.le_tr ((List.pairwise_append.mp hs).2.2 z hz x (by simp)) h
  ·rw[List.mem_singleton.mp hz];exact h
theorem ZGL {l:List Rw} {k:Nat} {m:Rw} (h:l[k]?=some m):(m::ZEh l k).Perm l:=by
 obtain⟨hk,hm⟩:=List.getElem?_eq_some_iff.mp h
 have e:l=l.take k++m::l.drop (k+1):=by
  rw[←hm,←List.drop_eq_getElem_cons hk,List.take_append_drop]
 unfold ZEh
 refine List.perm_iff_count.mpr fun x=>?_
 have:=congrArg (List.count x) e
 simp only[List.count_cons,List.count_append]at this⊢
 omega
theorem ZHj {l m:List Rw} (h:l.Perm m):Z8X l=Z8X m:=by
 unfold Z8X
 exact(h.map Rw.cost).sum_nat
theorem ZB0 {s:So} (h:s.ph=1∨s.ph=2):rest s=ZAn s.inp:=by
 unfold rest
 rw[if_neg (by omega),if_neg (by omega)]
theorem ZDH {s s':So} (h:s.ph=1∨s.ph=2) (h':s'.ph=1∨s'.ph=2) (e:s'.inp=s.inp):rest s=[]++rest s':=by rw[ZB0 h,ZB0 h',e];rfl
theorem ZK8 {s:So} {g:Int} {r:Rw} (hv:ZAJ s=true) (h1:s.ph=1) (hg:g≤60) (hq:s.inp[s.pos.toNat]?=some r) (hf:ZHs s g r=true):ZDR s (ZIX s r) []:=by
 obtain⟨o1,⟨o2,o2'⟩,o3,o4,o5,o6,o7⟩:=Z85 hv
 obtain⟨t1,t2,t3,t4,t5⟩:=ZBH o7 h1
 have hlt:=(List.getElem?_eq_some_iff.mp hq).1
 have hin:=Z6i o1
 have hw:w64 (s.pos+1)=s.pos+1:=Z5a ⟨by omega,by omega⟩
 have htk:s.inp.take (s.pos+1).toNat=s.inp.take s.pos.toNat++[r]:=by
  rw[show(s.pos+1).toNat=s.pos.toNat+1 by omega,List.take_add_one,hq];rfl
 have hm:(ZD8 s:Int)+(r.cost:Nat)≤g:=by simpa[ZHs,leI]using hf
 have hms:ZD8 s=Z8X s.heap+Z8X s.dfd:=if_pos h1
 unfold ZIX
 cases hb:Z9l r s.out with
 |true=>
  have hout:s.out≠[]:=fun e=>by rw[e,ZBq]at hb;cases hb
  simp only[if_true]
  refine⟨Z9z o1 ⟨by simp only[hw];omega,by simp only[hw];omega⟩ o3 o4 o5 o6 (ZAz h1 t1 t2 (.inl hout) ?_ ?_),⟨by simp,by simp;omega⟩,rfl,?_,?_⟩
  ·simp only[ZD8,h1,if_true,ZED,ZAs,ZAr];omega
  ·simp only[hw,htk]
   refine List.perm_iff_count.mpr fun x=>?_
   have:=t5.count_eq x
   simp only[List.count_append]at this⊢
   omega
  ·simp only[ZCh,h1,if_true,hw,List.length_append,List.length_singleton]
   have:(s.pos+1).toNat=s.pos.toNat+1:=by omega
   rw[this];omega
  ·exact ZDH (.inl h1) (.inl h1) rfl
 |false=>
  simp only[Bool.false_eq_true,if_false]
  refine⟨Z9z o1 ⟨by simp only[hw];omega,by simp only[hw];omega⟩ o3 o4 o5 (fun x hx=>?_) (ZAz h1 t1 t2 t3 ?_ ?_),⟨by simp,by simp;omega⟩,rfl,?_,?_⟩
  ·rcases List.mem_append.mp hx with hx|hx
   ·exact o6 x hx
   ·rw[List.mem_singleton.mp hx];exact hb
  ·simp only[ZD8,h1,if_true,ZED,ZAs,ZAr];omega
  ·simp only[hw,htk]
   refine List.perm_iff_count.mpr fun x=>?_
   have:=t5.count_eq x
   simp only[List.count_append]at this⊢
   omega
  ·simp only[ZCh,h1,if_true,hw,List.length_append,List.length_singleton]
   have:(s.pos+1).toNat=s.pos.toNat+1:=by omega
   rw[this];omega
  ·exact ZDH (.inl h1) (.inl h1) rfl
theorem ZKl {s:So} (hv:ZAJ s=true) (h1:s.ph=1) (hh:s.heap≠[]) (hw:s.wr≤1000000000000):ZDR s (ZLB s) []:=by
 obtain⟨o1,⟨o2,o2'⟩,o3,o4,o5,o6,o7⟩:=Z85 hv
 obtain⟨t1,t2,t3,t4,t5⟩:=ZBH o7 h1
 obtain⟨m,hm,hmin⟩:=ZHL hh
 have hgd:s.heap.getD (ZDD s.heap) rwZ=m:=by simp[List.getD_eq_getElem?_getD,hm]
 have hp:=ZGL hm
 have hml:=hp.length_eq
 simp only[List.length_cons]at hml
 have hmh:m∈s.heap:=List.mem_of_getElem? hm
 have hc:=ZB5 m
 have hww:w64 (s.wr+(m.cost:Nat))=s.wr+(m.cost:Nat):=Z5a ⟨by omega,by omega⟩
 have hms:ZD8 s=Z8X s.heap+Z8X s.dfd:=if_pos h1
 have htc:=ZHj hp
 rw[ZAs]at htc
 unfold ZLB
 rw[hgd,hww]
 refine⟨Z9z o1 ⟨o2,o2'⟩ o3 (by simp only;omega) (ZHi o5 (o6 m hmh)) (fun x hx=>?_) (ZAz h1 t1 t2 (.inl (by simp)) ?_ ?_),⟨by simp only;omega,by simp only;omega⟩,rfl,?_,?_⟩
 ·simp only at hx⊢
  rw[ZAS,decide_eq_false_iff_not]
  exact hmin x (hp.mem_iff.mp (by simp[hx]))
 ·simp only[ZD8,h1,if_true];omega
 ·refine List.perm_iff_count.mpr fun x=>?_
  have:=t5.count_eq x
  have e:=hp.count_eq x
  simp only[List.count_append,List.count_cons,List.count_nil]at this e⊢
  omega
 ·simp only[ZCh,h1,if_true]
  have e1:¬(s.out++[m]=[]):=by simp
  rw[if_neg e1]
  split<;>omega
 ·exact ZDH (.inl h1) (.inl h1) rfl
theorem ZJc {s:So} {g:Int} (hv:ZAJ s=true) (h1:s.ph=1) (hg:8≤g) (hw:s.wr≤1000000000000) (hn:∀r,s.inp[s.pos.toNat]?=some r→ZHs s g r=false):ZDR s (ZJa s) []:=by
 unfold ZJa
 obtain⟨o1,⟨o2,o2'⟩,o3,o4,o5,o6,o7⟩:=Z85 hv
 obtain⟨t1,t2,t3,t4,t5⟩:=ZBH o7 h1
 obtain⟨r1,r2,r3⟩:=ZDC hv
 have hms:ZD8 s=Z8X s.heap+Z8X s.dfd:=if_pos h1
 by_cases hh:s.heap=[]
 ·rw[if_pos hh]
  by_cases hd:s.dfd=[]
  ·rw[if_pos hd]
   have hpos:s.pos=s.inp.length:=by
    cases hq:s.inp[s.pos.toNat]? with
    |none=>have:=List.getElem?_eq_none_iff.mp hq;omega
    |some r=>
     have:=hn r hq
     rw[hh,hd]at hms
     have hc:=ZB5 r
     simp only[ZAr]at hms
     simp only[ZHs,leI,decide_eq_false_iff_not]at this
     omega
   have htk:s.inp.take s.pos.toNat=s.inp:=List.take_of_length_le (by omega)
   rw[htk,hh,hd]at t5
   simp only[List.append_nil]at t5
   by_cases ho:s.out=[]
   ·rw[if_pos ho]
    rw[ho,List.append_nil]at t5
    obtain⟨n1,n2,n3,n4⟩:=ZGk o1 hpos o3 o4 hh hd ho t5
    refine⟨n1,⟨Int.le_refl _,by show s.wr≤s.wr+4;omega⟩,rfl,?_,?_⟩
    ·simp only[ZCh,h1,if_true]at n3⊢;omega
    ·rw[ZB0 (.inl h1),n4];rfl
   ·rw[if_neg ho]
    have hrun:=ZFl ho o5 r3
    obtain⟨n1,n2,n3,n4⟩:=ZGk (s:=ZEz s) o1 hpos (fun r hr=>by
     rcases List.mem_append.mp hr with hr|hr
     ·exact o3 r hr
     ·rw[List.mem_singleton.mp hr];exact hrun) o4 hh hd rfl (by simpa[ZEz]using t5)
    refine⟨n1,⟨Int.le_refl _,by show s.wr≤s.wr+4;omega⟩,rfl,?_,?_⟩
    ·have:(ZEz s).inp=s.inp:=rfl
     rw[this]at n3
     have e:ZCh s=3*(s.inp.length-s.pos.toNat)+2*(s.heap.length+s.dfd.length)+(if s.out=[]then 0 else 1)+(s.inp.length*(s.inp.length+2)+s.inp.length+2):=if_pos h1
     rw[e];omega
    ·rw[ZB0 (.inl h1),n4];rfl
  ·rw[if_neg hd]
   have ho:s.out≠[]:=t3.resolve_right hd
   refine⟨Z9z o1 ⟨o2,o2'⟩ (fun r hr=>?_) o4 .nil (fun r _=>ZBq r) (ZAz h1 t1 t2 (.inr rfl) ?_ ?_),⟨Int.le_refl _,by show s.wr≤s.wr+4;omega⟩,rfl,?_,?_⟩
   ·rcases List.mem_append.mp hr with hr|hr
    ·exact o3 r hr
    ·rw[List.mem_singleton.mp hr];exact ZFl ho o5 r3
   ·rw[hh,ZAr]at hms
    simp only[ZD8,h1,if_true,ZAr]at*;omega
   ·rw[hh]at t5
    refine List.perm_iff_count.mpr fun x=>?_
    have:=t5.count_eq x
    simp only[List.flatten_append,List.flatten_cons,List.flatten_nil,List.count_append,List.count_nil]at this⊢
    omega
   ·simp only[ZCh,h1,if_true,if_neg ho,hh,List.length_nil];omega
   ·exact ZDH (.inl h1) (.inl h1) rfl
 ·rw[if_neg hh]
  exact ZKl hv h1 hh hw
theorem ZKm (x:Rw) {w:Int} (h0:0≤w) (h:w≤1000000000000):w64 (w+(x.cost:Nat))=w+(x.cost:Nat):=by have:=ZB5 x;exact Z5a ⟨by omega,by omega⟩
theorem ZBi {l:List Rw} {p:Nat} {x:Rw} (h:l[p]?=some x):l=l.take p++x::l.drop (p+1)∧l.take (p+1)=l.take p++[x]∧(l.take p).length=p∧l.drop p=x::l.drop (p+1):=by
 obtain⟨hk,hm⟩:=List.getElem?_eq_some_iff.mp h
 have e:l.drop p=x::l.drop (p+1):=by rw[←hm];exact List.drop_eq_getElem_cons hk
 exact⟨by rw[←e,List.take_append_drop],by rw[List.take_add_one,h];rfl,by simp;omega,e⟩
theorem ZJE {s:So} (hv:ZAJ s=true) (h2:s.ph=2) (hw:s.wr≤1000000000000):ZDR s (ZGh s) []:=by
 obtain⟨o1,⟨o2,o2'⟩,o3,o4,o5,o6,o7⟩:=Z85 hv
 obtain⟨t1,t2,t3,t4,t5⟩:=Z8i o7 (by omega)
 obtain⟨a,b,r,e,⟨l0,l1⟩,⟨r0,r1⟩,m1,m2⟩:=ZCf t5 h2
 have hin:=Z6i o1
 have hlen:=t4.length_eq
 rw[e]at hlen
 simp only[List.flatten_cons,List.length_append]at hlen
 have hsa:=(ZEj (o3 a (by rw[e];simp))).2.1
 have hsb:=(ZEj (o3 b (by rw[e];simp))).2.1
 obtain⟨s1,s2,s3⟩:=ZDC hv
 obtain⟨inp,pos,heap,dfd,out,runs,lp,rp,ph,wr⟩:=s
 simp only at*
 subst e;subst h2;subst t2;subst t3
 obtain⟨p,rfl⟩:∃p:Nat,lp=p:=⟨lp.toNat,by omega⟩
 obtain⟨q,rfl⟩:∃q:Nat,rp=q:=⟨rp.toNat,by omega⟩
 simp only[Int.toNat_natCast]at*
 have hpw:w64 ((p:Int)+1)=((p+1:Nat):Int):=Z7X (by omega)
 have hqw:w64 ((q:Int)+1)=((q+1:Nat):Int):=Z7X (by omega)
 have lenA:(a.take p).length=p:=by simp;omega
 have lenB:(b.take q).length=q:=by simp;omega
 have eA:a.take p++a.drop p=a:=List.take_append_drop _ _
 have eB:b.take q++b.drop q=b:=List.take_append_drop _ _
 have inv:mrg (a.take p) (b.take q)=(mrg (a.take p++a.drop p) (b.take q++b.drop q)).take ((a.take p).length+(b.take q).length):=by rw[eA,eB,lenA,lenB,←m2,m1]
 have left:∀x,a[p]?=some x→(∀y∈(b.drop q).head?,Rw.le x y)→ZDR ⟨inp,pos,[],[],out,a::b::r,p,q,2,wr⟩ (ZJC ⟨inp,pos,[],[],out,a::b::r,p,q,2,wr⟩ x) []:=fun x hx hy=>by
  obtain⟨g1,g2,g3,g4⟩:=ZBi hx
  have hplt:=(List.getElem?_eq_some_iff.mp hx).1
  have hc:=ZB5 x
  rw[g4]at inv
  obtain⟨k1,k2⟩:=ZIa (by rw[←g1];exact hsa) (by rw[eB];exact hsb) inv hy
  rw[←g2,←m1]at k1
  rw[←g1,eB,lenA,lenB,←m1]at k2
  unfold ZJC
  simp only[hpw,ZKm x o4 hw]
  have hs:Srt (out++[x]):=by
   rw[←k2]
   have:=ZAV _ _ _ rfl hsa hsb
   rw[←List.take_append_drop (p+1+q) (mrg a b)]at this
   exact(ZAW this).1
  refine⟨Z9z o1 ⟨o2,o2'⟩ o3 (by simp only;omega) hs (fun r hr=>by cases hr) (Z9Y (by simp) t1 rfl rfl t4 (ZDG rfl rfl ⟨by simp only;omega,by simp only;omega⟩ ⟨r0,r1⟩ ?_ ?_)),⟨by simp only;omega,by simp only;omega⟩,rfl,?_,ZDH (.inr rfl) (.inr rfl) rfl⟩
  ·simp only[Int.toNat_natCast];exact k1.symm
  ·simp only[Int.toNat_natCast];exact k2.symm
  ·simp only[ZCh,List.length_cons,Int.toNat_natCast]
   simp;omega
 have right:∀y,b[q]?=some y→(∀x∈(a.drop p).head?,¬Rw.le x y)→ZDR ⟨inp,pos,[],[],out,a::b::r,p,q,2,wr⟩ (ZJD ⟨inp,pos,[],[],out,a::b::r,p,q,2,wr⟩ y) []:=fun y hy hx=>by
  obtain⟨g1,g2,g3,g4⟩:=ZBi hy
  have hqlt:=(List.getElem?_eq_some_iff.mp hy).1
  have hc:=ZB5 y
  rw[g4]at inv
  obtain⟨k1,k2⟩:=ZIb (by rw[eA];exact hsa) (by rw[←g1];exact hsb) inv hx
  rw[←g2,←m1]at k1
  rw[←g1,eA,lenA,lenB,←m1]at k2
  unfold ZJD
  simp only[hqw,ZKm y o4 hw]
  have hs:Srt (out++[y]):=by
   rw[←k2]
   have:=ZAV _ _ _ rfl hsa hsb
   rw[←List.take_append_drop (p+(q+1)) (mrg a b)]at this
   exact(ZAW this).1
  refine⟨Z9z o1 ⟨o2,o2'⟩ o3 (by simp only;omega) hs (fun r hr=>by cases hr) (Z9Y (by simp) t1 rfl rfl t4 (ZDG rfl rfl ⟨l0,l1⟩ ⟨by simp only;omega,by simp only;omega⟩ ?_ ?_)),⟨by simp only;omega,by simp only;omega⟩,rfl,?_,ZDH (.inr rfl) (.inr rfl) rfl⟩
  ·simp only[Int.toNat_natCast];exact k1.symm
  ·simp only[Int.toNat_natCast];exact k2.symm
  ·simp only[ZCh,List.length_cons,Int.toNat_natCast]
   simp;omega
 unfold ZGh
 simp only[Int.toNat_natCast]
 cases ha:a[p]? with
 |none=>
  have hpe:p=a.length:=by have:=List.getElem?_eq_none_iff.mp ha;omega
  cases hb:b[q]? with
  |none=>
   have hqe:q=b.length:=by have:=List.getElem?_eq_none_iff.mp hb;omega
   simp only
   have hout:out=mrg a b:=by rw[m2,hpe,hqe,List.take_of_length_le (by rw[Z8s];omega)]
   have hane:=(ZEj (o3 a (by simp))).1
   have hone:out≠[]:=fun e0=>by
    have:=Z8s a b
    rw[←hout,e0]at this
    cases a with
    |nil=>exact hane rfl
    |cons x a=>simp at this;omega
   have hrun:=ZFl hone (hout▸ZAV _ _ _ rfl hsa hsb) s3
   obtain⟨n1,n2,n3,n4⟩:=ZGk (s:=ZEz ⟨inp,pos,[],[],out,r,p,q,2,wr⟩) o1 t1 (fun x hx=>by
    rcases List.mem_append.mp hx with hx|hx
    ·exact o3 x (by simp[hx])
    ·rw[List.mem_singleton.mp hx];exact hrun) o4 rfl rfl rfl (by
    refine List.perm_iff_count.mpr fun x=>?_
    have c1:=t4.count_eq x
    have c2:=(Z8S _ a b rfl).count_eq x
    rw[←hout]at c2
    simp only[ZEz,List.flatten_append,List.flatten_cons,List.flatten_nil,List.count_append,List.count_nil]at c1 c2⊢
    omega)
   refine⟨n1,⟨Int.le_refl _,by show wr≤wr+4;omega⟩,rfl,?_,?_⟩
   ·have e1:(ZEz ⟨inp,pos,[],[],out,r,p,q,2,wr⟩:So).runs.length=r.length+1:=by simp[ZEz]
    rw[e1]at n2
    have e2:(ZEz ⟨inp,pos,[],[],out,r,p,q,2,wr⟩:So).inp=inp:=rfl
    rw[e2]at n2
    have e3:ZCh ⟨inp,pos,[],[],out,a::b::r,p,q,2,wr⟩=(r.length+1)*(inp.length+2)+(inp.length+1)-(p+q):=by simp[ZCh]
    rw[e3];omega
   ·rw[ZB0 (.inr rfl),n4];rfl
  |some y=>
   simp only
   exact right y hb (fun x hx=>by rw[List.drop_of_length_le (by omega)]at hx;cases hx)
 |some x=>
  cases hb:b[q]? with
  |none=>
   simp only
   have:=List.getElem?_eq_none_iff.mp hb
   exact left x ha (fun y hy=>by rw[List.drop_of_length_le (by omega)]at hy;cases hy)
  |some y=>
   simp only
   have g4:=(ZBi ha).2.2.2
   have g5:=(ZBi hb).2.2.2
   by_cases hle:Rw.le x y
   ·rw[if_pos hle]
    exact left x ha (fun z hz=>by rw[g5]at hz;simp at hz;rw[←hz];exact hle)
   ·rw[if_neg hle]
    exact right y hb (fun z hz=>by rw[g4]at hz;simp at hz;rw[←hz];exact hle)
theorem ZK9 {s:So} (hv:ZAJ s=true) (h3:s.ph=3):ZDR s (ZEi s).1 (ZEi s).2:=by
 obtain⟨o1,⟨o2,o2'⟩,o3,o4,o5,o6,o7⟩:=Z85 hv
 obtain⟨t1,t2,t3,t4,t5⟩:=Z8i o7 (by omega)
 obtain⟨e,⟨l0,l1⟩,e2,e3⟩:=ZCg t5 h3
 have hin:=Z6i o1
 obtain⟨inp,pos,heap,dfd,out,runs,lp,rp,ph,wr⟩:=s
 simp only at*
 subst h3;subst t2;subst t3;subst e2;subst e3
 obtain⟨a,rfl⟩:=List.length_eq_one_iff.mp e
 obtain⟨p,rfl⟩:∃p:Nat,lp=p:=⟨lp.toNat,by omega⟩
 have t4:a.Perm inp:=by simpa using t4
 have hal:=t4.length_eq
 have hsa:=(ZEj (o3 a (by simp))).2.1
 have ha:a=ZAn inp:=Z8R (t4.trans (Z7T inp).symm) hsa (ZAw inp)
 obtain⟨x,hx⟩:∃x,a[p]?=some x:=⟨_,List.getElem?_eq_getElem (by omega)⟩
 have hpw:w64 ((p:Int)+1)=((p+1:Nat):Int):=Z7X (by omega)
 unfold ZEi
 simp only[Int.toNat_natCast,hx,hpw]
 have hdrop:=(ZBi hx).2.2.2
 rw[ha]at hdrop
 by_cases hl:p+1=inp.length
 ·rw[if_pos (by omega)]
  refine⟨Z9z o1 ⟨o2,o2'⟩ o3 o4 o5 (fun r hr=>by cases hr) (Z9Y (by simp) t1 rfl rfl (by simpa using t4) (ZFF rfl (by simp) (by simp only;omega) rfl rfl)),⟨Int.le_refl _,by show wr≤wr+4;omega⟩,rfl,?_,?_⟩
  ·simp[ZCh];omega
  ·simp only[rest,Int.toNat_natCast]
   simp
   rw[hdrop,List.drop_of_length_le (by rw[←ha];omega)]
 ·rw[if_neg (by omega)]
  refine⟨Z9z o1 ⟨o2,o2'⟩ o3 o4 o5 (fun r hr=>by cases hr) (Z9Y (by simp) t1 rfl rfl (by simpa using t4) (ZFE rfl rfl ⟨by simp only;omega,by simp only;omega⟩ rfl rfl)),⟨Int.le_refl _,by show wr≤wr+4;omega⟩,rfl,?_,?_⟩
  ·simp[ZCh];omega
  ·simp only[rest,Int.toNat_natCast]
   simp
   exact hdrop
theorem ZKA {s:So} {g:Int} (h:ZGi s g=true) (hw:s.wr≤1000000000000):ZDR s (ZF0 s g).1 (ZF0 s g).2.1∧(ZF0 s g).2.2=true:=by
 have h':=h
 simp only[ZGi,Bool.and_eq_true,Z9R,Bool.not_eq_true',eqI,decide_eq_false_iff_not]at h'
 obtain⟨hv,⟨g0,g1⟩,h4⟩:=h'
 unfold ZF0
 rw[h,cond_true]
 by_cases h1:s.ph=1
 ·rw[if_pos h1]
  refine⟨?_,rfl⟩
  simp only
  unfold ZJB
  cases hq:s.inp[s.pos.toNat]? with
  |none=>exact ZJc hv h1 g0 hw (fun r hr=>by rw[hq]at hr;cases hr)
  |some r=>
   simp only
   cases hf:ZHs s g r with
   |true=>simp only[if_true];exact ZK8 hv h1 g1 hq hf
   |false=>simp only[Bool.false_eq_true,if_false];exact ZJc hv h1 g0 hw (fun r' hr=>by rw[hq]at hr;cases hr;exact hf)
 ·rw[if_neg h1]
  by_cases h2:s.ph=2
  ·rw[if_pos h2];exact⟨ZJE hv h2 hw,rfl⟩
  ·rw[if_neg h2]
   obtain⟨_,_,_,_,hl⟩:=Z8i (Z85 hv).2.2.2.2.2.2 h1
   exact⟨ZK9 hv (by rcases ZBg hl with e|e|e<;>first|exact absurd e h2|exact e|exact absurd e h4),rfl⟩
noncomputable def Z5Z (s:List UInt8):List Rw:=(ZBE s).getD []
noncomputable def isR (s:List UInt8):Bool:=(ZBE s).isSome
theorem ZFG (s:List UInt8):pRs s=[.sl ((Z5Z s).map Rw.e),.bool (isR s)]:=by
 unfold pRs Z5Z isR
 cases ZBE s<;>rfl
theorem ZJF {s:List UInt8} (h:isR s=true):aok (Z5Z s)=true∧Z6l (Z5Z s)=s:=by
 unfold isR at h
 cases hp:ZBE s with
 |none=>rw[hp]at h;cases h
 |some l=>
  have:=Z9m.mp hp
  unfold Z5Z
  rw[hp]
  exact this
theorem ZAj {l:List Rw} (h:aok l=true):Z5Z (Z6l l)=l∧isR (Z6l l)=true:=by
 have:=Z9m.mpr ⟨h,rfl⟩
 unfold Z5Z isR
 rw[this]
 exact⟨rfl,rfl⟩
theorem Z7V (s:List UInt8):(Z5Z s).length≤24:=by
 unfold Z5Z
 cases hp:ZBE s with
 |none=>simp
 |some l=>exact Z6i (Z9m.mp hp).1
noncomputable def Z8u (s:List UInt8):List (List Rw):=if s=[]then[]else(Z6O 124 s).map Z5Z
noncomputable def ZGl (s:List UInt8):Bool:=decide (s=[])||(Z6O 124 s).all isR
theorem ZGM (s:List UInt8):szL List.length (Z8u s)≤25*(s.length+1):=by
 unfold Z8u
 split
 ·simp[szL]
 ·have h:=ZAH 124 s
  have key:∀l:List (List UInt8),szL List.length (l.map Z5Z)≤25*l.length:=fun l=>by
   induction l with
   |nil=>simp[szL]
   |cons a l ih=>
    have:=Z7V a
    simp only[List.map_cons,szL,List.length_cons]
    omega
  have:=key (Z6O 124 s)
  omega
theorem ZJG {l:List (List Rw)} (h:∀r∈l,ZAy r=true):Z8u (Z6p l)=l∧ZGl (Z6p l)=true:=by
 have hr:∀r∈l,aok r=true∧r≠[]:=fun r hr=>by
  have:=h r hr
  simp only[ZAy,Bool.and_eq_true,decide_eq_true_eq]at this
  exact⟨this.2.2,fun e=>by rw[e]at this;simp at this⟩
 cases l with
 |nil=>
  have e:Z6p []=[]:=rfl
  rw[e]
  unfold Z8u ZGl
  exact⟨if_pos rfl,rfl⟩
 |cons a r=>
  have hne:Z6p (a::r)≠[]:=fun e=>by
   have h1:=hr a (by simp)
   have hf:Z6l a≠[]:=fun e2=>h1.2 (ZEd (ZEC h1.1) (by rw[←Z9G h1.1];exact e2))
   cases r with
   |nil=>exact hf e
   |cons b r=>
    have:Z6p (a::b::r)=Z6l a++[124]++Z6p (b::r):=Z8r (by simp)
    rw[this]at e
    simp at e
  have hc:Z6O 124 (Z6p (a::r))=(a::r).map Z6l:=ZBp 124 _ (by simp) (fun x hx=>by
   obtain⟨q,_,rfl⟩:=List.mem_map.mp hx
   exact ZAU (by decide) (by decide) (by decide) (by decide) q)
  unfold Z8u ZGl
  rw[if_neg hne,hc]
  refine⟨?_,?_⟩
  ·rw[List.map_map]
   have:∀x∈a::r,(Z5Z∘Z6l) x=id x:=fun x hx=>(ZAj (hr x hx).1).1
   rw[List.map_congr_left this,List.map_id]
  ·rw[Bool.or_eq_true]
   refine .inr (List.all_eq_true.mpr fun x hx=>?_)
   obtain⟨q,hq,rfl⟩:=List.mem_map.mp hx
   exact(ZAj (hr q hq).1).2
theorem ZHk (s:List UInt8) (hs:s.length≤2097152):∃m:List (List Rw),callI tE Z8h [.str (S s)]=some [.sl (m.map rsE),.bool (ZGl s)]∧(ZGl s=true→m=Z8u s):=by
 rw[ZDh,ZCY]
 by_cases h0:s=[]
 ·subst h0
  refine⟨[],rfl,fun _=>?_⟩
  unfold Z8u;rw[if_pos rfl]
 ·have hc:=ZAH 124 s
  rw[decide_eq_false h0,cond_false,show((124:Int))=(((124:UInt8).toNat:Nat):Int)from rfl,ZKc 124 s (by omega)]
  simp only[gA]
  have key:∀(v u:List (List UInt8)),Z6O 124 s=u++v→u.all isR=true→∃m:List (List Rw),Z84 (lenI ((Z6O 124 s).map StE)) (u.length:Nat) ((u.map Z5Z).map rsE) ((Z6O 124 s).map StE)=some [.sl (m.map rsE),.bool (ZGl s)]∧(ZGl s=true→m=Z8u s):=by
   intro v
   induction v with
   |nil=>
    intro u hu ha
    rw[List.append_nil]at hu
    have hr:ZGl s=true:=by unfold ZGl;rw[hu,ha];simp
    refine⟨u.map Z5Z,?_,fun _=>?_⟩
    ·rw[Z9k,Z5L,ltF (by rw[hu];omega),cond_false,hr]
    ·unfold Z8u;rw[if_neg h0,hu]
   |cons x v ih=>
    intro u hu ha
    have hx:x.length≤2097152:=Nat.le_trans (Z7K (show x∈Z6O 124 s by rw[hu];simp)) hs
    have hul:u.length<(Z6O 124 s).length:=by rw[hu];simp
    have hat:at' ((Z6O 124 s).map StE) u.length=StE x:=ZDK hu rfl
    rw[Z9k,Z5L,ltT (by omega),cond_true,ZEn (by omega) (by omega),cond_true]
    simp only[Z7W,hat,StE,gA,ZDA x (by omega),ZFG]
    cases hr:isR x with
    |false=>
     have har:ZGl s=false:=by
      unfold ZGl
      rw[decide_eq_false h0,hu]
      simp[hr]
     exact⟨[],by rw[har];rfl,fun e=>by rw[har]at e;cases e⟩
    |true=>
     have ih2:=ih (u++[x]) (by rw[hu];simp) (by simp[ha,hr])
     rw[Bool.not_true,cond_false,Z5h,List.length_map,show fitM (Nat.succ u.length) 24=true from Z8v (by omega),cond_true,ZDM,Z7X (by omega)]
     rw[List.length_append,List.length_singleton,List.map_append,List.map_cons,List.map_nil,Z5L]at ih2
     exact ih2
  exact key (Z6O 124 s) [] rfl rfl
def SoP (s:So):Prop:=ZAJ s=true∧s.wr<1000000000
theorem ZKn {s:So} (h:SoP s):s.pos.natAbs<1000000000∧s.lp.natAbs<1000000000∧s.rp.natAbs<1000000000∧s.ph.natAbs<1000000000∧s.wr.natAbs<1000000000:=by
 obtain⟨hv,hw⟩:=h
 obtain⟨h1,h2,h3,h4,h5,h6,h7⟩:=Z85 hv
 have hl:=Z6i h1
 by_cases p1:s.ph=1
 ·obtain⟨q1,q2,_⟩:=ZBH h7 p1
  omega
 ·obtain⟨q1,q2,q3,q4,q5⟩:=Z8i h7 p1
  rcases ZBg q5 with p|p|p
  ·obtain⟨a,b,r,e1,e2,e3,_⟩:=ZCf q5 p
   have hlen:=q4.length_eq
   rw[e1]at hlen
   simp only[List.flatten_cons,List.length_append]at hlen
   omega
  ·obtain⟨e1,e2,e3,_⟩:=ZCg q5 p
   omega
  ·obtain⟨e1,e2,e3,_⟩:=ZHJ q5 p
   omega
theorem ZHl (s:So):∀x∈ZGg s,(47:UInt8)∉x:=fun x hx=>by
 have hR:∀l,(47:UInt8)∉Z6l l:=fun l=>ZAU (by decide) (by decide) (by decide) (by decide) l
 have hN:∀n,(47:UInt8)∉fmt n:=fun n=>Z8c (by decide) (by decide) n
 have hU:=ZCe (b:=47) (by decide) (by decide) (by decide) (by decide) (by decide) s.runs
 simp only[ZGg,List.mem_cons,List.not_mem_nil,or_false]at hx
 rcases hx with rfl|rfl|rfl|rfl|rfl|rfl|rfl|rfl|rfl|rfl
 ·exact hR _
 ·exact hN _
 ·exact hR _
 ·exact hR _
 ·exact hR _
 ·exact hU
 ·exact hN _
 ·exact hN _
 ·exact hN _
 ·exact hN _
theorem ZB1 (s:So):Z6O 47 (ZBQ s)=ZGg s:=ZBp 47 _ (by simp[ZGg]) (ZHl s)
noncomputable def ZFH (w:List (List UInt8)):So:=⟨Z5Z (w.getD 0 []),num (w.getD 1 []),Z5Z (w.getD 2 []),Z5Z (w.getD 3 []),Z5Z (w.getD 4 []),Z8u (w.getD 5 []),num (w.getD 6 []),num (w.getD 7 []),num (w.getD 8 []),num (w.getD 9 [])⟩
noncomputable def ZKB (w:List (List UInt8)):Bool:=isR (w.getD 0 [])&&(isN (w.getD 1 [])&&(isR (w.getD 2 [])&&(isR (w.getD 3 [])&&(isR (w.getD 4 [])&&(ZGl (w.getD 5 [])&&(isN (w.getD 6 [])&&(isN (w.getD 7 [])&&(isN (w.getD 8 [])&&isN (w.getD 9 [])))))))))
theorem ZEk {s:So} (h:SoP s):ZFH (ZGg s)=s∧ZKB (ZGg s)=true:=by
 obtain⟨h1,h2,h3,h4,h5,h6,h7⟩:=Z85 h.1
 obtain⟨r1,r2,r3⟩:=ZDC h.1
 obtain⟨n1,n2,n3,n4,n5⟩:=ZKn h
 have e0:=ZAj h1
 have e1:=Z9y n1
 have e2:=ZAj r1
 have e3:=ZAj r2
 have e4:=ZAj r3
 have e5:=ZJG h3
 have e6:=Z9y n2
 have e7:=Z9y n3
 have e8:=Z9y n4
 have e9:=Z9y n5
 refine⟨?_,?_⟩
 ·show(⟨Z5Z (Z6l s.inp),num (fmt s.pos),Z5Z (Z6l s.heap),Z5Z (Z6l s.dfd),Z5Z (Z6l s.out),Z8u (Z6p s.runs),num (fmt s.lp),num (fmt s.rp),num (fmt s.ph),num (fmt s.wr)⟩:So)=s
  rw[e0.1,e1.1,e2.1,e3.1,e4.1,e5.1,e6.1,e7.1,e8.1,e9.1]
 ·show(isR (Z6l s.inp)&&(isN (fmt s.pos)&&(isR (Z6l s.heap)&&(isR (Z6l s.dfd)&&(isR (Z6l s.out)&&(ZGl (Z6p s.runs)&&(isN (fmt s.lp)&&(isN (fmt s.rp)&&(isN (fmt s.ph)&&isN (fmt s.wr))))))))))=true
  rw[e0.2,e1.2,e2.2,e3.2,e4.2,e5.2,e6.2,e7.2,e8.2,e9.2]
  rfl
theorem ZIc (a b:So) (ha:SoP a) (hb:SoP b) (h:ZBQ a=ZBQ b):a=b:=by
 have e:=ZB1 a
 rw[h,ZB1 b]at e
 rw[←(ZEk ha).1,←(ZEk hb).1,e]
noncomputable def ZA0 (s:List UInt8):Option So:=unf SoP ZBQ s
theorem Z9o {s:List UInt8} {x:So}:ZA0 s=some x↔SoP x∧ZBQ x=s:=ZDr ZIc
theorem ZBj {s:List UInt8}:ZA0 s=none↔∀x:So,SoP x→ZBQ x≠s:=ZDs
def soZ:So:=⟨[],0,[],[],[],[],0,0,0,0⟩
def SoR (x:So) (b:Bool):List Dat:=[.sl (x.inp.map Rw.e),.int x.pos,.sl (x.heap.map Rw.e),.sl (x.dfd.map Rw.e),.sl (x.out.map Rw.e),.sl (x.runs.map rsE),.int x.lp,.int x.rp,.int x.ph,.int x.wr,.bool b]
noncomputable def pSo (s:List UInt8):List Dat:=match ZA0 s with
 |some x=>SoR x true
 |none=>SoR soZ false
theorem ZJd {α:Type} {l:List α} (h:l.length=10):∃a b c d e f g i j k,l=[a,b,c,d,e,f,g,i,j,k]:=by
 match l,h with
 |[a,b,c,d,e,f,g,i,j,k],_=>exact⟨a,b,c,d,e,f,g,i,j,k,rfl⟩
theorem ZId {s:List UInt8} (h:(Z6O 47 s).length≠10):pSo s=SoR soZ false:=by
 unfold pSo
 rw[ZBj.mpr fun x _ hx=>h (by rw[←hx,ZB1];rfl)]
theorem ZIe (s:List UInt8) (hs:s.length≤2097152):(ZFH (Z6O 47 s)).B2:=by
 have g:∀i,((Z6O 47 s).getD i []).length≤2097152:=fun i=>by
  by_cases hi:i<(Z6O 47 s).length
  ·have:(Z6O 47 s).getD i []∈Z6O 47 s:=by
    rw[List.getD_eq_getElem?_getD,List.getElem?_eq_getElem hi]
    exact List.getElem_mem hi
   exact Nat.le_trans (Z7K this) hs
  ·rw[List.getD_eq_getElem?_getD,List.getElem?_eq_none (by omega)]
   simp
 have a0:=Z7V ((Z6O 47 s).getD 0 [])
 have a2:=Z7V ((Z6O 47 s).getD 2 [])
 have a3:=Z7V ((Z6O 47 s).getD 3 [])
 have a4:=Z7V ((Z6O 47 s).getD 4 [])
 have a5:=ZGM ((Z6O 47 s).getD 5 [])
 have g5:=g 5
 simp only[So.B2,So.sz,ZFH]
 omega
theorem ZGm (w:List (List UInt8)):(ZFH w).nb:=⟨ZEZ _,ZEZ _,ZEZ _,ZEZ _,ZEZ _⟩
theorem ZGn (w:List (List UInt8)):(ZFH w).wr<1000000000:=by
 have:(num (w.getD 9 [])).natAbs<1000000000:=ZJW _
 show num (w.getD 9 [])<1000000000
 omega
theorem ZLE (s:List UInt8):(bif ZKB (Z6O 47 s)&&(ZAJ (ZFH (Z6O 47 s))&&decide (ZBh (ZFH (Z6O 47 s))=s))then SoR (ZFH (Z6O 47 s)) true else SoR soZ false)=pSo s:=by
 unfold pSo
 cases hp:ZA0 s with
 |some x=>
  obtain⟨h1,h2⟩:=Z9o.mp hp
  have hc:Z6O 47 s=ZGg x:=by rw[←h2];exact ZB1 x
  obtain⟨e1,e2⟩:=ZEk h1
  rw[hc,e1,e2,h1.1]
  have:ZBh x=s:=by unfold ZBh;rw[if_pos h1.1];exact h2
  rw[this]
  simp
 |none=>
  have hn:=ZBj.mp hp
  by_cases hv:ZAJ (ZFH (Z6O 47 s))=true
  ·have hP:SoP (ZFH (Z6O 47 s)):=⟨hv,ZGn _⟩
   have:¬ZBh (ZFH (Z6O 47 s))=s:=fun e=>hn _ hP (by unfold ZBh at e;rw[if_pos hv]at e;exact e)
   rw[decide_eq_false this]
   simp
  ·rw[(Bool.not_eq_true _).mp hv]
   simp
theorem ZLF (s:List UInt8) (h10:(Z6O 47 s).length=10):(bif !decide (ZBh (ZFH (Z6O 47 s))=s)then SoR soZ false else SoR (ZFH (Z6O 47 s)) true)=pSo s:=by
 unfold pSo
 cases hp:ZA0 s with
 |some x=>
  obtain⟨h1,h2⟩:=Z9o.mp hp
  have hc:Z6O 47 s=ZGg x:=by rw[←h2];exact ZB1 x
  obtain⟨e1,e2⟩:=ZEk h1
  rw[hc,e1]
  have:ZBh x=s:=by unfold ZBh;rw[if_pos h1.1];exact h2
  rw[this]
  simp
 |none=>
  have hn:=ZBj.mp hp
  have:¬ZBh (ZFH (Z6O 47 s))=s:=fun e=>by
   unfold ZBh at e
   by_cases hv:ZAJ (ZFH (Z6O 47 s))=true
   ·rw[if_pos hv]at e
    exact hn _ ⟨hv,ZGn _⟩ e
   ·rw[if_neg hv]at e
    rw[←e]at h10
    simp[Z6O,ZAG]at h10
  rw[decide_eq_false this]
  rfl
theorem ZLS (l:List (List UInt8)):eqI (lenI (l.map StE)) 10=decide (l.length=10):=ZEa StE l 10
theorem ZHQ (a:Bool) (x:List UInt8) (hx:x.length≤2097152):callI tE Z6M [.bool a,.str (S x)]=some [.sl ((Z5Z x).map Rw.e),.bool (a&&isR x)]:=by
 rw[ZBx,ZDA x (by omega),ZFG]
 cases a<;>rfl
theorem ZIf (a:Bool) (x:List UInt8) (hx:x.length≤2097152):callI tE Z69 [.bool a,.str (S x)]=some [.int (num x),.bool (a&&isN x)]:=by
 rw[ZBy,ZBe x (by omega),ZHf]
 cases a<;>rfl
theorem ZLT {m:Rows} {k n:Nat} (h:m.length=n) (hk:k<n):inR (k:Int) (lenI m)=true:=ZEn (by omega) (by show(k:Int)<(m.length:Int);omega)
theorem ZJH (s:List UInt8) (hs:s.length≤2097152):callI tE Z91 [.str (S s)]=some (pSo s):=by
 have hc:=ZAH 47 s
 have hsub:∀x∈Z6O 47 s,x.length≤2097152:=fun x hx=>Nat.le_trans (Z7K hx) hs
 have hsz:=ZIe s hs
 have hnb:=ZGm (Z6O 47 s)
 have hi:=ZLE s
 rw[ZCT,show((47:Int))=(((47:UInt8).toNat:Nat):Int)from rfl,ZKc 47 s (by omega)]
 simp only[gA,ZLS]
 by_cases h10:(Z6O 47 s).length=10
 ·rw[decide_eq_true h10,Bool.not_true,cond_false]
  obtain⟨a,b,c,d,e,f,g,i,j,k,hw⟩:=ZJd h10
  rw[hw]at hsub hsz hnb hi⊢
  have q0:∀n:Nat,n<10→inR (n:Int) (lenI ([a,b,c,d,e,f,g,i,j,k].map StE))=true:=fun n hn=>ZLT (n:=10) rfl hn
  have i0:=q0 0 (by omega)
  have i1:=q0 1 (by omega)
  have i2:=q0 2 (by omega)
  have i3:=q0 3 (by omega)
  have i4:=q0 4 (by omega)
  have i5:=q0 5 (by omega)
  have i6:=q0 6 (by omega)
  have i7:=q0 7 (by omega)
  have i8:=q0 8 (by omega)
  have i9:=q0 9 (by omega)
  simp only[Int.natCast_zero,Int.natCast_one,Int.cast_ofNat_Int]at i0 i1 i2 i3 i4 i5 i6 i7 i8 i9
  have g0:at' ([a,b,c,d,e,f,g,i,j,k].map StE) (tn 0)=[.str (S a)]:=rfl
  have g1:at' ([a,b,c,d,e,f,g,i,j,k].map StE) (tn 1)=[.str (S b)]:=rfl
  have g2:at' ([a,b,c,d,e,f,g,i,j,k].map StE) (tn 2)=[.str (S c)]:=rfl
  have g3:at' ([a,b,c,d,e,f,g,i,j,k].map StE) (tn 3)=[.str (S d)]:=rfl
  have g4:at' ([a,b,c,d,e,f,g,i,j,k].map StE) (tn 4)=[.str (S e)]:=rfl
  have g5:at' ([a,b,c,d,e,f,g,i,j,k].map StE) (tn 5)=[.str (S f)]:=rfl
  have g6:at' ([a,b,c,d,e,f,g,i,j,k].map StE) (tn 6)=[.str (S g)]:=rfl
  have g7:at' ([a,b,c,d,e,f,g,i,j,k].map StE) (tn 7)=[.str (S i)]:=rfl
  have g8:at' ([a,b,c,d,e,f,g,i,j,k].map StE) (tn 8)=[.str (S j)]:=rfl
  have g9:at' ([a,b,c,d,e,f,g,i,j,k].map StE) (tn 9)=[.str (S k)]:=rfl
  obtain⟨m,m1,m2⟩:=ZHk f (hsub f (by simp))
  simp only[i0,i1,i2,i3,i4,i5,i6,i7,i8,i9,cond_true,g0,g1,g2,g3,g4,g5,g6,g7,g8,g9,gA,ZHQ _ a (hsub a (by simp)),ZIf _ b (hsub b (by simp)),ZHQ _ c (hsub c (by simp)),ZHQ _ d (hsub d (by simp)),ZHQ _ e (hsub e (by simp)),m1,ZIf _ g (hsub g (by simp)),ZIf _ i (hsub i (by simp)),ZIf _ j (hsub j (by simp)),ZIf _ k (hsub k (by simp)),Bool.true_and]
  have hso:ZFH [a,b,c,d,e,f,g,i,j,k]=⟨Z5Z a,num b,Z5Z c,Z5Z d,Z5Z e,Z8u f,num g,num i,num j,num k⟩:=rfl
  have hal:ZKB [a,b,c,d,e,f,g,i,j,k]=(isR a&&(isN b&&(isR c&&(isR d&&(isR e&&(ZGl f&&(isN g&&(isN i&&(isN j&&isN k))))))))):=rfl
  rw[hso]at hsz hnb hi
  rw[hal]at hi
  rw[←hi]
  cases hf:ZGl f with
  |false=>
   simp only[Bool.false_and,Bool.and_false,cond_false]
   cases isR a&&isN b&&isR c&&isR d&&isR e&&isN g&&isN i&&isN j&&isN k<;>rfl
  |true=>
   rw[m2 hf]
   have hx:(isR a&&isN b&&isR c&&isR d&&isR e&&isN g&&isN i&&isN j&&isN k)=(isR a&&(isN b&&(isR c&&(isR d&&(isR e&&(true&&(isN g&&(isN i&&(isN j&&isN k))))))))):=by simp only[Bool.true_and,Bool.and_assoc]
   rw[hx]
   generalize(isR a&&(isN b&&(isR c&&(isR d&&(isR e&&(true&&(isN g&&(isN i&&(isN j&&isN k)))))))))=B
   cases B
   ·rfl
   ·have v1:=ZCb _ hsz
    have v2:=ZIV _ hsz hnb
    simp only at v1 v2
    simp only[Bool.not_true,cond_false,v1,v2,gA,ZCY,Bool.true_and]
    cases ZAJ ⟨Z5Z a,num b,Z5Z c,Z5Z d,Z5Z e,Z8u f,num g,num i,num j,num k⟩
    ·rfl
    ·simp only[Bool.not_true,cond_false,Bool.true_and]
     cases decide (ZBh ⟨Z5Z a,num b,Z5Z c,Z5Z d,Z5Z e,Z8u f,num g,num i,num j,num k⟩=s)<;>rfl
 ·rw[decide_eq_false h10,ZId h10];rfl
theorem ZHm (s:List UInt8) (hs:s.length≤2097152) (f:List UInt8) (hf:f.length≤2097152) (w:List (List UInt8)) (hw:w.length=10) (h5:w.getD 5 []=f) (K:Rows→Option (List Dat)) {x0:ByteArray} {x1 x2 x4 x5 x6 x7 x8 x10 x11 x12 x13 x14:Int} {x16 x17 x18 x19 x20 x21 x22 x23 x24:Rows}
  (hK:∀(i:Int) (m:Rows),ltI i (lenI ((Z6O 124 f).map StE))=false∨f=[]→inR 5 (lenI (w.map StE))=true→Z5m x0 x1 x2 i x4 x5 x6 x7 x8 (w.map StE) x10 x11 x12 x13 x14 ((Z6O 124 f).map StE) x16 x17 x18 x19 x20 x21 x22 x23 x24 m=K m):
  Z5m x0 x1 x2 0 x4 x5 x6 x7 x8 (w.map StE) x10 x11 x12 x13 x14 ((Z6O 124 f).map StE) x16 x17 x18 x19 x20 x21 x22 x23 x24 []=K ((Z8u f).map rsE):=by
 have hc:=ZAH 124 f
 have i5:inR 5 (lenI (w.map StE))=true:=ZEn (by omega) (by rw[Z5L];omega)
 by_cases h0:f=[]
 ·rw[hK 0 [] (.inr h0) i5]
  unfold Z8u
  rw[if_pos h0];rfl
 ·have a5:at' (w.map StE) (tn 5)=StE f:=by
   obtain⟨u,z,v,hu,hul⟩:=ZCX (show 5<w.length by omega)
   rw[hu,←hul,ZKX]at h5
   subst h5
   exact ZDK hu hul
  have:=Z6Q (l:=Z6O 124 f) (L:=fun(t:List (List Rw)) i=>Z5m x0 x1 x2 i x4 x5 x6 x7 x8 (w.map StE) x10 x11 x12 x13 x14 ((Z6O 124 f).map StE) x16 x17 x18 x19 x20 x21 x22 x23 x24 (t.map rsE)) (F:=fun _ _=>K ((Z8u f).map rsE)) (I:=fun t u _=>t=u.map Z5Z) (by omega) (fun u x v t e hI=>by
   have hx:x.length≤2097152:=Nat.le_trans (Z7K (show x∈Z6O 124 f by rw[e];simp)) hf
   have hul:u.length<(Z6O 124 f).length:=by rw[e];simp
   have hat:at' ((Z6O 124 f).map StE) u.length=StE x:=ZDK e rfl
   refine .inl ⟨(u++[x]).map Z5Z,?_,rfl,rfl⟩
   show Z5m _ _ _ _ _ _ _ _ _ _ _ _ _ _ _ _ _ _ _ _ _ _ _ _ _ _=Z5m _ _ _ _ _ _ _ _ _ _ _ _ _ _ _ _ _ _ _ _ _ _ _ _ _ _
   rw[Z9A,show ltI (u.length:Int) (lenI ((Z6O 124 f).map StE))=true by rw[Z5L];exact ltT (by omega),cond_true,i5,cond_true,a5,ZBR hul]
   have hne:eqS (S f) (S [])=false:=by rw[ZCY,decide_eq_false h0]
   have z0:(S f==S [])=(S f==S []):=rfl
   simp only[StE,gA,hne,Bool.not_false,cond_true,Z7W,hat,ZDB x (show x.length<1073741824 by omega),ZFG,hI,Z5h,List.length_map]
   rw[show fitM (Nat.succ u.length) 24=true from Z8v (by omega),cond_true,ZDM]
   simp) (fun t ht=>by
   show Z5m _ _ _ _ _ _ _ _ _ _ _ _ _ _ _ _ _ _ _ _ _ _ _ _ _ _=_
   rw[hK _ _ (.inl (ZE7 _)) i5,ht]
   unfold Z8u
   rw[if_neg h0]) [] rfl
  exact this
theorem ZJI (s:List UInt8) (hs:s.length≤2097152):callI tE Z80 [.str (S s)]=some (pSo s):=by
 have hc:=ZAH 47 s
 have hsub:∀x∈Z6O 47 s,x.length≤2097152:=fun x hx=>Nat.le_trans (Z7K hx) hs
 have hsz:=ZIe s hs
 have hnb:=ZGm (Z6O 47 s)
 rw[ZCU,show((47:Int))=(((47:UInt8).toNat:Nat):Int)from rfl,ZKd 47 s (by omega)]
 simp only[gA,ZLS]
 by_cases h10:(Z6O 47 s).length=10
 ·have hi:=ZLF s h10
  rw[decide_eq_true h10,Bool.not_true,cond_false]
  obtain⟨a,b,c,d,e,f,g,i,j,k,hw⟩:=ZJd h10
  rw[hw]at hsub hsz hnb hi⊢
  have q0:∀n:Nat,n<10→inR (n:Int) (lenI ([a,b,c,d,e,f,g,i,j,k].map StE))=true:=fun n hn=>ZLT (n:=10) rfl hn
  have i0:=q0 0 (by omega)
  have i1:=q0 1 (by omega)
  have i2:=q0 2 (by omega)
  have i3:=q0 3 (by omega)
  have i4:=q0 4 (by omega)
  have i5:=q0 5 (by omega)
  have i6:=q0 6 (by omega)
  have i7:=q0 7 (by omega)
  have i8:=q0 8 (by omega)
  have i9:=q0 9 (by omega)
  simp only[Int.natCast_zero,Int.natCast_one,Int.cast_ofNat_Int]at i0 i1 i2 i3 i4 i5 i6 i7 i8 i9
  have g0:at' ([a,b,c,d,e,f,g,i,j,k].map StE) (tn 0)=[.str (S a)]:=rfl
  have g1:at' ([a,b,c,d,e,f,g,i,j,k].map StE) (tn 1)=[.str (S b)]:=rfl
  have g2:at' ([a,b,c,d,e,f,g,i,j,k].map StE) (tn 2)=[.str (S c)]:=rfl
  have g3:at' ([a,b,c,d,e,f,g,i,j,k].map StE) (tn 3)=[.str (S d)]:=rfl
  have g4:at' ([a,b,c,d,e,f,g,i,j,k].map StE) (tn 4)=[.str (S e)]:=rfl
  have g5:at' ([a,b,c,d,e,f,g,i,j,k].map StE) (tn 5)=[.str (S f)]:=rfl
  have g6:at' ([a,b,c,d,e,f,g,i,j,k].map StE) (tn 6)=[.str (S g)]:=rfl
  have g7:at' ([a,b,c,d,e,f,g,i,j,k].map StE) (tn 7)=[.str (S i)]:=rfl
  have g8:at' ([a,b,c,d,e,f,g,i,j,k].map StE) (tn 8)=[.str (S j)]:=rfl
  have g9:at' ([a,b,c,d,e,f,g,i,j,k].map StE) (tn 9)=[.str (S k)]:=rfl
  have pr:∀x∈[a,b,c,d,e,f,g,i,j,k],callI tE Z60 [.str (S x)]=some [.sl ((Z5Z x).map Rw.e),.bool (isR x)]:=fun x hx=>by
   have:=hsub x hx
   rw[ZDB x (by omega),ZFG]
  have pn:∀x∈[a,b,c,d,e,f,g,i,j,k],callI tE Z5V [.str (S x)]=some [.int (num x),.bool (isN x)]:=fun x hx=>by
   have:=hsub x hx
   rw[ZBf x (by omega),ZHf]
  have hcf:callI tE Z77 [.str (S f),.int 124]=some [.sl ((Z6O 124 f).map StE)]:=by
   have:=hsub f (by simp)
   exact ZKd 124 f (by omega)
  simp only[i0,i1,i2,i3,i4,i5,cond_true,g0,g1,g2,g3,g4,g5,gA,pr a (by simp),pn b (by simp),pr c (by simp),pr d (by simp),pr e (by simp),hcf]
  have hso:ZFH [a,b,c,d,e,f,g,i,j,k]=⟨Z5Z a,num b,Z5Z c,Z5Z d,Z5Z e,Z8u f,num g,num i,num j,num k⟩:=rfl
  rw[hso]at hsz hnb hi
  have v2:=ZGI _ hsz hnb
  simp only at v2
  refine(ZHm s hs f (hsub f (by simp)) [a,b,c,d,e,f,g,i,j,k] rfl rfl (fun M=>(callI tE Z6T [.sl ((Z5Z a).map Rw.e),.int (num b),.sl ((Z5Z c).map Rw.e),.sl ((Z5Z d).map Rw.e),.sl ((Z5Z e).map Rw.e),.sl M,.int (num g),.int (num i),.int (num j),.int (num k)]).bind fun r4=>bif !(eqS (gs r4) (S s))then some (SoR soZ false)else some [.sl ((Z5Z a).map Rw.e),.int (num b),.sl ((Z5Z c).map Rw.e),.sl ((Z5Z d).map Rw.e),.sl ((Z5Z e).map Rw.e),.sl M,.int (num g),.int (num i),.int (num j),.int (num k),.bool true]) (fun ii M hend hin=>?_)).trans ?_
  ·rw[Z9A]
   rcases hend with hend|hend
   ·rw[hend,cond_false]
    simp only[i6,i7,i8,i9,cond_true,g6,g7,g8,g9,gA,pn g (by simp),pn i (by simp),pn j (by simp),pn k (by simp)]
    rfl
   ·have hne:eqS (S f) (S [])=true:=by rw[ZCY,decide_eq_true hend]
    simp only[hin,g5,hne,Bool.not_true,cond_false,i6,i7,i8,i9,cond_true,g6,g7,g8,g9,gA,pn g (by simp),pn i (by simp),pn j (by simp),pn k (by simp)]
    cases ltI ii (lenI ((Z6O 124 f).map StE))<;>rfl
  ·simp only[v2,gA,ZCY]
   rw[←hi]
   cases decide (ZBh ⟨Z5Z a,num b,Z5Z c,Z5Z d,Z5Z e,Z8u f,num g,num i,num j,num k⟩=s)<;>rfl
 ·rw[decide_eq_false h10,ZId h10];rfl
def ZF1 (c:Ck):List UInt8:=Z7k [33] [ZBQ c.so,Z6l c.em]
def ZFm (c:Ck):List UInt8:=if ZGZ c then ZF1 c else[]
theorem ZFn (c:Ck):ZF1 c=ZBQ c.so++[33]++Z6l c.em:=by simp[ZF1,Z7k]
theorem ZFI {c:Ck} (h:ZGZ c=true):ZAJ c.so=true∧aok c.em=true∧w64 ((c.em.length:Int)+ZIF c.so)=c.so.inp.length∧c.em=(ZAn c.so.inp).take c.em.length:=by
 simp only[ZGZ,Bool.and_eq_true,decide_eq_true_eq]at h
 exact h
theorem ZIg (c:Ck) (h:c.B2) (hb:c.so.nb):callI tE Z7e [.sl (c.so.inp.map Rw.e),.int c.so.pos,.sl (c.so.heap.map Rw.e),.sl (c.so.dfd.map Rw.e),.sl (c.so.out.map Rw.e),.sl (c.so.runs.map rsE),.int c.so.lp,.int c.so.rp,.int c.so.ph,.int c.so.wr,.sl (c.em.map Rw.e)]=some [.str (S (ZFm c))]:=by
 have hso:c.so.B2:=by simp only[Ck.B2,Ck.sz,So.B2]at*;omega
 have hem:c.em.length≤1073741824:=by simp only[Ck.B2,Ck.sz]at h;omega
 have hl:=ZIU c.so hb hso.b.p.2.2.2.2
 have hm:=Z72 c.em
 rw[ZB8,ZJ8 c h]
 simp only[gA]
 unfold ZFm
 by_cases hv:ZGZ c=true
 ·have hs:=(ZFI hv).1
  have ht:ZBh c.so=ZBQ c.so:=if_pos hs
  rw[hv,if_pos rfl,Bool.not_true,cond_false]
  simp only[ZGI c.so hso hb,Z9X c.em (show c.em.length<1099511627776 by omega),gA,ht]
  rw[Z61 (by simp;omega),Z6t,cond_true,Z61 (by simp;omega),Z6t,cond_true,ZFn]
 ·rw[if_neg hv,(Bool.not_eq_true _).mp hv];rfl
noncomputable def ZAX (s:List UInt8):So:=(ZA0 s).getD soZ
noncomputable def ZJe (s:List UInt8):Bool:=(ZA0 s).isSome
theorem ZJf (s:List UInt8):pSo s=SoR (ZAX s) (ZJe s):=by
 unfold pSo ZAX ZJe
 cases ZA0 s<;>rfl
theorem ZFJ {s:List UInt8} {x:So} (h:ZA0 s=some x):x=ZFH (Z6O 47 s):=by
 obtain⟨h1,h2⟩:=Z9o.mp h
 rw[←h2,ZB1]
 exact(ZEk h1).1.symm
theorem ZHR (s:List UInt8) (hs:s.length≤2097152):(ZFH (Z6O 47 s)).sz≤100000000:=by
 have g:∀i,((Z6O 47 s).getD i []).length≤2097152:=fun i=>by
  by_cases hi:i<(Z6O 47 s).length
  ·have:(Z6O 47 s).getD i []∈Z6O 47 s:=by
    rw[List.getD_eq_getElem?_getD,List.getElem?_eq_getElem hi]
    exact List.getElem_mem hi
   exact Nat.le_trans (Z7K this) hs
  ·rw[List.getD_eq_getElem?_getD,List.getElem?_eq_none (by omega)]
   simp
 have a0:=Z7V ((Z6O 47 s).getD 0 [])
 have a2:=Z7V ((Z6O 47 s).getD 2 [])
 have a3:=Z7V ((Z6O 47 s).getD 3 [])
 have a4:=Z7V ((Z6O 47 s).getD 4 [])
 have a5:=ZGM ((Z6O 47 s).getD 5 [])
 have g5:=g 5
 simp only[So.sz,ZFH]
 omega
theorem ZGo (s:List UInt8) (hs:s.length≤2097152):(ZAX s).sz≤100000000∧(ZAX s).nb∧(ZAX s).wr<1000000000:=by
 unfold ZAX
 cases hp:ZA0 s with
 |none=>
  have z:I64 0:=⟨by decide,by decide⟩
  exact⟨by decide,⟨z,z,z,z,z⟩,by decide⟩
 |some x=>
  have:=ZFJ hp
  subst this
  exact⟨ZHR s hs,ZGm _,ZGn _⟩
def CkP (c:Ck):Prop:=ZGZ c=true∧c.so.wr<1000000000
theorem ZFo (s:So):(33:UInt8)∉ZBQ s:=ZBF (by decide) _ (fun x hx=>by
 have hR:∀l,(33:UInt8)∉Z6l l:=fun l=>ZAU (by decide) (by decide) (by decide) (by decide) l
 have hN:∀n,(33:UInt8)∉fmt n:=fun n=>Z8c (by decide) (by decide) n
 have hU:=ZCe (b:=33) (by decide) (by decide) (by decide) (by decide) (by decide) s.runs
 simp only[ZGg,List.mem_cons,List.not_mem_nil,or_false]at hx
 rcases hx with rfl|rfl|rfl|rfl|rfl|rfl|rfl|rfl|rfl|rfl
 ·exact hR _
 ·exact hN _
 ·exact hR _
 ·exact hR _
 ·exact hR _
 ·exact hU
 ·exact hN _
 ·exact hN _
 ·exact hN _
 ·exact hN _)
theorem ZCi (c:Ck):Z6O 33 (ZF1 c)=[ZBQ c.so,Z6l c.em]:=ZBp 33 _ (by simp) (fun x hx=>by
 simp only[List.mem_cons,List.not_mem_nil,or_false]at hx
 rcases hx with rfl|rfl
 ·exact ZFo _
 ·exact ZAU (by decide) (by decide) (by decide) (by decide) _)
theorem ZBr {c:Ck} (h:CkP c):ZA0 (ZBQ c.so)=some c.so∧Z5Z (Z6l c.em)=c.em∧isR (Z6l c.em)=true:=by
 obtain⟨h1,h2⟩:=h
 obtain⟨q1,q2,_⟩:=ZFI h1
 exact⟨Z9o.mpr ⟨⟨q1,h2⟩,rfl⟩,(ZAj q2).1,(ZAj q2).2⟩
theorem ZIh (a b:Ck) (ha:CkP a) (hb:CkP b) (h:ZF1 a=ZF1 b):a=b:=by
 have e:=ZCi a
 rw[h,ZCi b]at e
 simp only[List.cons.injEq,and_true]at e
 obtain⟨a1,a2,_⟩:=ZBr ha
 obtain⟨b1,b2,_⟩:=ZBr hb
 rw[←e.1,b1]at a1
 rw[←e.2,b2]at a2
 cases a;cases b
 simp only at a1 a2
 cases a1;cases a2;rfl
noncomputable def ZA1 (s:List UInt8):Option Ck:=unf CkP ZF1 s
theorem ZBk {s:List UInt8} {x:Ck}:ZA1 s=some x↔CkP x∧ZF1 x=s:=ZDr ZIh
theorem ZBl {s:List UInt8}:ZA1 s=none↔∀x:Ck,CkP x→ZF1 x≠s:=ZDs
def ckZ:Ck:=⟨soZ,[]⟩
def CkR (x:Ck) (b:Bool):List Dat:=[.sl (x.so.inp.map Rw.e),.int x.so.pos,.sl (x.so.heap.map Rw.e),.sl (x.so.dfd.map Rw.e),.sl (x.so.out.map Rw.e),.sl (x.so.runs.map rsE),.int x.so.lp,.int x.so.rp,.int x.so.ph,.int x.so.wr,.sl (x.em.map Rw.e),.bool b]
noncomputable def ZCj (s:List UInt8):Ck:=(ZA1 s).getD ckZ
noncomputable def ZJg (s:List UInt8):Bool:=(ZA1 s).isSome
noncomputable def pCk (s:List UInt8):List Dat:=CkR (ZCj s) (ZJg s)
theorem ZGp {s:List UInt8} (h:ZA1 s=none):pCk s=CkR ckZ false:=by
 unfold pCk ZCj ZJg
 rw[h];rfl
theorem ZHS {s:List UInt8} {c:Ck} (h:ZA1 s=some c):pCk s=CkR c true:=by
 unfold pCk ZCj ZJg
 rw[h];rfl
theorem ZJh {s:List UInt8} (h:(Z6O 33 s).length≠2):pCk s=CkR ckZ false:=
 ZGp (ZBl.mpr fun x _ hx=>h (by rw[←hx,ZCi];rfl))
theorem ZHT (s:List UInt8) (hs:s.length≤2097152):(ZCj s).sz≤100000024:=by
 unfold ZCj
 cases hp:ZA1 s with
 |none=>decide
 |some c=>
  obtain⟨h1,h2⟩:=ZBk.mp hp
  have hf:=(ZBr h1).1
  have hl:(ZBQ c.so).length≤2097152:=by
   rw[ZFn]at h2
   have:=congrArg List.length h2
   simp only[List.length_append]at this
   omega
  have h3:=ZFJ hf
  have h4:=ZHR _ hl
  rw[←h3]at h4
  have h5:=Z6i (ZFI h1.1).2.1
  show c.so.sz+c.em.length≤_
  omega
theorem ZKo {s a b:List UInt8} {c:Ck} (hw:Z6O 33 s=[a,b]) (h:ZA1 s=some c):ZJe a=true∧ZAX a=c.so∧isR b=true∧Z5Z b=c.em∧ZGZ c=true∧ZF1 c=s:=by
 obtain⟨h1,h2⟩:=ZBk.mp h
 have e:=ZCi c
 rw[h2,hw]at e
 simp only[List.cons.injEq,and_true]at e
 obtain⟨a1,a2,a3⟩:=ZBr h1
 rw[←e.1]at a1
 rw[←e.2]at a2 a3
 refine⟨?_,?_,a3,a2,h1.1,h2⟩
 ·unfold ZJe;rw[a1];rfl
 ·unfold ZAX;rw[a1];rfl
theorem ZLG {s a b:List UInt8} (hw:Z6O 33 s=[a,b]):(bif ZJe a&&(isR b&&ZGZ ⟨ZAX a,Z5Z b⟩)then CkR ⟨ZAX a,Z5Z b⟩ true else CkR ckZ false)=pCk s:=by
 have hj:=ZDo 33 s
 rw[hw]at hj
 cases hp:ZA1 s with
 |some c=>
  obtain⟨q1,q2,q3,q4,q5,_⟩:=ZKo hw hp
  rw[ZHS hp,q1,q2,q3,q4]
  show(bif true&&(true&&ZGZ c)then CkR c true else CkR ckZ false)=_
  rw[q5];rfl
 |none=>
  rw[ZGp hp]
  have hn:=ZBl.mp hp
  cases h1:ZJe a with
  |false=>rfl
  |true=>
   cases h2:isR b with
   |false=>rfl
   |true=>
    by_cases h3:ZGZ ⟨ZAX a,Z5Z b⟩=true
    ·unfold ZJe at h1
     cases hx:ZA0 a with
     |none=>rw[hx]at h1;cases h1
     |some x=>
      obtain⟨x1,x2⟩:=Z9o.mp hx
      have hg:ZAX a=x:=by unfold ZAX;rw[hx];rfl
      rw[hg]at h3
      refine absurd ?_ (hn ⟨x,Z5Z b⟩ ⟨h3,x1.2⟩)
      rw[ZFn]
      show ZBQ x++[33]++Z6l (Z5Z b)=s
      rw[x2,(ZJF h2).2]
      simpa[Z7k]using hj
    ·rw[(Bool.not_eq_true _).mp h3];rfl
theorem ZLH {s a b:List UInt8} (hs:s.length≤2097152) (hw:Z6O 33 s=[a,b]):(bif !decide (ZFm ⟨ZAX a,Z5Z b⟩=s)then CkR ckZ false else CkR ⟨ZAX a,Z5Z b⟩ true)=pCk s:=by
 have ha:a.length≤2097152:=Nat.le_trans (Z7K (show a∈Z6O 33 s by rw[hw];simp)) hs
 cases hp:ZA1 s with
 |some c=>
  obtain⟨q1,q2,q3,q4,q5,q6⟩:=ZKo hw hp
  rw[ZHS hp,q2,q4]
  have:ZFm c=s:=by unfold ZFm;rw[if_pos q5];exact q6
  show(bif !decide (ZFm c=s)then CkR ckZ false else CkR c true)=_
  rw[this];simp
 |none=>
  rw[ZGp hp]
  have hn:=ZBl.mp hp
  have:¬ZFm ⟨ZAX a,Z5Z b⟩=s:=fun e=>by
   unfold ZFm at e
   by_cases hv:ZGZ ⟨ZAX a,Z5Z b⟩=true
   ·rw[if_pos hv]at e
    exact hn _ ⟨hv,(ZGo a ha).2.2⟩ e
   ·rw[if_neg hv]at e
    rw[←e]at hw
    simp[Z6O,ZAG]at hw
  rw[decide_eq_false this]
  rfl
theorem ZJJ (s:List UInt8) (hs:s.length≤2097152):callI tE Z7q [.str (S s)]=some (pCk s):=by
 have hc:=ZAH 33 s
 have hsub:∀x∈Z6O 33 s,x.length≤2097152:=fun x hx=>Nat.le_trans (Z7K hx) hs
 rw[ZBM,show((33:Int))=(((33:UInt8).toNat:Nat):Int)from rfl,ZKc 33 s (by omega)]
 simp only[gA]
 rw[show eqI (lenI ((Z6O 33 s).map StE)) 2=decide ((Z6O 33 s).length=2)from ZEa StE _ 2]
 by_cases h2:(Z6O 33 s).length=2
 ·rw[decide_eq_true h2,Bool.not_true,cond_false]
  obtain⟨a,b,hw⟩:=ZKf h2
  have hi:=ZLG hw
  rw[hw]at hsub⊢
  have i0:inR 0 (lenI ([a,b].map StE))=true:=rfl
  have i1:inR 1 (lenI ([a,b].map StE))=true:=rfl
  have g0:at' ([a,b].map StE) (tn 0)=[.str (S a)]:=rfl
  have g1:at' ([a,b].map StE) (tn 1)=[.str (S b)]:=rfl
  have ha:=hsub a (by simp)
  have hb:=hsub b (by simp)
  obtain⟨z1,z2,z3⟩:=ZGo a ha
  have z4:=Z7V b
  have v:=ZJ7 ⟨ZAX a,Z5Z b⟩ (by show(ZAX a).sz+(Z5Z b).length≤1073741800;omega)
  simp only at v
  simp only[i0,i1,g0,g1,cond_true,gA,ZJH a ha,ZJf,SoR,ZDA b (by omega),ZFG,v]
  rw[←hi]
  cases ZJe a
  ·rfl
  ·cases isR b
   ·rfl
   ·cases ZGZ ⟨ZAX a,Z5Z b⟩<;>rfl
 ·rw[decide_eq_false h2,ZJh h2];rfl
theorem ZJK (s:List UInt8) (hs:s.length≤2097152):callI tE Z7r [.str (S s)]=some (pCk s):=by
 have hc:=ZAH 33 s
 have hsub:∀x∈Z6O 33 s,x.length≤2097152:=fun x hx=>Nat.le_trans (Z7K hx) hs
 rw[ZBN,show((33:Int))=(((33:UInt8).toNat:Nat):Int)from rfl,ZKd 33 s (by omega)]
 simp only[gA]
 rw[show eqI (lenI ((Z6O 33 s).map StE)) 2=decide ((Z6O 33 s).length=2)from ZEa StE _ 2]
 by_cases h2:(Z6O 33 s).length=2
 ·rw[decide_eq_true h2,Bool.not_true,cond_false]
  obtain⟨a,b,hw⟩:=ZKf h2
  have hi:=ZLH hs hw
  rw[hw]at hsub⊢
  have i0:inR 0 (lenI ([a,b].map StE))=true:=rfl
  have i1:inR 1 (lenI ([a,b].map StE))=true:=rfl
  have g0:at' ([a,b].map StE) (tn 0)=[.str (S a)]:=rfl
  have g1:at' ([a,b].map StE) (tn 1)=[.str (S b)]:=rfl
  have ha:=hsub a (by simp)
  have hb:=hsub b (by simp)
  obtain⟨z1,z2,z3⟩:=ZGo a ha
  have z4:=Z7V b
  have v:=ZIg ⟨ZAX a,Z5Z b⟩ (by show(ZAX a).sz+(Z5Z b).length≤1073741800;omega) z2
  simp only at v
  simp only[i0,i1,g0,g1,cond_true,gA,ZJI a ha,ZJf,SoR,ZDB b (show b.length<1073741824 by omega),ZFG,v,ZCY]
  rw[←hi]
  cases decide (ZFm ⟨ZAX a,Z5Z b⟩=s)<;>rfl
 ·rw[decide_eq_false h2,ZJh h2];rfl
def Z9p (r:List UInt8):List UInt8:=fmt r.length++[58]++r++[44]++fmt (chk r:Nat)++[59]
theorem ZBI {n:Nat} (h:n<9223372036854775808):(fmt (n:Int)).length≤20:=Z6k ⟨by omega,by omega⟩
theorem ZJL {r:List UInt8} (h:r.length<4611686018427387904):r.length+3≤(Z9p r).length∧(Z9p r).length≤r.length+43:=by
 have h1:=ZBI (n:=r.length) (by omega)
 have h2:=ZBI (n:=chk r) (by have:=ZH7 r;omega)
 unfold Z9p
 simp only[List.length_append,List.length_cons,List.length_nil]
 omega
theorem Z8d {b:UInt8} {x y u v:List UInt8} (hx:b∉x) (hu:b∉u) (h:x++b::y=u++b::v):x=u∧y=v:=by
 induction x generalizing u with
 |nil=>
  cases u with
  |nil=>simpa using h
  |cons c u=>
   simp only[List.nil_append,List.cons_append,List.cons.injEq]at h
   exact absurd (by rw[←h.1];simp) hu
 |cons a x ih=>
  cases u with
  |nil=>
   simp only[List.nil_append,List.cons_append,List.cons.injEq]at h
   exact absurd (by rw[h.1];simp) hx
  |cons c u=>
   simp only[List.cons_append,List.cons.injEq]at h
   simp only[List.mem_cons,not_or]at hx hu
   obtain⟨e1,e2⟩:=ih hx.2 hu.2 h.2
   exact⟨by rw[h.1,e1],e2⟩
theorem ZJM {a b x y:List UInt8} (h:Z9p a++x=Z9p b++y):a=b:=by
 unfold Z9p at h
 simp only[List.append_assoc,List.singleton_append]at h
 have h58:∀n:Int,(58:UInt8)∉fmt n:=fun n=>Z8c (by decide) (by decide) n
 obtain⟨e1,e2⟩:=Z8d (h58 _) (h58 _) h
 have hl:a.length=b.length:=by have:=Z9U e1;omega
 exact(List.append_inj e2 hl).1
open Classical in
noncomputable def ZDI (t:List UInt8):Option (List UInt8):=if h:∃r y,t=Z9p r++y then some h.choose else none
theorem ZB2 {t r:List UInt8}:ZDI t=some r↔∃y,t=Z9p r++y:=by
 unfold ZDI
 constructor
 ·intro h
  split at h
  ·rename_i hx;cases h;exact hx.choose_spec
  ·cases h
 ·rintro ⟨y,hy⟩
  have hx:∃r y,t=Z9p r++y:=⟨r,y,hy⟩
  rw[dif_pos hx]
  obtain⟨y',hy'⟩:=hx.choose_spec
  exact congrArg some (ZJM (hy'.symm.trans hy))
theorem Z7p {t:List UInt8}:ZDI t=none↔∀r y,t≠Z9p r++y:=by
 unfold ZDI
 constructor
 ·intro h r y e
  rw[dif_pos ⟨r,y,e⟩]at h;cases h
 ·intro h
  rw[dif_neg]
  rintro ⟨r,y,e⟩
  exact h r y e
noncomputable def Z9q (t:List UInt8):List (List UInt8)×Bool:=
 if _h:t=[]then([],true)else match ZDI t with
  |none=>([],false)
  |some r=>(r::(Z9q (t.drop (Z9p r).length)).1,(Z9q (t.drop (Z9p r).length)).2)
termination_by t.length
decreasing_by
 all_goals
  have:0<t.length:=List.length_pos_iff.mpr _h
  have:0<(Z9p r).length:=by unfold Z9p;(first|omega|(simp only[List.length_append,List.length_cons,List.length_nil,List.length_map,List.length_take,List.length_drop,List.length_replicate,Z6C]at* <;>omega))
  simp only[List.length_drop];omega
theorem Z9r:Z9q []=([],true):=by rw[Z9q,dif_pos rfl]
theorem ZCk {t:List UInt8} (h:t≠[]) (hf:ZDI t=none):Z9q t=([],false):=by rw[Z9q,dif_neg h,hf]
theorem ZDt (r y:List UInt8):Z9q (Z9p r++y)=(r::(Z9q y).1,(Z9q y).2):=by
 rw[Z9q,dif_neg (by unfold Z9p;simp),ZB2.mpr ⟨y,rfl⟩]
 simp only[List.drop_left]
theorem ZIi (e:UInt8) (p x y:List UInt8) (hx:e∉x) (hl:x.length≤11) (hb:(p++x++e::y).length<4611686018427387904):
  callI tE Z6d [.str (S (p++x++e::y)),.int (p.length:Int),.int (e.toNat:Int)]=some [.int (num x),.int ((p.length+x.length+1:Nat):Int),.bool (isN x&&leI 0 (num x))]:=by
 rw[ZBZ]
 have key:∀(v u:List UInt8),x=u++v→Z7U (S (p++x++e::y)) ((p++u).length:Nat) (e.toNat:Int) (p.length:Int)=some [.int (num x),.int ((p.length+x.length+1:Nat):Int),.bool (isN x&&leI 0 (num x))]:=by
  intro v
  induction v with
  |nil=>
   intro u hu
   rw[List.append_nil]at hu
   subst hu
   have e1:ltI ((p++x).length:Nat) (szI (S (p++x++e::y)))=true:=ZIw (p++x) y e
   have e2:inR ((p++x).length:Nat) (szI (S (p++x++e::y)))=true:=ZIx (p++x) y e
   have e3:byteAt (S (p++x++e::y)) ((p++x).length:Nat)=(e.toNat:Int):=ZHr (p++x) y e
   have e4:leI (szI (S (p++x++e::y))) ((p++x).length:Nat)=false:=leF (by rw[Z6C];simp only[List.length_append,List.length_cons];omega)
   have e5:in3 (p.length:Int) ((p++x).length:Nat) (szI (S (p++x++e::y)))=true:=ZJk (by omega) (by(first|omega|(simp only[List.length_append,List.length_cons,List.length_nil,List.length_map,List.length_take,List.length_drop,List.length_replicate,Z6C]at* <;>omega))) (by(first|omega|(simp only[List.length_append,List.length_cons,List.length_nil,List.length_map,List.length_take,List.length_drop,List.length_replicate,Z6C]at* <;>omega)))
   have e6:w64 ((((p++x).length:Nat):Int)+1)=((p.length+x.length+1:Nat):Int):=by
    simp only[List.length_append,List.length_cons]at hb
    rw[Z5a ⟨by omega,by simp only[List.length_append];omega⟩];simp only[List.length_append];omega
   have e7:=ZBe x (by omega)
   rw[Z6m,e1,e2,e3,e4,e5,ZCK,Z7W,Z7W,ZGa,e7,e6,ZHf]
   simp only[gA]
   cases ltI (w64 (((p++x).length:Nat)-(p.length:Int))) 11<;>cases isN x<;>rfl
  |cons c v ih=>
   intro u hu
   have hs:p++x++e::y=(p++u)++c::(v++e::y):=by rw[hu];simp
   have hul:u.length<11:=by rw[hu]at hl;simp at hl;omega
   have hpl:(p++u).length<4611686018427387904:=by rw[hs]at hb;simp only[List.length_append]at hb⊢;omega
   have hc:c≠e:=fun h=>hx (by rw[hu,h];simp)
   have e0:w64 ((((p++u).length:Nat):Int)-(p.length:Int))=(u.length:Int):=by
    rw[Z5a ⟨by(first|omega|(simp only[List.length_append,List.length_cons,List.length_nil,List.length_map,List.length_take,List.length_drop,List.length_replicate,Z6C]at* <;>omega)),by(first|omega|(simp only[List.length_append,List.length_cons,List.length_nil,List.length_map,List.length_take,List.length_drop,List.length_replicate,Z6C]at* <;>omega))⟩];(first|omega|(simp only[List.length_append,List.length_cons,List.length_nil,List.length_map,List.length_take,List.length_drop,List.length_replicate,Z6C]at* <;>omega))
   have e1:=ZIw (p++u) (v++e::y) c
   have e2:=ZIx (p++u) (v++e::y) c
   have e3:=ZHr (p++u) (v++e::y) c
   rw[←hs]at e1 e2 e3
   have ih':=ih (u++[c]) (by rw[hu];simp)
   rw[Z6m,e1,e2,e3,e0,ltT (by omega),ZC3,decide_eq_false hc,Z7X (by omega)]
   simp only[cond_true,Bool.not_false]
   rw[←ih']
   congr 2
   simp
   omega
 have:=key x [] rfl
 rw[List.append_nil]at this
 exact this
theorem ZC4 (e:UInt8) (p t:List UInt8) (hx:∀x y,t=x++e::y→e∉x→11<x.length) (hb:(p++t).length<4611686018427387904):
  ∃a b,callI tE Z6d [.str (S (p++t)),.int (p.length:Int),.int (e.toNat:Int)]=some [.int a,.int b,.bool false]:=by
 rw[ZBZ]
 have key:∀(v u:List UInt8),t=u++v→e∉u→u.length≤11→∃a b,Z7U (S (p++t)) ((p++u).length:Nat) (e.toNat:Int) (p.length:Int)=some [.int a,.int b,.bool false]:=by
  intro v
  induction v with
  |nil=>
   intro u hu _ _
   rw[List.append_nil]at hu
   subst hu
   refine⟨0,0,?_⟩
   rw[Z6m,ZDi,leT (by rw[Z6C];omega)];rfl
  |cons c v ih=>
   intro u hu hne hul
   have hs:p++t=(p++u)++c::v:=by rw[hu];simp
   have hpl:(p++u).length<4611686018427387904:=by rw[hs]at hb;simp only[List.length_append]at hb⊢;omega
   have hc:c≠e:=fun h=>by have:=hx u v (by rw[hu,h]) hne;omega
   have e0:w64 ((((p++u).length:Nat):Int)-(p.length:Int))=(u.length:Int):=by
    rw[Z5a ⟨by(first|omega|(simp only[List.length_append,List.length_cons,List.length_nil,List.length_map,List.length_take,List.length_drop,List.length_replicate,Z6C]at* <;>omega)),by(first|omega|(simp only[List.length_append,List.length_cons,List.length_nil,List.length_map,List.length_take,List.length_drop,List.length_replicate,Z6C]at* <;>omega))⟩];(first|omega|(simp only[List.length_append,List.length_cons,List.length_nil,List.length_map,List.length_take,List.length_drop,List.length_replicate,Z6C]at* <;>omega))
   have e1:=ZIw (p++u) v c
   have e2:=ZIx (p++u) v c
   have e3:=ZHr (p++u) v c
   rw[←hs]at e1 e2 e3
   have e4:leI (szI (S (p++t))) ((p++u).length:Nat)=false:=leF (by rw[Z6C,hs];simp only[List.length_append,List.length_cons];omega)
   by_cases h11:u.length=11
   ·refine⟨0,0,?_⟩
    rw[Z6m,e1,e2,e3,e0,ltF (by omega),ZC3,decide_eq_false hc,e4];rfl
   ·obtain⟨a,b,ih'⟩:=ih (u++[c]) (by rw[hu];simp) (by simp only[List.mem_append,List.mem_singleton,not_or];exact⟨hne,fun h=>hc h.symm⟩) (by simp;omega)
    refine⟨a,b,?_⟩
    rw[Z6m,e1,e2,e3,e0,ltT (by omega),ZC3,decide_eq_false hc,Z7X (by omega)]
    simp only[cond_true,Bool.not_false]
    rw[←ih']
    congr 2
    simp
    omega
 have:=key t [] rfl (by simp) (by simp)
 rw[List.append_nil]at this
 exact this
theorem ZKp (b:UInt8) (t:List UInt8):(∃x y,t=x++b::y∧b∉x)∨b∉t:=by
 induction t with
 |nil=>exact .inr (by simp)
 |cons c t ih=>
  by_cases h:c=b
  ·exact .inl ⟨[],t,by rw[h];rfl,by simp⟩
  ·rcases ih with ⟨x,y,e,hx⟩|h2
   ·exact .inl ⟨c::x,y,by rw[e];rfl,by simp only[List.mem_cons,not_or];exact⟨fun e=>h e.symm,hx⟩⟩
   ·exact .inr (by simp only[List.mem_cons,not_or];exact⟨fun e=>h e.symm,h2⟩)
theorem ZLU (e:UInt8) (p t:List UInt8) (hb:(p++t).length<4611686018427387904):
  (∃x y,t=x++e::y∧e∉x∧isN x=true∧0≤num x∧callI tE Z6d [.str (S (p++t)),.int (p.length:Int),.int (e.toNat:Int)]=some [.int (num x),.int ((p++x++[e]).length:Nat),.bool true])∨
  ((∃a b,callI tE Z6d [.str (S (p++t)),.int (p.length:Int),.int (e.toNat:Int)]=some [.int a,.int b,.bool false])∧∀x y,t=x++e::y→e∉x→¬(isN x=true∧0≤num x)):=by
 have small:∀x:List UInt8,isN x=true→x.length≤11:=fun x hx=>by
  obtain⟨h1,h2⟩:=ZEY hx
  have:=(Z8k 9 (num x).natAbs (by omega)).mpr (by omega)
  rw[←h1]
  unfold fmt
  split
  ·simp;omega
  ·omega
 rcases ZKp e t with ⟨x,y,hxy,hx⟩|hno
 ·by_cases hl:x.length≤11
  ·subst hxy
   have hb':(p++x++e::y).length<4611686018427387904:=by simpa using hb
   have hr:=ZIi e p x y hx hl hb'
   rw[List.append_assoc]at hr
   by_cases hok:isN x=true∧0≤num x
   ·refine .inl ⟨x,y,rfl,hx,hok.1,hok.2,hr.trans ?_⟩
    rw[hok.1,leT hok.2]
    simp
    omega
   ·refine .inr ⟨⟨num x,((p.length+x.length+1:Nat):Int),hr.trans ?_⟩,fun x' y' h1 h2 h3=>?_⟩
    ·rw[show(isN x&&leI 0 (num x))=false from ?_]
     cases h1:isN x
     ·rfl
     ·exact leF (by have:¬0≤num x:=fun h2=>hok ⟨h1,h2⟩;omega)
    ·obtain⟨e1,_⟩:=Z8d hx h2 h1
     exact hok (e1▸h3)
  ·refine .inr ⟨ZC4 e p t (fun x' y' h1 h2=>?_) hb,fun x' y' h1 h2 h3=>?_⟩
   ·obtain⟨e1,_⟩:=Z8d hx h2 (hxy.symm.trans h1)
    rw[←e1];omega
   ·obtain⟨e1,_⟩:=Z8d hx h2 (hxy.symm.trans h1)
    have:=small x' h3.1
    rw[←e1]at this;omega
 ·refine .inr ⟨ZC4 e p t (fun x' y' h1 h2=>absurd (by rw[h1];simp) hno) hb,fun x' y' h1 h2 h3=>absurd (by rw[h1];simp) hno⟩
theorem ZGq {x:List UInt8} (h1:isN x=true) (h2:0≤num x):∃n:Nat,num x=(n:Int)∧n<1000000000∧x=fmt (n:Int):=by
 obtain⟨e1,e2⟩:=ZEY h1
 refine⟨(num x).natAbs,by omega,e2,?_⟩
 rw[show(((num x).natAbs:Nat):Int)=num x by omega,e1]
theorem ZAL {t r y:List UInt8} (h:t=Z9p r++y):t=fmt (r.length:Nat)++58::(r++44::(fmt (chk r:Nat)++59::y)):=by
 rw[h];unfold Z9p;simp
theorem ZBJ {n:Nat} (h:n<1000000000):num (fmt (n:Int))=(n:Int)∧isN (fmt (n:Int))=true:=Z9y (by omega)
theorem ZGr {p x y:List UInt8} {k:Nat} (hk:k=p.length+x.length):ext (S (p++(x++y))) p.length k=S x:=by
 subst hk
 have:=ZGa p x y
 rw[List.append_assoc,List.length_append]at this
 exact this
theorem ZIj (p t:List UInt8) (hb:(p++t).length<1000000000):
  (∃r y,t=Z9p r++y∧callI tE Z8x [.str (S (p++t)),.int (p.length:Int)]=some [.str (S r),.int ((p++Z9p r).length:Nat),.bool true])∨
  (ZDI t=none∧∃a b,callI tE Z8x [.str (S (p++t)),.int (p.length:Int)]=some [.str a,.int b,.bool false]):=by
 rw[ZEL]
 have h58:∀n:Int,(58:UInt8)∉fmt n:=fun n=>Z8c (by decide) (by decide) n
 have h59:∀n:Int,(59:UInt8)∉fmt n:=fun n=>Z8c (by decide) (by decide) n
 have hlen:∀{r y:List UInt8},t=Z9p r++y→r.length<1000000000:=fun{r y} e=>by
  rw[e]at hb
  unfold Z9p at hb
  simp only[List.length_append]at hb
  omega
 rcases ZLU 58 p t (by omega)with ⟨x,y,hxy,hx,q1,q2,hr⟩|⟨⟨a,b,hr⟩,hno⟩
 ·rw[show(58:UInt8).toNat=58 from rfl]at hr
  rw[show((58:Nat):Int)=58 from rfl]at hr
  obtain⟨n,e1,e2,e3⟩:=ZGq q1 q2
  have hpl:(p++x++[58]).length+y.length=(p++t).length:=by rw[hxy];simp;omega
  have hs:p++t=(p++x++[58])++y:=by rw[hxy];simp
  simp only[hr,gA,e1,Bool.not_true,cond_false]
  rw[hs]
  generalize hP:p++x++[58]=P at*
  have ew:w64 ((P.length:Int)+(n:Int))=((P.length+n:Nat):Int):=by rw[Z5a ⟨by omega,by omega⟩];omega
  simp only[ew]
  by_cases hn:P.length+n<(P++y).length
  ·rw[leF (by rw[Z6C];omega),cond_false,ZEn (by omega) (by rw[Z6C];omega),cond_true]
   have hny:n<y.length:=by rw[List.length_append]at hn;omega
   have hbyte:byteAt (S (P++y)) ((P.length+n:Nat):Int)=((y[n]'hny).toNat:Int):=by
    rw[ZH1 hn]
    congr 2
    rw[List.getElem_append_right (by omega)]
    congr 1;omega
   rw[hbyte,show eqI ((y[n]'hny).toNat:Int) 44=decide (y[n]'hny=44)from ZC3 _ 44]
   by_cases h44:y[n]'hny=44
   ·rw[decide_eq_true h44]
    have hy:y=y.take n++44::y.drop (n+1):=by
     have:=List.take_append_drop n y
     rw[List.drop_eq_getElem_cons hny,h44]at this
     exact this.symm
    have htl:(y.take n).length=n:=by simp;omega
    generalize y.take n=r at*
    generalize y.drop (n+1)=z at*
    subst hy
    have hpl2:(P++r++[44]).length+z.length=(P++(r++44::z)).length:=by simp;omega
    have e5:w64 (((P.length+n:Nat):Int)+1)=((P++r++[44]).length:Nat):=by
     rw[Z5a ⟨by omega,by omega⟩];simp;omega
    have e6:in3 (P.length:Int) ((P.length+n:Nat):Int) (szI (S (P++(r++44::z))))=true:=ZJk (by omega) (by omega) (by rw[Z6C];omega)
    have e7:ext (S (P++(r++44::z))) P.length (P.length+n)=S r:=ZGr (by rw[htl])
    have hs2:P++(r++44::z)=(P++r++[44])++z:=by simp
    rw[e5,e6,Bool.not_true,cond_false,cond_true,Z7W,Z7W,e7]
    have hs3:S (P++(r++44::z))=S ((P++r++[44])++z):=by rw[hs2]
    rw[hs3]
    rcases ZLU 59 (P++r++[44]) z (by(first|omega|(simp only[List.length_append,List.length_cons,List.length_nil,List.length_map,List.length_take,List.length_drop,List.length_replicate,Z6C]at* <;>omega)))with ⟨x2,y2,hxy2,hx2,q12,q22,hr2⟩|⟨⟨a,b,hr2⟩,hno⟩
    ·rw[show(59:UInt8).toNat=59 from rfl]at hr2
     rw[show((59:Nat):Int)=59 from rfl]at hr2
     obtain⟨n2,f1,f2,f3⟩:=ZGq q12 q22
     simp only[hr2,gA,f1,cond_true,ZII r (by simp at hb hpl2;omega)]
     by_cases hc:n2=chk r
     ·left
      rw[eqT (by rw[hc])]
      have ht:t=Z9p r++y2:=by
       rw[hxy,hxy2,e3,f3,hc]
       unfold Z9p
       rw[←htl]
       simp
      refine⟨r,y2,ht,?_⟩
      congr 4
      rw[←hP,f3,hc,e3,←htl]
      unfold Z9p
      (first|omega|(simp only[List.length_append,List.length_cons,List.length_nil,List.length_map,List.length_take,List.length_drop,List.length_replicate,Z6C]at* <;>omega))
     ·right
      rw[eqF (by omega)]
      refine⟨Z7p.mpr fun r' y' e=>?_,_,_,rfl⟩
      have ef:=ZAL e
      rw[hxy]at ef
      obtain⟨g1,g2⟩:=Z8d hx (h58 _) ef
      have hnr:n=r'.length:=by rw[e3]at g1;have:=Z9U g1;omega
      obtain⟨g3,g4⟩:=List.append_inj g2 (by omega)
      simp only[List.cons.injEq,true_and]at g4
      rw[hxy2]at g4
      obtain⟨g5,_⟩:=Z8d hx2 (h59 _) g4
      rw[f3,←g3]at g5
      have:=Z9U g5
      omega
    ·rw[show(59:UInt8).toNat=59 from rfl]at hr2
     rw[show((59:Nat):Int)=59 from rfl]at hr2
     right
     simp only[hr2,gA,cond_false]
     refine⟨Z7p.mpr fun r' y' e=>?_,_,_,rfl⟩
     have ef:=ZAL e
     rw[hxy]at ef
     obtain⟨g1,g2⟩:=Z8d hx (h58 _) ef
     have hnr:n=r'.length:=by rw[e3]at g1;have:=Z9U g1;omega
     obtain⟨g3,g4⟩:=List.append_inj g2 (by omega)
     simp only[List.cons.injEq,true_and]at g4
     obtain⟨k1,k2⟩:=ZBJ (n:=chk r') (by have:=ZH7 r';omega)
     exact hno _ _ g4 (h59 _) ⟨k2,by rw[k1];omega⟩
   ·right
    rw[decide_eq_false h44]
    refine⟨Z7p.mpr fun r' y' e=>?_,_,_,rfl⟩
    have ef:=ZAL e
    rw[hxy]at ef
    obtain⟨g1,g2⟩:=Z8d hx (h58 _) ef
    have hnr:n=r'.length:=by rw[e3]at g1;have:=Z9U g1;omega
    apply h44
    have:y[n]?=some 44:=by rw[g2,hnr];simp
    rw[List.getElem?_eq_getElem hny]at this
    exact Option.some.inj this
  ·right
   rw[leT (by rw[Z6C];omega)]
   refine⟨Z7p.mpr fun r' y' e=>?_,_,_,rfl⟩
   have ef:=ZAL e
   rw[hxy]at ef
   obtain⟨g1,g2⟩:=Z8d hx (h58 _) ef
   have hnr:n=r'.length:=by rw[e3]at g1;have:=Z9U g1;omega
   apply hn
   rw[g2];simp;omega
 ·rw[show(58:UInt8).toNat=58 from rfl]at hr
  rw[show((58:Nat):Int)=58 from rfl]at hr
  right
  simp only[hr,gA,Bool.not_false,cond_true]
  refine⟨Z7p.mpr fun r y e=>?_,_,_,rfl⟩
  obtain⟨k1,k2⟩:=ZBJ (n:=r.length) (hlen e)
  exact hno _ _ (ZAL e) (h58 _) ⟨k2,by rw[k1];omega⟩
theorem ZGN (s:List UInt8) (h:s.length<1000000000):callI tE Z7y [.str (S s)]=some [.sl ((Z9q s).1.map StE),.bool (Z9q s).2]:=by
 rw[ZCV]
 have key:∀(k:Nat) (p t:List UInt8) (acc:List (List UInt8)),t.length≤k→s=p++t→acc.length≤p.length→Z7L (S s) (p.length:Nat) (acc.map StE)=some [.sl ((acc++(Z9q t).1).map StE),.bool (Z9q t).2]:=by
  intro k
  induction k with
  |zero=>
   intro p t acc hk hs ha
   have:t=[]:=List.length_eq_zero_iff.mp (by omega)
   subst this
   rw[List.append_nil]at hs
   subst hs
   rw[Z7i,ZDi,Z9r];simp
  |succ k ih=>
   intro p t acc hk hs ha
   by_cases ht:t=[]
   ·subst ht
    rw[List.append_nil]at hs
    subst hs
    rw[Z7i,ZDi,Z9r];simp
   ·have htl:0<t.length:=List.length_pos_iff.mpr ht
    have hsl:s.length=p.length+t.length:=by rw[hs];simp
    rw[Z7i,ltT (by rw[Z6C];omega),cond_true,hs]
    rcases ZIj p t (by rw[←hs];omega)with ⟨r,y,e,hr⟩|⟨hf,a,b,hr⟩
    ·rw[hr]
     simp only[gA,Bool.not_true,cond_false]
     rw[Z5h,show fitM (Nat.succ acc.length) 16=true from Z8v (by omega),cond_true,ZBB,e,ZDt]
     have hrl:0<(Z9p r).length:=by unfold Z9p;(first|omega|(simp only[List.length_append,List.length_cons,List.length_nil,List.length_map,List.length_take,List.length_drop,List.length_replicate,Z6C]at* <;>omega))
     have:=ih (p++Z9p r) y (acc++[r]) (by rw[e]at hk;simp at hk;omega) (by rw[hs,e];simp) (by simp;omega)
     rw[hs,e]at this
     rw[this];simp
    ·rw[hr,ZCk ht hf]
     simp only[gA,Bool.not_false,cond_true,List.append_nil]
 exact key s.length [] s [] (by omega) rfl (by simp)
theorem ZLj (r:List UInt8) (h:r.length<4611686018427387904):callI tE Z90 [.str (S r)]=some [.str (S (Z9p r))]:=by
 have h1:=ZBI (n:=r.length) (by omega)
 have h2:=ZBI (n:=chk r) (by have:=ZH7 r;omega)
 have hc:=ZH7 r
 rw[ZFY,Z6C,Z6L ⟨by omega,by omega⟩]
 simp only[gA]
 rw[Z61 (by simp;omega),Z6t,Z61 (by simp;omega),Z6t,Z61 (by simp;omega),Z6t,ZIJ r h]
 simp only[gA,cond_true]
 rw[Z6L ⟨by omega,by omega⟩]
 simp only[gA]
 rw[Z61 (by simp;omega),Z6t,Z61 (by simp;omega),Z6t]
 rfl
theorem ZLk (p t:List UInt8) (hb:(p++t).length<1000000000):callI tE ZAC [.str (S (p++t)),.int (p.length:Int)]=some (match ZDI t with
  |some r=>[Dat.str (S r),.int ((p++Z9p r).length:Nat)]
  |none=>[Dat.str (S []),.int (-1)]):=by
 rw[ZFZ]
 have h58:∀n:Int,(58:UInt8)∉fmt n:=fun n=>Z8c (by decide) (by decide) n
 have fin:∀(x y:List UInt8),t=x++y→(58∉x)→(y=[]∨∃z,y=58::z)→(bif(in3 (p.length:Int) ((p++x).length:Nat) (szI (S (p++t))))then(((callI tE Z5V [(.str (ext (S (p++t)) (tn (p.length:Int)) (tn ((p++x).length:Nat))))])).bind (fun r0=>(bif(!(gb (tk 1 r0)))then(some [(.str (S [])),(.int (-1))])else(bif(ltI (gn r0) 0)then(some [(.str (S [])),(.int (-1))])else(bif(ltI (szI (S (p++t))) (w64 ((w64 (((p++x).length:Nat)+1))+(gn r0))))then(some [(.str (S [])),(.int (-1))])else(bif(in3 (w64 (((p++x).length:Nat)+1)) (w64 ((w64 (((p++x).length:Nat)+1))+(gn r0))) (szI (S (p++t))))then(((callI tE Z90 [(.str (ext (S (p++t)) (tn (w64 (((p++x).length:Nat)+1))) (tn (w64 ((w64 (((p++x).length:Nat)+1))+(gn r0))))))])).bind (fun r1=>(bif(ltI (szI (S (p++t))) (w64 ((p.length:Int)+(szI (gs r1)))))then(some [(.str (S [])),(.int (-1))])else(bif(in3 (p.length:Int) (w64 ((p.length:Int)+(szI (gs r1)))) (szI (S (p++t))))then(bif(!(eqS (ext (S (p++t)) (tn (p.length:Int)) (tn (w64 ((p.length:Int)+(szI (gs r1)))))) (gs r1)))then(some [(.str (S [])),(.int (-1))])else(some [(.str (ext (S (p++t)) (tn (w64 (((p++x).length:Nat)+1))) (tn (w64 ((w64 (((p++x).length:Nat)+1))+(gn r0)))))),(.int (w64 ((p.length:Int)+(szI (gs r1)))))]))else none))))else none))))))else none)=some (match ZDI t with
  |some r=>[Dat.str (S r),.int ((p++Z9p r).length:Nat)]
  |none=>[Dat.str (S []),.int (-1)]):=by
  intro x y hxy hx hy
  have hpl:(p++x).length+y.length=(p++t).length:=by rw[hxy];simp;omega
  have e1:in3 (p.length:Int) ((p++x).length:Nat) (szI (S (p++t)))=true:=ZJk (by omega) (by(first|omega|(simp only[List.length_append,List.length_cons,List.length_nil,List.length_map,List.length_take,List.length_drop,List.length_replicate,Z6C]at* <;>omega))) (by rw[Z6C];omega)
  have e2:ext (S (p++t)) p.length (p++x).length=S x:=by rw[hxy,←List.append_assoc];exact ZGa p x y
  rw[e1,Z7W,Z7W,e2,ZBf x (by(first|omega|(simp only[List.length_append,List.length_cons,List.length_nil,List.length_map,List.length_take,List.length_drop,List.length_replicate,Z6C]at* <;>omega))),ZHf]
  simp only[gA,cond_true]
  have back:∀r z,t=Z9p r++z→x=fmt (r.length:Nat)∧y=58::(r++44::(fmt (chk r:Nat)++59::z))∧r.length<1000000000:=fun r z e=>by
   have ef:=ZAL e
   have hl:r.length<1000000000:=by
    rw[e]at hb
    unfold Z9p at hb
    simp only[List.length_append]at hb
    omega
   rcases hy with rfl|⟨z',rfl⟩
   ·rw[List.append_nil]at hxy
    rw[hxy]at ef
    exact absurd (by rw[ef];simp) hx
   ·rw[hxy]at ef
    obtain⟨g1,g2⟩:=Z8d hx (h58 _) ef
    exact⟨g1,by rw[g2],hl⟩
  cases hn:isN x with
  |false=>
   rw[Z7p.mpr fun r z e=>?_]
   ·rfl
   ·obtain⟨g1,g2,g3⟩:=back r z e
    rw[g1,(ZBJ g3).2]at hn
    cases hn
  |true=>
   rw[Bool.not_true,cond_false]
   by_cases h0:num x<0
   ·rw[ltT h0,cond_true,Z7p.mpr fun r z e=>?_]
    obtain⟨g1,g2,g3⟩:=back r z e
    rw[g1,(ZBJ g3).1]at h0
    omega
   ·rw[ltF (by omega),cond_false]
    obtain⟨n,f1,f2,f3⟩:=ZGq hn (by omega)
    have e3:w64 (((p++x).length:Nat)+1)=((p++x).length+1:Nat):=Z7X (by omega)
    have e4:w64 ((((p++x).length+1:Nat):Int)+(n:Int))=((p++x).length+1+n:Nat):=by rw[Z5a ⟨by omega,by omega⟩];omega
    rw[f1,e3,e4,Z6C]
    by_cases hlt:(p++t).length<(p++x).length+1+n
    ·rw[ltT (by omega),cond_true,Z7p.mpr fun r z e=>?_]
     obtain⟨g1,g2,g3⟩:=back r z e
     have:n=r.length:=by rw[f3]at g1;have:=Z9U g1;omega
     rw[g2]at hpl
     simp at hpl hlt
     omega
    ·rw[ltF (by omega),cond_false,ZJk (by omega) (by omega) (by omega),cond_true,Z7W,Z7W]
     obtain⟨z,rfl⟩:∃z,y=58::z:=by
      rcases hy with rfl|hy
      ·simp at hpl hlt;omega
      ·exact hy
     have hzl:n≤z.length:=by simp at hpl hlt;omega
     have hs2:p++t=(p++x++[58])++(z.take n++z.drop n):=by rw[hxy,List.take_append_drop];simp
     have e5:ext (S (p++t)) ((p++x).length+1) ((p++x).length+1+n)=S (z.take n):=by
      rw[hs2,show(p++x).length+1=(p++x++[58]).length by(first|omega|(simp only[List.length_append,List.length_cons,List.length_nil,List.length_map,List.length_take,List.length_drop,List.length_replicate,Z6C]at* <;>omega))]
      exact ZGr (by simp;omega)
     rw[e5,ZLj _ (by simp;omega)]
     simp only[gA]
     generalize hr:z.take n=r at*
     have hrl:r.length=n:=by rw[←hr];simp;omega
     obtain⟨_,l2⟩:=ZJL (r:=r) (by omega)
     have e6:w64 ((p.length:Int)+szI (S (Z9p r)))=((p++Z9p r).length:Nat):=by rw[Z6C,Z5a ⟨by omega,by simp at hb;omega⟩];simp
     rw[e6]
     by_cases hle:(p++Z9p r).length≤(p++t).length
     ·rw[ltF (by omega),cond_false,ZJk (by omega) (by(first|omega|(simp only[List.length_append,List.length_cons,List.length_nil,List.length_map,List.length_take,List.length_drop,List.length_replicate,Z6C]at* <;>omega))) (by omega),cond_true]
      simp only[Z7W]
      have e7:ext (S (p++t)) p.length (p++Z9p r).length=S (t.take (Z9p r).length):=by
       have hts:p++t=p++(t.take (Z9p r).length++t.drop (Z9p r).length):=by rw[List.take_append_drop]
       rw[hts]
       exact ZGr (by simp at hle⊢;omega)
      rw[e7,ZCY]
      by_cases he:t.take (Z9p r).length=Z9p r
      ·rw[decide_eq_true he,ZB2.mpr ⟨t.drop (Z9p r).length,by
        have:=List.take_append_drop (Z9p r).length t
        rw[he]at this;exact this.symm⟩]
       rfl
      ·rw[decide_eq_false he,Z7p.mpr fun r' z' e=>he ?_]
       ·rfl
       ·obtain⟨g1,g2,g3⟩:=back r' z' e
        have hn':n=r'.length:=by rw[f3]at g1;have:=Z9U g1;omega
        simp only[List.cons.injEq,true_and]at g2
        have:r=r':=by rw[←hr,g2,hn',List.take_left' rfl]
        rw[e,this,List.take_left' rfl]
     ·rw[ltT (by omega),cond_true,Z7p.mpr fun r' z' e=>hle ?_]
      obtain⟨g1,g2,g3⟩:=back r' z' e
      have hn':n=r'.length:=by rw[f3]at g1;have:=Z9U g1;omega
      simp only[List.cons.injEq,true_and]at g2
      have:r=r':=by rw[←hr,g2,hn',List.take_left' rfl]
      rw[e,this];simp
 have key:∀(v u:List UInt8),t=u++v→58∉u→Z9D (S (p++t)) (p.length:Int) ((p++u).length:Nat)=some (match ZDI t with
  |some r=>[Dat.str (S r),.int ((p++Z9p r).length:Nat)]
  |none=>[Dat.str (S []),.int (-1)]):=by
  intro v
  induction v with
  |nil=>
   intro u hu hne
   have:=fin u [] hu hne (.inl rfl)
   rw[List.append_nil]at hu
   rw[←this,Z9E]
   subst hu
   rw[ZDi];rfl
  |cons c v ih=>
   intro u hu hne
   have hs:p++t=(p++u)++c::v:=by rw[hu];simp
   have hpl:(p++u).length<4611686018427387904:=by rw[hs]at hb;simp only[List.length_append]at hb⊢;omega
   have e1:=ZIw (p++u) v c
   have e2:=ZIx (p++u) v c
   have e3:=ZHr (p++u) v c
   rw[←hs]at e1 e2 e3
   by_cases hc:c=58
   ·have:=fin u (c::v) hu hne (.inr ⟨v,by rw[hc]⟩)
    rw[←this,Z9E,e1,e2,e3,show eqI (c.toNat:Int) 58=true from(ZC3 c 58).trans (decide_eq_true hc)]
    rfl
   ·have ih':=ih (u++[c]) (by rw[hu];simp) (by simp only[List.mem_append,List.mem_singleton,not_or];exact⟨hne,fun h=>hc h.symm⟩)
    rw[←ih',Z9E,e1,e2,e3,show eqI (c.toNat:Int) 58=false from(ZC3 c 58).trans (decide_eq_false hc),Z7X (by omega)]
    simp only[cond_true,Bool.not_false]
    congr 2
    simp
    omega
 have:=key t [] rfl (by simp)
 rw[List.append_nil]at this
 exact this
theorem ZGO (s:List UInt8) (h:s.length<1000000000):callI tE Z7z [.str (S s)]=some [.sl ((Z9q s).1.map StE),.bool (Z9q s).2]:=by
 rw[ZCW]
 have key:∀(k:Nat) (p t:List UInt8) (acc:List (List UInt8)),t.length≤k→s=p++t→acc.length≤p.length→Z7M (S s) (p.length:Nat) (acc.map StE)=some [.sl ((acc++(Z9q t).1).map StE),.bool (Z9q t).2]:=by
  intro k
  induction k with
  |zero=>
   intro p t acc hk hs ha
   have:t=[]:=List.length_eq_zero_iff.mp (by omega)
   subst this
   rw[List.append_nil]at hs
   subst hs
   rw[Z7j,ZDi,Z9r];simp
  |succ k ih=>
   intro p t acc hk hs ha
   by_cases ht:t=[]
   ·subst ht
    rw[List.append_nil]at hs
    subst hs
    rw[Z7j,ZDi,Z9r];simp
   ·have htl:0<t.length:=List.length_pos_iff.mpr ht
    have hsl:s.length=p.length+t.length:=by rw[hs];simp
    rw[Z7j,ltT (by rw[Z6C];omega),cond_true,hs,ZLk p t (by rw[←hs];omega)]
    cases hf:ZDI t with
    |none=>
     rw[ZCk ht hf]
     simp only[gA,ltT (show(-1:Int)<0 by decide),cond_true,List.append_nil]
    |some r=>
     obtain⟨y,e⟩:=ZB2.mp hf
     simp only[gA]
     rw[ltF (by omega),cond_false,Z5h,show fitM (Nat.succ acc.length) 16=true from Z8v (by omega),cond_true,ZBB,e,ZDt]
     have hrl:0<(Z9p r).length:=by unfold Z9p;(first|omega|(simp only[List.length_append,List.length_cons,List.length_nil,List.length_map,List.length_take,List.length_drop,List.length_replicate,Z6C]at* <;>omega))
     have:=ih (p++Z9p r) y (acc++[r]) (by rw[e]at hk;simp at hk;omega) (by rw[hs,e];simp) (by simp;omega)
     rw[hs,e]at this
     rw[this];simp
 exact key s.length [] s [] (by omega) rfl (by simp)
theorem ZGP:∀(k:Nat) (s:List UInt8),s.length≤k→(Z9q s).1.length≤s.length:=by
 intro k
 induction k with
 |zero=>
  intro s h
  have:s=[]:=List.length_eq_zero_iff.mp (by omega)
  subst this;rw[Z9r];simp
 |succ k ih=>
  intro s h
  by_cases hs:s=[]
  ·subst hs;rw[Z9r];simp
  ·cases hf:ZDI s with
   |none=>rw[ZCk hs hf];simp
   |some r=>
    obtain⟨y,e⟩:=ZB2.mp hf
    have hrl:0<(Z9p r).length:=by unfold Z9p;(first|omega|(simp only[List.length_append,List.length_cons,List.length_nil,List.length_map,List.length_take,List.length_drop,List.length_replicate,Z6C]at* <;>omega))
    rw[e]at h⊢
    rw[ZDt]
    simp only[List.length_append]at h
    have:=ih y (by omega)
    simp;omega
theorem ZIk {α:Type} {e:α→List Dat} (u:List α) (a:α) (h:u.length<4611686018427387904):w64 (lenI ((u++[a]).map e)-1)=(u.length:Int)∧eqI (lenI ((u++[a]).map e)) 0=false:=by
 rw[Z5L]
 refine⟨?_,eqF (by simp;omega)⟩
 simp only[List.length_append,List.length_cons,List.length_nil]
 rw[Z5a ⟨by omega,by omega⟩];omega
theorem ZFK {α:Type} (l:List α):l=[]∨∃u a,l=u++[a]:=by
 rcases List.eq_nil_or_concat l with h|⟨u,a,h⟩
 ·exact .inl h
 ·exact .inr ⟨u,a,by simpa using h⟩
noncomputable def ZHn (s:List UInt8):List Dat:=match(Z9q s).1.getLast? with
 |some r=>[.str (S r),.bool true]
 |none=>[.str (S []),.bool false]
theorem ZGs (s:List UInt8) (h:s.length<1000000000):callI tE Z9O [.str (S s)]=some (ZHn s):=by
 have hl:=ZGP s.length s (Nat.le_refl _)
 simp only[ZD2,ZGN s h,gA]
 unfold ZHn
 rcases ZFK (Z9q s).1 with e|⟨u,a,e⟩
 ·rw[e];rfl
 ·rw[e]at hl⊢
  simp only[List.length_append,List.length_cons,List.length_nil]at hl
  obtain⟨q1,q2⟩:=ZIk (e:=StE) u a (by omega)
  rw[q1,q2,ZEp,Z7W,ZDl]
  simp only[StE,ZIy,List.getLast?_append,List.getLast?_singleton,Option.some_or,cond_true,cond_false]
theorem ZGt (s:List UInt8) (h:s.length<1000000000):callI tE Z9P [.str (S s)]=some (ZHn s):=by
 have hl:=ZGP s.length s (Nat.le_refl _)
 simp only[ZD3,ZGO s h,gA]
 unfold ZHn
 rcases ZFK (Z9q s).1 with e|⟨u,a,e⟩
 ·rw[e];rfl
 ·rw[e]at hl⊢
  simp only[List.length_append,List.length_cons,List.length_nil]at hl
  obtain⟨q1,q2⟩:=ZIk (e:=StE) u a (by omega)
  rw[q1,q2,ZEp,Z7W,ZDl]
  simp only[StE,ZIy,List.getLast?_append,List.getLast?_singleton,Option.some_or,cond_true,cond_false]
def So.zero:So:=⟨[],0,[],[],[],[],0,0,0,0⟩
def Jn.zero:Jn:=⟨[],0,0⟩
def Ag.zero:Ag:=⟨[],0,false⟩
def Tk.zero:Tk:=⟨0,[],[],[],0⟩
def Opr.zero:Opr:=⟨0,So.zero,Jn.zero,Ag.zero⟩
def ZIl (l:List Rw):So×Bool:=if aok l then(⟨l,0,[],[],[],[],0,0,1,0⟩,true)else(So.zero,false)
def SoB (x:So×Bool):List Dat:=x.1.e++[.bool x.2]
theorem ZKq (l:List Rw):callI tE Z9t [.sl (l.map Rw.e)]=some (SoB (ZIl l)):=by
 rw[ZDc,ZAq]
 simp only[gA]
 unfold ZIl
 cases h:aok l
 ·rfl
 ·have:=Z6i h
  rw[ZDJ l (by omega)];rfl
theorem ZKr (l:List Rw) (hl:l.length≤1073741824):callI tE Z9u [.sl (l.map Rw.e)]=some (SoB (ZIl l)):=by
 rw[ZDf,Z9h l (by omega)]
 simp only[gA]
 unfold ZIl
 cases h:aok l
 ·rfl
 ·rw[Z5h,show fitM (0+l.length) 24=true from Z8v (by omega)];rfl
theorem ZHU:∀{l:List (List Rw)},szL List.length l=l.length+l.flatten.length
 |[]=>rfl
 |a::l=>by
  have:=ZHU (l:=l)
  simp only[szL,List.length_cons,List.flatten_cons,List.length_append];omega
theorem ZIm {s:So} (hv:ZAJ s=true):s.sz≤200∧s.runs.length≤24:=by
 obtain⟨o1,⟨o2,o2'⟩,o3,o4,o5,o6,o7⟩:=Z85 hv
 obtain⟨r1,r2,r3⟩:=ZDC hv
 have a1:=Z6i o1
 have a2:=Z6i r1
 have a3:=Z6i r2
 have a4:=Z6i r3
 have hr:=ZFk o3
 have hs:=ZHU (l:=s.runs)
 have hf:s.runs.flatten.length≤24:=by
  by_cases h1:s.ph=1
  ·have:=(ZBH o7 h1).2.2.2.2.length_eq
   simp only[List.length_append,List.length_take]at this
   omega
  ·have:=(Z8i o7 h1).2.2.2.1.length_eq
   omega
 simp only[So.sz]
 exact⟨by omega,by omega⟩
theorem ZIn {s:So} (hv:ZAJ s=true):s.B2:=by have:=(ZIm hv).1;show s.sz≤1073741800;omega
theorem ZFp (s:So):(rest s).length≤s.inp.length:=by
 unfold rest
 have:=(Z7T s.inp).length_eq
 split
 ·simp;omega
 ·split
  ·simp
  ·omega
theorem ZIo {s:So} (hv:ZAJ s=true):ZCh s≤1000:=by
 obtain⟨o1,⟨o2,o2'⟩,o3,o4,o5,o6,o7⟩:=Z85 hv
 obtain⟨r1,r2,r3⟩:=ZDC hv
 have a1:=Z6i o1
 have a2:=Z6i r1
 have a3:=Z6i r2
 have hr:=(ZIm hv).2
 have m1:s.inp.length*(s.inp.length+2)≤24*26:=Nat.mul_le_mul (by omega) (by omega)
 unfold ZCh
 split
 ·split<;>omega
 ·rename_i h1
  split
  ·have hl:=(Z8i o7 h1).2.2.2.1.length_eq
   have hrl:=ZFk o3
   have m2:(s.runs.length-1)*(s.inp.length+2)≤23*26:=Nat.mul_le_mul (by omega) (by omega)
   omega
  ·split<;>omega
def ZHo (l:List Int):Bool:=(l.all fun g=>win g 8 60)&&decide (0<l.length)
theorem ZKs {l:List Int} (h:ZHo l=true):(∀g∈l,win g 8 60=true)∧0<l.length:=by
 simp only[ZHo,Bool.and_eq_true,decide_eq_true_eq,List.all_eq_true]at h
 exact h
theorem ZIp (l:List Int):ltI 0 (lenI (l.map ZAF))=decide (0<l.length):=by
 rw[Z5L];unfold ltI;congr 1;apply propext;omega
theorem ZHV (l:List Int) (hl:l.length≤4611686018427387904):∀(v u:List Int),l=u++v→Z86 (l.map ZAF) (l.map ZAF) (lenI (l.map ZAF)) (u.length:Int)=some [.bool ((v.all fun g=>win g 8 60)&&decide (0<l.length))]
 |[],u,e=>by
  rw[List.append_nil]at e
  rw[Z9n,show ltI (u.length:Int) (lenI (l.map ZAF))=false by rw[e];exact ZE7 u,cond_false,ZIp];rfl
 |c::v,u,e=>by
  have hul:u.length<l.length:=by rw[e];simp
  have ih:=ZHV l hl v (u++[c]) (by rw[e];simp)
  rw[List.length_append]at ih
  simp only[List.length_cons,List.length_nil,Nat.zero_add]at ih
  have h1:ltI (u.length:Int) (lenI (l.map ZAF))=true:=by rw[e];exact ZEo u v c
  have h2:at' (l.map ZAF) u.length=ZAF c:=by rw[e];exact ZDl u v c
  have h3:inR (u.length:Int) (lenI (l.map ZAF))=true:=by rw[e];exact ZEp u v c
  rw[Z9n,h1,h3,Z7W,h2,Z7X (i:=u.length) (by omega),ih]
  simp only[cond_true,ZAF,ZHO,gA,List.all_cons]
  cases win c 8 60<;>rfl
theorem ZKC (l:List Int) (hl:l.length≤4611686018427387904):callI tE Z8e [.sl (l.map ZAF)]=some [.bool (ZHo l)]:=by
 rw[ZDj];exact ZHV l hl l [] rfl
theorem ZHW (l:List Int) (hl:l.length≤4611686018427387904):∀(v u:List Int),l=u++v→Z83 (l.map ZAF) (u.length:Int)=some [.bool ((v.all fun g=>win g 8 60)&&decide (0<l.length))]
 |[],u,e=>by
  rw[List.append_nil]at e
  rw[Z9j,show ltI (u.length:Int) (lenI (l.map ZAF))=false by rw[e];exact ZE7 u,cond_false,ZIp];rfl
 |c::v,u,e=>by
  have hul:u.length<l.length:=by rw[e];simp
  have ih:=ZHW l hl v (u++[c]) (by rw[e];simp)
  rw[List.length_append]at ih
  simp only[List.length_cons,List.length_nil,Nat.zero_add]at ih
  have h1:ltI (u.length:Int) (lenI (l.map ZAF))=true:=by rw[e];exact ZEo u v c
  have h2:at' (l.map ZAF) u.length=ZAF c:=by rw[e];exact ZDl u v c
  have h3:inR (u.length:Int) (lenI (l.map ZAF))=true:=by rw[e];exact ZEp u v c
  rw[Z9j,h1,h3,Z7W,h2,Z7X (i:=u.length) (by omega),ih]
  simp only[cond_true,ZAF,ZCt,gA,List.all_cons]
  cases win c 8 60<;>rfl
theorem ZKD (l:List Int) (hl:l.length≤4611686018427387904):callI tE Z8g [.sl (l.map ZAF)]=some [.bool (ZHo l)]:=by
 rw[ZDg];exact ZHW l hl l [] rfl
def gAt (l:List Int) (n:Nat):Int:=l.getD (n%l.length) 0
theorem ZKE {l:List Int} (h:ZHo l=true) (n:Nat):eqI (lenI (l.map ZAF)) 0=false∧inR (Int.tmod (n:Int) (lenI (l.map ZAF))) (lenI (l.map ZAF))=true∧gn (at' (l.map ZAF) (tn (Int.tmod (n:Int) (lenI (l.map ZAF)))))=gAt l n∧win (gAt l n) 8 60=true:=by
 obtain⟨h1,h2⟩:=ZKs h
 have hk:n%l.length<l.length:=Nat.mod_lt _ h2
 have hx:l[n%l.length]?=some (l[n%l.length]):=List.getElem?_eq_getElem hk
 have e:Int.tmod (n:Int) (lenI (l.map ZAF))=((n%l.length:Nat):Int):=by rw[Z5L];rfl
 have hg:gAt l n=l[n%l.length]:=by unfold gAt;simp[List.getD_eq_getElem?_getD,hx]
 rw[e]
 refine⟨eqF (by rw[Z5L];omega),ZJZ hx,?_,?_⟩
 ·rw[Z7W,ZJY hx,hg];rfl
 ·rw[hg];exact h1 _ (List.getElem_mem hk)
theorem ZFq {s:So} {l:List Int} {n k:Nat} (hv:ZAJ s=true) (hg:ZHo l=true) (h4:¬s.ph=4) (hk:ZCh s≤k) (hw:s.wr+4*(k:Int)≤1000000000000):∃(s':So) (em:List Rw),ZF0 s (gAt l n)=(s',em,true)∧ZAJ s'=true∧ZCh s'<ZCh s∧s'.wr≤s.wr+4∧s'.inp=s.inp∧rest s=em++rest s':=by
 have hb:ZGi s (gAt l n)=true:=by
  simp only[ZGi,Bool.and_eq_true,Bool.not_eq_true']
  exact⟨hv,(ZKE hg n).2.2.2,eqF h4⟩
 obtain⟨h1,h2⟩:=ZKA hb (by omega)
 generalize hst:ZF0 s (gAt l n)=r at*
 obtain⟨s',em,b⟩:=r
 simp only at h1 h2
 subst h2
 exact⟨s',em,rfl,h1.ok,h1.less,h1.wr.2,h1.inp,h1.rest⟩
theorem ZLI (gs:List Int) (hg:ZHo gs=true) {x1 x2 x3 y1 y2 y3 y4 y5:Int} {z1 z2 z3 z4 z5:Rows}:∀(k:Nat) (s:So) (n:Nat) (acc:List Rw),ZCh s≤k→ZAJ s=true→s.wr+4*(k:Int)≤1000000000000→n+k≤1000000000→acc.length+24*k≤1000000000→
  ∃s':So,Z9B (gs.map ZAF) x1 x2 x3 (n:Int) s.pos s.lp s.rp s.ph s.wr y1 y2 y3 y4 y5 (acc.map Rw.e) (s.inp.map Rw.e) (s.heap.map Rw.e) (s.dfd.map Rw.e) (s.out.map Rw.e) (s.runs.map rsE) z1 z2 z3 z4 z5=some (s'.e++[.bool true,.sl ((acc++rest s).map Rw.e)]):=by
 intro k
 induction k with
 |zero=>
  intro s n acc hm hv hw hn hl
  have h4:s.ph=4:=by
   by_cases h:s.ph=4
   ·exact h
   ·obtain⟨s',em,_,_,h2,_⟩:=ZFq (n:=n) hv hg h (k:=0) hm hw
    omega
  refine⟨s,?_⟩
  rw[Z9C,eqT h4,Bool.not_true,cond_false]
  have:rest s=[]:=by unfold rest;rw[if_neg (by omega),if_pos h4]
  rw[this,List.append_nil];rfl
 |succ k ih=>
  intro s n acc hm hv hw hn hl
  by_cases h4:s.ph=4
  ·refine⟨s,?_⟩
   rw[Z9C,eqT h4,Bool.not_true,cond_false]
   have:rest s=[]:=by unfold rest;rw[if_neg (by omega),if_pos h4]
   rw[this,List.append_nil];rfl
  ·obtain⟨s',em,e1,e2,e3,e4,e5,e6⟩:=ZFq (n:=n) hv hg h4 (k:=k+1) hm hw
   obtain⟨q1,q2,q3,q4⟩:=ZKE hg n
   have hs:=ZK6 s (gAt gs n) (ZIn hv)
   rw[e1]at hs
   have hem:em.length≤24:=by
    have:=congrArg List.length e6
    have r1:=ZFp s
    have r2:=Z6i (Z85 hv).1
    simp only[List.length_append]at this
    omega
   obtain⟨s2,ih2⟩:=ih s' (n+1) (acc++em) (by omega) e2 (by omega) (by omega) (by simp only[List.length_append];omega)
   refine⟨s2,?_⟩
   rw[Z9C,eqF h4,Bool.not_false,cond_true,q1,Bool.not_false,cond_true,q2,cond_true,q3,hs]
   simp only[StR,gA,Bool.not_true,cond_false,ZCF,Z5h]
   rw[Z8v (by omega),cond_true,Z7X (i:=n) (by omega)]
   simp only[gA,Bool.not_true,cond_false]
   rw[ZAh,ih2,e6,List.append_assoc]
theorem ZIq (gs:List Int) (hg:ZHo gs=true) {x1:Int} {z:Rows}:∀(k:Nat) (s:So) (n:Nat) (acc:List Rw),ZCh s≤k→ZAJ s=true→s.wr+4*(k:Int)≤1000000000000→n+k≤1000000000→acc.length+24*k≤1000000000→
  Z6a (gs.map ZAF) x1 (n:Int) s.pos s.lp s.rp s.ph s.wr (acc.map Rw.e) (s.inp.map Rw.e) (s.heap.map Rw.e) (s.dfd.map Rw.e) (s.out.map Rw.e) (s.runs.map rsE) z=some [.sl ((acc++rest s).map Rw.e),.bool true]:=by
 intro k
 induction k with
 |zero=>
  intro s n acc hm hv hw hn hl
  have h4:s.ph=4:=by
   by_cases h:s.ph=4
   ·exact h
   ·obtain⟨s',em,_,_,h2,_⟩:=ZFq (n:=n) hv hg h (k:=0) hm hw
    omega
  rw[Z7w,eqT h4,Bool.not_true,cond_false]
  have:rest s=[]:=by unfold rest;rw[if_neg (by omega),if_pos h4]
  rw[this,List.append_nil]
 |succ k ih=>
  intro s n acc hm hv hw hn hl
  by_cases h4:s.ph=4
  ·rw[Z7w,eqT h4,Bool.not_true,cond_false]
   have:rest s=[]:=by unfold rest;rw[if_neg (by omega),if_pos h4]
   rw[this,List.append_nil]
  ·obtain⟨s',em,e1,e2,e3,e4,e5,e6⟩:=ZFq (n:=n) hv hg h4 (k:=k+1) hm hw
   obtain⟨q1,q2,q3,q4⟩:=ZKE hg n
   have hs:=ZK7 s (gAt gs n) (ZIn hv)
   rw[e1]at hs
   have hem:em.length≤24:=by
    have:=congrArg List.length e6
    have r1:=ZFp s
    have r2:=Z6i (Z85 hv).1
    simp only[List.length_append]at this
    omega
   have ih2:=ih s' (n+1) (acc++em) (by omega) e2 (by omega) (by omega) (by simp only[List.length_append];omega)
   rw[Z7w,eqF h4,Bool.not_false,cond_true,q1,Bool.not_false,cond_true,q2,cond_true,q3,hs]
   simp only[StR,gA,Z5h]
   rw[Z8v (by omega),cond_true,Z7X (i:=n) (by omega),ZAh,ih2,e6,List.append_assoc]
def ZEl (l:List Rw):So:=⟨l,0,[],[],[],[],0,0,1,0⟩
theorem ZBs {l:List Rw} (h:aok l=true):ZAJ (ZEl l)=true∧rest (ZEl l)=ZAn l∧(ZEl l).wr=0:=
 ⟨Z9z h ⟨by simp[ZEl],by simp[ZEl]⟩ (fun r hr=>by cases hr) (by simp[ZEl]) .nil (fun r hr=>by cases hr) (ZAz rfl rfl rfl (.inr rfl) (by simp[ZD8,ZEl,Z8X]) (by simp[ZEl])),rfl,rfl⟩
theorem ZHX (l:List Rw):ZIl l=if aok l then(ZEl l,true)else(So.zero,false):=rfl
theorem ZEm:∀(k:Nat) (s:List UInt8),s.length≤k→k<1000000000→∀r∈(Z9q s).1,r.length≤s.length:=by
 intro k
 induction k with
 |zero=>
  intro s h _ r hr
  have:s=[]:=List.length_eq_zero_iff.mp (by omega)
  subst this;rw[Z9r]at hr;cases hr
 |succ k ih=>
  intro s h hk r hr
  by_cases hs:s=[]
  ·subst hs;rw[Z9r]at hr;cases hr
  ·cases hf:ZDI s with
   |none=>rw[ZCk hs hf]at hr;cases hr
   |some a=>
    obtain⟨y,e⟩:=ZB2.mp hf
    have hrl:0<(Z9p a).length∧a.length≤(Z9p a).length:=by unfold Z9p;(first|omega|(simp only[List.length_append,List.length_cons,List.length_nil,List.length_map,List.length_take,List.length_drop,List.length_replicate,Z6C]at* <;>omega))
    rw[e]at h hr⊢
    rw[ZDt]at hr
    simp only[List.length_append]at h⊢
    rcases List.mem_cons.mp hr with rfl|hr
    ·omega
    ·have:=ih y (by omega) (by omega) r hr
     omega
theorem ZHY {gs:List Int} (hg:ZHo gs=true) (s:So) (acc:List Rw) (hv:ZAJ s=true) (hw:s.wr≤1000000000) (hl:acc.length≤100000100):∃s':So,callI tE Z8z [.int 1,.sl (s.inp.map Rw.e),.int s.pos,.sl (s.heap.map Rw.e),.sl (s.dfd.map Rw.e),.sl (s.out.map Rw.e),.sl (s.runs.map rsE),.int s.lp,.int s.rp,.int s.ph,.int s.wr,.sl (gs.map ZAF),.sl (acc.map Rw.e)]=some (s'.e++[.bool true,.sl ((acc++rest s).map Rw.e)]):=by
 obtain⟨s',h⟩:=ZLI gs hg (x1:=0) (x2:=0) (x3:=0) (y1:=0) (y2:=0) (y3:=0) (y4:=0) (y5:=0) (z1:=[]) (z2:=[]) (z3:=[]) (z4:=[]) (z5:=[]) 1000 s 0 acc (ZIo hv) hv (by omega) (by omega) (by omega)
 exact⟨s',by rw[ZEK];exact h⟩
theorem ZKt {gs:List Int} (hg:ZHo gs=true) (s:So) (acc:List Rw) (z:Rows) (hv:ZAJ s=true) (hw:s.wr≤1000000000) (hl:acc.length≤100000100):Z6a (gs.map ZAF) 0 0 s.pos s.lp s.rp s.ph s.wr (acc.map Rw.e) (s.inp.map Rw.e) (s.heap.map Rw.e) (s.dfd.map Rw.e) (s.out.map Rw.e) (s.runs.map rsE) z=some [.sl ((acc++rest s).map Rw.e),.bool true]:=
 ZIq gs hg 1000 s 0 acc (ZIo hv) hv (by omega) (by omega) (by omega)
noncomputable def ZJN (j:List UInt8) (l:List Rw) (g:List Int):List Rw×Bool:=
 if aok l=true∧ZHo g=true then match(Z9q j).1.getLast? with
  |none=>(ZAn l,true)
  |some r=>if ZJg r=true∧(ZCj r).so.inp=l then((ZCj r).em++rest (ZCj r).so,true)else([],false)
 else([],false)
theorem ZGu {r:List UInt8} (h:ZJg r=true):ZA1 r=some (ZCj r)∧CkP (ZCj r):=by
 unfold ZJg ZCj at*
 cases hp:ZA1 r with
 |none=>rw[hp]at h;cases h
 |some c=>exact⟨rfl,(ZBk.mp hp).1⟩
theorem ZKF (j:List UInt8) (l:List Rw) (g:List Int) (hj:j.length≤1048576) (hg:g.length≤1073741824) (hl:l.length≤1073741824):callI tE Z8I [.str (S j),.sl (l.map Rw.e),.sl (g.map ZAF)]=some [.sl ((ZJN j l g).1.map Rw.e),.bool (ZJN j l g).2]:=by
 rw[ZD1,ZKq,ZHX]
 unfold ZJN
 cases ha:aok l with
 |false=>rw[if_neg (by simp),if_neg (by simp)];rfl
 |true=>
  rw[if_pos rfl]
  simp only[SoB,So.e,gA,List.cons_append,List.nil_append,ZKC g (by omega)]
  cases hgr:ZHo g with
  |false=>rw[if_neg (by simp)];rfl
  |true=>
   rw[if_pos (by simp)]
   simp only[Bool.not_true,cond_false,ZGs j (by omega),gA,ZHn]
   cases hr:(Z9q j).1.getLast? with
   |none=>
    obtain⟨s',hf⟩:=ZHY hgr (ZEl l) [] (ZBs ha).1 (by rw[(ZBs ha).2.2];omega) (by simp)
    rw[List.nil_append,(ZBs ha).2.1]at hf
    simp only[gA,cond_false]
    rw[List.map_nil]at hf
    rw[hf]
    simp only[So.e,gA,List.cons_append,List.nil_append,Bool.not_true,cond_false,List.drop_succ_cons,List.drop_zero]
   |some r=>
    have hrl:=ZEm j.length j (Nat.le_refl _) (by omega) r (List.mem_of_getLast? hr)
    have hz:=ZHT r (by omega)
    simp only[gA,cond_true,ZJJ r (by omega)]
    unfold pCk
    cases hc:ZJg r with
    |false=>rw[if_neg (by simp)];rfl
    |true=>
     obtain⟨hp,h1,h2⟩:=ZGu hc
     generalize ZCj r=c at*
     obtain⟨c1,c2,_⟩:=ZFI h1
     have hil:=Z6i (Z85 c1).1
     have hel:=Z6i c2
     simp only[CkR,gA,Bool.not_true,cond_false,ZG0 c.so.inp l (by omega)]
     by_cases he:c.so.inp=l
     ·rw[decide_eq_true he,if_pos (by simp[he])]
      obtain⟨s',hf⟩:=ZHY hgr c.so c.em c1 (by omega) (by omega)
      simp only[Bool.not_true,cond_false,hf,So.e,gA,List.cons_append,List.nil_append,List.drop_succ_cons,List.drop_zero]
     ·rw[decide_eq_false he,if_neg (by simp[he])];rfl
theorem ZKG (j:List UInt8) (l:List Rw) (g:List Int) (hj:j.length≤1048576) (hg:g.length≤1073741824) (hl:l.length≤1073741824):callI tE Z8J [.str (S j),.sl (l.map Rw.e),.sl (g.map ZAF)]=some [.sl ((ZJN j l g).1.map Rw.e),.bool (ZJN j l g).2]:=by
 rw[ZD0,ZKr l hl,ZHX]
 unfold ZJN
 cases ha:aok l with
 |false=>rw[if_neg (by simp),if_neg (by simp)];rfl
 |true=>
  rw[if_pos rfl]
  simp only[SoB,So.e,gA,List.cons_append,List.nil_append,ZKD g (by omega)]
  cases hgr:ZHo g with
  |false=>rw[if_neg (by simp)];rfl
  |true=>
   rw[if_pos (by simp)]
   simp only[Bool.not_true,cond_false,ZGt j (by omega),gA,ZHn]
   cases hr:(Z9q j).1.getLast? with
   |none=>
    have hf:=ZKt hgr (ZEl l) [] [] (ZBs ha).1 (by rw[(ZBs ha).2.2];omega) (by simp)
    rw[List.nil_append,(ZBs ha).2.1]at hf
    simp only[gA,cond_false]
    exact hf
   |some r=>
    have hrl:=ZEm j.length j (Nat.le_refl _) (by omega) r (List.mem_of_getLast? hr)
    have hz:=ZHT r (by omega)
    simp only[gA,cond_true,ZJK r (by omega)]
    unfold pCk
    cases hc:ZJg r with
    |false=>rw[if_neg (by simp)];rfl
    |true=>
     obtain⟨hp,h1,h2⟩:=ZGu hc
     generalize ZCj r=c at*
     obtain⟨c1,c2,_⟩:=ZFI h1
     have hil:=Z6i (Z85 c1).1
     have hel:=Z6i c2
     simp only[CkR,gA,Bool.not_true,cond_false,ZGy c.so.inp l (by omega)]
     by_cases he:c.so.inp=l
     ·rw[decide_eq_true he,if_pos (by simp[he])]
      have hf:=ZKt hgr c.so c.em (c.em.map Rw.e) c1 (by omega) (by omega)
      rw[Bool.not_true,cond_false,Z5h,Z8v (by omega),cond_true,hf]
     ·rw[decide_eq_false he,if_neg (by simp[he])];rfl
theorem ZKu {n:Int} {s:Nat} (h:(s:Int)≤n):szv n s=n-s:=if_pos h
theorem ZKv {n:Int} {s:Nat} (h:¬(s:Int)≤n):szv n s= -1:=if_neg h
theorem ZJi:∀l:List Rw,Z5o Rw.ct l=3*l.length
 |[]=>rfl
 |a::l=>by simp only[Z5o,ZJi l,Rw.ct,List.length_cons];omega
theorem ZJj {α:Type}:∀l:List α,Z5o c1 l=l.length
 |[]=>rfl
 |a::l=>by simp only[Z5o,c1,ZJj l,List.length_cons];omega
theorem ZKw {α:Type} {e:α→List Dat} {p:α→Prop} {t:TypeId} {te:TI} (ht:tE.T t=some te) (hp:0<te.by_) (hE:∀{ds:List Dat},OkDs tE te.ls ds→∃x,ds=e x∧p x) {d:Dat} (h:OkD tE (.sl t) d):∃l:List α,d=.sl (l.map e)∧BdL p l:=by
 obtain⟨rows,rfl,hn,hr⟩:=h.sl' ht
 have key:∀rows:Rows,(∀r∈rows,OkDs tE te.ls r)→∃l:List α,rows=l.map e∧∀a∈l,p a:=by
  intro rows
  induction rows with
  |nil=>intro _;exact⟨[],rfl,fun a ha=>by cases ha⟩
  |cons r rows ih=>
   intro hr
   obtain⟨l,h1,h2⟩:=ih (fun q hq=>hr q (List.mem_cons_of_mem _ hq))
   obtain⟨x,h3,h4⟩:=hE (hr r (by simp))
   exact⟨x::l,by rw[h1,h3];rfl,fun a ha=>(List.mem_cons.mp ha).elim (fun e=>e▸h4) (h2 a)⟩
 obtain⟨l,h1,h2⟩:=key rows hr
 refine⟨l,by rw[h1],?_,h2⟩
 have:rows.length=l.length:=by rw[h1];simp
 have h3:rows.length≤reachBytes:=Nat.le_trans (Nat.le_mul_of_pos_right _ hp) hn
 have h4:reachBytes≤1152921504606846976:=by decide
 omega
theorem ZKx {ds:List Dat} (h:OkDs tE [.int .i64] ds):∃n,ds=ZAF n∧I64 n:=by
 obtain⟨_,_,rfl,i,h⟩:=h.inv
 obtain rfl:=h.nil_inv
 obtain⟨n,rfl,j⟩:=i.i64
 exact⟨n,rfl,j⟩
theorem ZKy {ds:List Dat} (h:OkDs tE [.int .i64,.int .i64,.int .i64] ds):∃x:Rw,ds=Rw.e x∧Rw.bd x:=by
 obtain⟨_,_,rfl,i0,h⟩:=h.inv
 obtain⟨_,_,rfl,i1,h⟩:=h.inv
 obtain⟨_,_,rfl,i2,h⟩:=h.inv
 obtain rfl:=h.nil_inv
 obtain⟨n0,rfl,j0⟩:=i0.i64
 obtain⟨n1,rfl,j1⟩:=i1.i64
 obtain⟨n2,rfl,j2⟩:=i2.i64
 exact⟨⟨n0,n1,n2⟩,rfl,⟨j0,j1,j2⟩⟩
theorem ZKz (x:Rw):callI tE ZBS [.int x.k,.int x.v,.int x.w]=some [.int x.k,.int x.v,.int x.w]:=by
 simp only[ZFv,gA]
theorem ZKH (l:List Rw) (h:l.length≤1048576):callI tE Z7f [.sl (l.map Rw.e)]=some [.sl (l.map Rw.e)]:=by
 have hl:l.length≤1048576:=h
 rw[ZFP]
 have:=ZGS (L:=Z94) (e:=Rw.e) (z:=[.int 0,.int 0,.int 0]) (P:=fun a=>(fun _=>0) a≤1048576) (fun p q p' q' a _ hpl hlt=>by
  rw[ZAd]
  simp only[ZC1,ZBW,Z7W,ZBK,cond_true,cond_false,gA,ZC7 hpl,ZGv hpl,Rw.e,ZKz a,setRange,List.set_cons_zero,List.set_cons_succ]) (fun p p' hpl=>by
  rw[ZAd,ZC2,cond_false]) l [] [] rfl (fun a ha=>Nat.zero_le _) (by simp;omega)
 simp only[List.nil_append,List.length_nil,Int.ofNat_zero,Int.natCast_zero]at this
 rw[ZHu,ZCK,Z8v (by show(l.map Rw.e).length*_≤_;rw[List.length_map];omega)]
 simp only[Bool.and_self,cond_true]
 rw[show tn (lenI (l.map Rw.e))=l.length by show(l.map Rw.e).length=_;simp]
 exact this
theorem ZKI (l:List Rw) (n:Int) (h0:0≤n) (h1:n≤1048576) (h:BdL Rw.bd l):callI tE ZB4 [.sl (l.map Rw.e),.int n]=some [.int (szv n l.length)]:=by
 rw[ZFO]
 exact ZJm h0 h1 (by simp) h.1
theorem ZL0 (x y:Rw):callI tE ZBT [.int x.k,.int x.v,.int x.w,.int y.k,.int y.v,.int y.w]=some [.bool (decide (x=y))]:=by
 have e:decide (x=y)=(decide (x.k=y.k)&&(decide (x.v=y.v)&&(decide (x.w=y.w)))):=by
  cases x;cases y
  simp only[Rw.mk.injEq,Bool.decide_and]
 simp only[gA,eqI,eqBo,e,ZJl,Bool.and_true,ZFw]
theorem ZIr (l l':List Rw) (h:l.length≤1152921504606846976):callI tE Z7h [.sl (l.map Rw.e),.sl (l'.map Rw.e)]=some [.bool (decide (l=l'))]:=by
 have hl:l.length≤1152921504606846976:=h
 rw[ZFR]
 by_cases hll:l.length=l'.length
 ·rw[ZF4 hll,Bool.not_true,cond_false]
  have:=ZCr (L:=Z96) (e:=Rw.e) (P:=fun a=>(fun _=>0) a≤1152921504606846976) (fun p q p' q' a b _ hpl hlt=>by
   rw[ZAf]
   simp only[ZC1,ZBW,Z7W,ZBK,cond_true,cond_false,gA,ZC7 hpl,ZEA hpl,Rw.e,ZL0 a b,ZHp]) (fun p p' hpl=>by
   rw[ZAf,ZC2,cond_false]) l l' [] [] rfl hll (fun a ha=>Nat.zero_le _) (by simp;omega)
  simpa using this
 ·rw[ZF5 hll,Bool.not_false,cond_true,decide_eq_false (fun e=>hll (by rw[e]))]
theorem ZIs (l:List Rw) (k:Int) (h0:0≤k) (h1:k+Z5o Rw.ct l<4611686018427387904) (h2:l.length≤1152921504606846976):callI tE Z7R [.sl (l.map Rw.e),.int k]=some [.int (k+Z5o Rw.ct l),.sl ((mkL Rw.mkm Rw.ct l k).map Rw.e)]:=by
 have hl:l.length≤1152921504606846976:=h2
 rw[ZE4]
 have:=ZE9 (L:=Z8O) (e:=Rw.e) (f:=Rw.mkm) (c:=Rw.ct) (g:=(fun _=>0)) (fun p q a k h0 hc hg hlt=>by
  rw[show k+((Rw.ct a:Nat):Int)=k+1+1+1 by simp only[Rw.ct];omega]
  rw[ZA8]
  simp only[ZC1,ZBW,Z7W,ZBK,cond_true,cond_false,gA,ZFT,Rw.e,Rw.mkm,Z5a (n:=k+1) (by simp only[Rw.ct]at hc;omega),Z5a (n:=k+1+1) (by simp only[Rw.ct]at hc;omega),Z5a (n:=k+1+1+1) (by simp only[Rw.ct]at hc;omega),setRange,List.set_cons_zero,List.set_cons_succ]) (fun p k=>by
  rw[ZA8,ZC2,cond_false]) l [] k h0 h1 (by rw[ZDm];exact h2) (by simp;omega)
 simpa using this
theorem ZIt (l:List Rw) (k:Int) (h0:0≤k) (h1:k+Z5o Rw.ct l<4611686018427387904) (h2:l.length≤1152921504606846976):callI tE Z7S [.sl ((mkL Rw.mkm Rw.ct l k).map Rw.e),.int k]=some [.int (k+Z5o Rw.ct l)]:=by
 have hl:l.length≤1152921504606846976:=h2
 rw[ZE6]
 have:=ZFy (L:=Z8Q) (e:=Rw.e) (f:=Rw.mkm) (c:=Rw.ct) (g:=(fun _=>0)) (fun p q a k h0 hc hg hlt=>by
  rw[show k+((Rw.ct a:Nat):Int)=k+1+1+1 by simp only[Rw.ct];omega]
  rw[ZAA]
  simp only[ZC1,ZBW,Z7W,ZBK,cond_true,cond_false,gA,Rw.e,Rw.mkm,Z5a (n:=k+1) (by simp only[Rw.ct]at hc;omega),Z5a (n:=k+1+1) (by simp only[Rw.ct]at hc;omega),Z5a (n:=k+1+1+1) (by simp only[Rw.ct]at hc;omega),ZCK,ZFx,Bool.not_true,ZKP h0]) (fun p k=>by
  rw[ZAA,ZC2,cond_false]) l [] k h0 h1 (by rw[ZDm];exact h2) (by simp;omega)
 simpa using this
theorem ZKJ (l:List Int) (h:l.length≤1048576):callI tE Z7g [.sl (l.map ZAF)]=some [.sl (l.map ZAF)]:=by
 have hl:l.length≤1048576:=h
 rw[ZFQ]
 have:=ZGS (L:=Z95) (e:=ZAF) (z:=[.int 0]) (P:=fun a=>(fun _=>0) a≤1048576) (fun p q p' q' a _ hpl hlt=>by
  rw[ZAe]
  simp only[ZC1,ZBW,Z7W,ZBK,cond_true,cond_false,gA,ZC7 hpl,ZGv hpl,ZAF,setRange,List.set_cons_zero,List.set_cons_succ]) (fun p p' hpl=>by
  rw[ZAe,ZC2,cond_false]) l [] [] rfl (fun a ha=>Nat.zero_le _) (by simp;omega)
 simp only[List.nil_append,List.length_nil,Int.ofNat_zero,Int.natCast_zero]at this
 rw[ZHu,ZCK,Z8v (by show(l.map ZAF).length*_≤_;rw[List.length_map];omega)]
 simp only[Bool.and_self,cond_true]
 rw[show tn (lenI (l.map ZAF))=l.length by show(l.map ZAF).length=_;simp]
 exact this
theorem ZKK (l l':List Int) (h:l.length≤1152921504606846976):callI tE ZAE [.sl (l.map ZAF),.sl (l'.map ZAF)]=some [.bool (decide (l=l'))]:=by
 have hl:l.length≤1152921504606846976:=h
 rw[ZFS]
 by_cases hll:l.length=l'.length
 ·rw[ZF4 hll,Bool.not_true,cond_false]
  have:=ZCr (L:=Z97) (e:=ZAF) (P:=fun a=>(fun _=>0) a≤1152921504606846976) (fun p q p' q' a b _ hpl hlt=>by
   rw[ZAg]
   simp only[ZC1,ZBW,Z7W,ZBK,cond_true,cond_false,gA,ZC7 hpl,ZEA hpl,ZAF,eqI,ZHp]) (fun p p' hpl=>by
   rw[ZAg,ZC2,cond_false]) l l' [] [] rfl hll (fun a ha=>Nat.zero_le _) (by simp;omega)
  simpa using this
 ·rw[ZF5 hll,Bool.not_false,cond_true,decide_eq_false (fun e=>hll (by rw[e]))]
theorem ZIu (l:List Int) (k:Int) (h0:0≤k) (h1:k+Z5o c1 l<4611686018427387904) (h2:l.length≤1152921504606846976):callI tE Z89 [.sl (l.map ZAF),.int k]=some [.int (k+Z5o c1 l),.sl ((mkL mkI c1 l k).map ZAF)]:=by
 have hl:l.length≤1152921504606846976:=h2
 rw[ZE5]
 have:=ZE9 (L:=Z8P) (e:=ZAF) (f:=mkI) (c:=c1) (g:=(fun _=>0)) (fun p q a k h0 hc hg hlt=>by
  rw[show k+((c1 a:Nat):Int)=k+1 by simp only[c1];omega]
  rw[ZA9]
  simp only[ZC1,ZBW,Z7W,ZBK,cond_true,cond_false,gA,ZFT,ZAF,mkI,Z5a (n:=k+1) (by simp only[c1]at hc;omega),setRange,List.set_cons_zero,List.set_cons_succ]) (fun p k=>by
  rw[ZA9,ZC2,cond_false]) l [] k h0 h1 (by rw[ZDm];exact h2) (by simp;omega)
 simpa using this
set_option maxRecDepth 100000
theorem ZB3 (a0:ByteArray) (a1 a2:Rows):callI tE Z8n [.str a0,.sl a1,.sl a2]=(bif(ltI 1048576 (szI a0))then(some [(.bool Bool.true)])else(bif(ltI 1048576 (lenI a2))then(some [(.bool Bool.true)])else(((callI tE ZB4 [(.sl a1),(.int 1048576)])).bind (fun r0=>(bif(ltI (gn r0) 0)then(some [(.bool Bool.true)])else(((callI tE Z7f [(.sl a1)])).bind (fun r1=>(((callI tE Z7g [(.sl a2)])).bind (fun r2=>(((callI tE Z8J [(.str a0),(.sl (gl r1)),(.sl (gl r2))])).bind (fun r3=>(((callI tE Z7f [(.sl a1)])).bind (fun r4=>(((callI tE Z7g [(.sl a2)])).bind (fun r5=>(((callI tE Z8I [(.str a0),(.sl (gl r4)),(.sl (gl r5))])).bind (fun r6=>(((callI tE Z7h [(.sl (gl r6)),(.sl (gl r3))])).bind (fun r7=>(bif(!(gb r7))then(some [(.bool Bool.false)])else(bif(!(eqBo (gb (tk 1 r6)) (gb (tk 1 r3))))then(some [(.bool Bool.false)])else(((callI tE Z7f [(.sl a1)])).bind (fun r8=>(((callI tE Z7h [(.sl (gl r4)),(.sl (gl r8))])).bind (fun r9=>(bif(!(gb r9))then(some [(.bool Bool.false)])else(((callI tE Z7g [(.sl a2)])).bind (fun r10=>(((callI tE ZAE [(.sl (gl r5)),(.sl (gl r10))])).bind (fun r11=>(bif(!(gb r11))then(some [(.bool Bool.false)])else(((callI tE Z7R [(.sl (gl r4)),(.int 1)])).bind (fun r12=>(((callI tE Z89 [(.sl (gl r5)),(.int (gn r12))])).bind (fun r13=>(bif(ltI (gn r13) 0)then(some [(.bool Bool.false)])else(((callI tE Z7h [(.sl (gl r6)),(.sl (gl r3))])).bind (fun r14=>(bif(!(gb r14))then(some [(.bool Bool.false)])else(bif(!(eqBo (gb (tk 1 r6)) (gb (tk 1 r3))))then(some [(.bool Bool.false)])else(((callI tE Z7R [(.sl (gl r6)),(.int 1)])).bind (fun r15=>(((callI tE Z7S [(.sl (gl (List.drop 1 r15))),(.int 1)])).bind (fun r16=>(bif(ltI (gn r16) 0)then(some [(.bool Bool.false)])else(bif(!(eqI (gn r16) (gn r15)))then(some [(.bool Bool.false)])else(((callI tE Z7f [(.sl a1)])).bind (fun r17=>(((callI tE Z7g [(.sl a2)])).bind (fun r18=>(((callI tE Z8I [(.str a0),(.sl (gl r17)),(.sl (gl r18))])).bind (fun r19=>(((callI tE Z7h [(.sl (gl r19)),(.sl (gl r3))])).bind (fun r20=>(bif(!(gb r20))then(some [(.bool Bool.false)])else(bif(!(eqBo (gb (tk 1 r19)) (gb (tk 1 r3))))then(some [(.bool Bool.false)])else(((callI tE Z7S [(.sl (gl (List.drop 1 r15))),(.int 1)])).bind (fun r21=>(bif(ltI (gn r21) 0)then(some [(.bool Bool.false)])else(bif(!(eqI (gn r21) (gn r15)))then(some [(.bool Bool.false)])else(some [(.bool Bool.true)]))))))))))))))))))))))))))))))))))))))))))))))))))))))))))))):=(callI_run rfl (by kernel_rfl)).trans (by kernel_rfl)
set_option maxRecDepth 10000
theorem ZIv (y:List Rw) (h:y.length≤1073741824):∃(m:Int) (p:List Rw),callI tE Z7R [.sl (y.map Rw.e),.int 1]=some [.int m,.sl (p.map Rw.e)]∧callI tE Z7S [.sl (p.map Rw.e),.int 1]=some [.int m]∧0≤m∧m≤3221225473:=by
 have hc:=ZJi y
 exact⟨_,_,ZIs y 1 (by omega) (by omega) (by omega),ZIt y 1 (by omega) (by omega) (by omega),by omega,by omega⟩
theorem ZKL (y:List Int) (k:Int) (h:y.length≤1073741824) (h0:0≤k) (h1:k≤3221225473):∃(m:Int) (p:List Int),callI tE Z89 [.sl (y.map ZAF),.int k]=some [.int m,.sl (p.map ZAF)]∧0≤m:=by
 have hc:=ZJj y
 exact⟨_,_,ZIu y k (by omega) (by omega) (by omega),by omega⟩
theorem ZJO {j:List UInt8} {l:List Rw} {g:List Int} (hj:j.length≤1048576):(ZJN j l g).1.length≤100000200:=by
 unfold ZJN
 split
 ·rename_i h
  have:=Z6i h.1
  split
  ·have:=(Z7T l).length_eq
   show(ZAn l).length≤_
   omega
  ·rename_i r hr
   have hrl:=ZEm j.length j (Nat.le_refl _) (by omega) r (List.mem_of_getLast? hr)
   split
   ·rename_i hc
    obtain⟨hp,h1,h2⟩:=ZGu hc.1
    generalize ZCj r=c at*
    obtain⟨c1,c2,_⟩:=ZFI h1
    have:=Z6i c2
    have:=Z6i (Z85 c1).1
    have:=ZFp c.so
    show(c.em++rest c.so).length≤_
    simp only[List.length_append]
    omega
   ·simp
 ·simp
theorem pure_FnExactResumeSort:∀ds,OkDs tE [.str,.sl 120,.sl 3] ds→callI tE Z8n ds=some [.bool true]:=by
 intro ds h0
 obtain⟨_,_,rfl,i0,h1⟩:=h0.inv
 obtain⟨b0,rfl,hb0⟩:=i0.str'
 obtain⟨s0,rfl⟩:=ZLb b0
 rw[ZDN]at hb0
 obtain⟨_,_,rfl,i1,h2⟩:=h1.inv
 obtain⟨l1,rfl,hl1⟩:=ZKw (te:=⟨[.int .i64,.int .i64,.int .i64],24,true,[(0,3),(1,3),(2,3)]⟩) rfl (by decide) ZKy i1
 obtain⟨_,_,rfl,i2,h3⟩:=h2.inv
 obtain⟨l2,rfl,hl2⟩:=ZKw (te:=⟨[.int .i64],8,false,[]⟩) rfl (by decide) ZKx i2
 obtain rfl:=h3.nil_inv
 rw[ZB3,Z6C]
 by_cases hs0:s0.length≤1048576
 ·rw[ltF (by omega),cond_false,Z5L]
  by_cases hs2:l2.length≤1048576
  ·rw[ltF (by omega),cond_false,ZKI l1 1048576 (by omega) (by omega) hl1]
   simp only[gA]
   by_cases hs:(l1.length:Int)≤1048576
   ·rw[ZKu hs,ltF (by omega),cond_false,ZKH l1 (by omega)]
    simp only[gA,ZKJ l2 (by omega),ZKG s0 l1 l2 hs0 (by omega) (by omega),ZKF s0 l1 l2 hs0 (by omega) (by omega)]
    have hz:=ZJO (l:=l1) (g:=l2) hs0
    generalize ZJN s0 l1 l2=y at*
    obtain⟨y,b⟩:=y
    simp only at hz
    obtain⟨m,p,e1,e2,e3,_⟩:=ZIv y (by omega)
    obtain⟨m1,p1,e1',e2',e3',e4'⟩:=ZIv l1 (by omega)
    obtain⟨m2,p2,f1,f2⟩:=ZKL l2 m1 (by omega) e3' e4'
    have e4:=ZIr y y (by omega)
    have e5:=ZIr l1 l1 (by omega)
    have e6:=ZKK l2 l2 (by omega)
    simp only[gA,e4,e5,e6,decide_true,ZFx,ZCK,Bool.not_true,cond_false,e1,e1',f1,List.drop_succ_cons,List.drop_zero,e2,ltF e3,ltF f2]
   ·rw[ZKv hs];rfl
  ·rw[ltT (by omega)];rfl
 ·rw[ltT (by omega)];rfl
end Go.Proofs.YtceoogjanfbdcaaGreat.Vai
