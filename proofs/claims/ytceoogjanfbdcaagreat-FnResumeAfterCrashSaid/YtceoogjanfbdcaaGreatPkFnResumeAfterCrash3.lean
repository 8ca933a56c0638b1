/- What the law of this claim leans on; no condition. -/
import Derived.Test.YtceoogjanfbdcaaGreatPkFnResumeAfterCrash2
namespace Go.Proofs.YtceoogjanfbdcaaGreat.Vai
open Go
set_option linter.unusedSimpArgs false
set_option linter.unusedVariables false
set_option linter.unnecessarySimpa false
set_option maxRecDepth 10000
theorem ZJm (gs:List Int) (hg:ZEP gs=true) {k:Nat} (hk:0<k) {x1 x2 x3 x4 x5 y1 y2 y3 y4 y5:Int} {z1 z2 z3 z4 z5:Rows}:∀(f:Nat) (s:So) (n:Nat) (acc:List Rw) (j:List UInt8),ZCT s≤f→Z9s s=true→s.wr+4*(f:Int)≤1000000000→n+f≤1000000000→acc.length+24*f≤1000000→j.length≤20000→
  ∃(s':So) (acc':List Rw),Z9X (gs.map ZAv) x1 x2 x3 x4 x5 (n:Int) (k:Int) (S j) s.pos s.lp s.rp s.ph s.wr y1 y2 y3 y4 y5 (acc.map Rw.e) (s.inp.map Rw.e) (s.heap.map Rw.e) (s.dfd.map Rw.e) (s.out.map Rw.e) (s.runs.map rsE) z1 z2 z3 z4 z5=some (s'.e++[.bool (ZHb gs k f s n acc j).2,.sl (acc'.map Rw.e),.int k,.str (S (ZHb gs k f s n acc j).1)]):=by
 intro f
 induction f with
 |zero=>
  intro s n acc j hm hv hw hn hl hj
  have h4:s.ph=4:=by
   by_cases h:s.ph=4
   ·exact h
   ·obtain⟨s',em,_,_,h2,_⟩:=ZBm (n:=n) hv hg h (k:=0) hm (by omega)
    omega
  refine⟨s,acc,?_⟩
  rw[Z9Z,eqT h4,Bool.not_true,cond_false];rfl
 |succ f ih=>
  intro s n acc j hm hv hw hn hl hj
  by_cases h4:s.ph=4
  ·refine⟨s,acc,?_⟩
   rw[Z9Z,eqT h4,Bool.not_true,cond_false,ZHb,if_pos h4];rfl
  ·obtain⟨s',em,e1,e2,e3,e4,e5,e6⟩:=ZBm (n:=n) hv hg h4 (k:=f+1) hm (by omega)
   obtain⟨q1,q2,q3,q4⟩:=ZJj hg n
   have hs:=ZJW s (gAt gs n) (ZGR hv)
   rw[e1]at hs
   have hem:em.length≤24:=by
    have:=congrArg List.length e6
    have r1:=ZEO s
    have r2:=Z6V (Z7E hv).1
    simp only[List.length_append]at this
    omega
   have hael:(acc++em).length≤1000000:=by simp only[List.length_append];omega
   have hF:=ZH5 ⟨s',acc++em⟩ (ZLw e2 hael) (ZH7 (s:=s') e2 (by omega))
   have hA:=ZCx j (Z8C ⟨s',acc++em⟩) (by omega) (by have:=ZDF (c:=⟨s',acc++em⟩) (show s'.wr≤1000000000000 by omega);omega)
   simp only at hF
   have hmod:eqI (((n+1)%k:Nat):Int) 0=decide (n%k+1=k):=by
    by_cases h:(n+1)%k=0
    ·rw[eqT (by omega),decide_eq_true ((ZII hk).mp h)]
    ·rw[eqF (by omega),decide_eq_false (fun h2=>h ((ZII hk).mpr h2))]
   rw[Z9Z,eqF h4,Bool.not_false,cond_true,q1,Bool.not_false,cond_true,q2,cond_true,q3,hs]
   simp only[StR,gA,Bool.not_true,cond_false,ZAn,Z5b]
   rw[Z97 (by omega),cond_true,Z7n (i:=n) (by omega),eqF (show(k:Int)≠0 by omega),Bool.not_false,cond_true,ZIJ,hmod,Z9z,hF]
   rw[ZHb,if_neg h4,e1]
   by_cases hc:n%k+1=k
   ·rw[decide_eq_true hc,if_pos hc]
    simp only[cond_true,gA,hA,ZGS]
    have hap:=ZDk (r:=Z8C ⟨s',acc++em⟩) hj
    generalize apB j (Z8C ⟨s',acc++em⟩)=r at*
    obtain⟨j2,b⟩:=r
    cases b with
    |false=>exact⟨s',acc++em,rfl⟩
    |true=>
     obtain⟨s2,acc2,ih2⟩:=ih s' (n+1) (acc++em) j2 (by omega) e2 (by omega) (by omega) (by simp only[List.length_append];omega) hap
     exact⟨s2,acc2,ih2⟩
   ·rw[decide_eq_false hc,if_neg hc]
    obtain⟨s2,acc2,ih2⟩:=ih s' (n+1) (acc++em) j (by omega) e2 (by omega) (by omega) (by simp only[List.length_append];omega) hj
    exact⟨s2,acc2,ih2⟩
theorem ZJn (gs:List Int) (hg:ZEP gs=true) {k:Nat} (hk:0<k) (hk2:k≤100) {x2:Int}:∀(f:Nat) (s:So) (n:Nat) (acc:List Rw) (j:List UInt8),ZCT s≤f→Z9s s=true→s.wr+4*(f:Int)≤1000000000→n+f≤1000000000→acc.length+24*f≤1000000→j.length≤20000→
  Z63 (gs.map ZAv) (k:Int) x2 (S j) true (n:Int) s.pos s.lp s.rp s.ph s.wr (s.inp.map Rw.e) (s.heap.map Rw.e) (s.dfd.map Rw.e) (s.out.map Rw.e) (s.runs.map rsE) (acc.map Rw.e)=some [.str (S (ZHb gs k f s n acc j).1),.bool (ZHb gs k f s n acc j).2]:=by
 intro f
 induction f with
 |zero=>
  intro s n acc j hm hv hw hn hl hj
  have h4:s.ph=4:=by
   by_cases h:s.ph=4
   ·exact h
   ·obtain⟨s',em,_,_,h2,_⟩:=ZBm (n:=n) hv hg h (k:=0) hm (by omega)
    omega
  rw[Z5q,eqT h4,Bool.not_true,cond_false];rfl
 |succ f ih=>
  intro s n acc j hm hv hw hn hl hj
  by_cases h4:s.ph=4
  ·rw[Z5q,eqT h4,Bool.not_true,cond_false,ZHb,if_pos h4]
  ·obtain⟨s',em,e1,e2,e3,e4,e5,e6⟩:=ZBm (n:=n) hv hg h4 (k:=f+1) hm (by omega)
   obtain⟨q1,q2,q3,q4⟩:=ZJj hg n
   have hs:=ZJX s (gAt gs n) (ZGR hv)
   rw[e1]at hs
   have hem:em.length≤24:=by
    have:=congrArg List.length e6
    have r1:=ZEO s
    have r2:=Z6V (Z7E hv).1
    simp only[List.length_append]at this
    omega
   have hael:(acc++em).length≤1000000:=by simp only[List.length_append];omega
   have hF:=ZFL ⟨s',acc++em⟩ (ZLw e2 hael) (ZH7 (s:=s') e2 (by omega))
   have hA:=ZCw j (Z8C ⟨s',acc++em⟩) (by omega) (by have:=ZDF (c:=⟨s',acc++em⟩) (show s'.wr≤1000000000000 by omega);omega)
   simp only at hF
   have hmod:eqI ((n%k:Nat):Int) (w64 ((k:Int)-1))=decide (n%k+1=k):=by
    rw[Z5Q ⟨by omega,by omega⟩]
    by_cases h:n%k+1=k
    ·rw[eqT (by omega),decide_eq_true h]
    ·rw[eqF (by omega),decide_eq_false h]
   rw[Z5q,eqF h4,Bool.not_false,cond_true,cond_true,q1,Bool.not_false,cond_true,q2,cond_true,q3,hs]
   simp only[StR,gA,Z5b]
   rw[Z97 (by omega),cond_true,eqF (show(k:Int)≠0 by omega),Bool.not_false,cond_true,ZIJ,hmod,Z7n (i:=n) (by omega),Z9z,hF]
   rw[ZHb,if_neg h4,e1]
   by_cases hc:n%k+1=k
   ·rw[decide_eq_true hc,if_pos hc]
    simp only[cond_true,gA,hA,ZGS]
    have hap:=ZDk (r:=Z8C ⟨s',acc++em⟩) hj
    generalize apB j (Z8C ⟨s',acc++em⟩)=r at*
    obtain⟨j2,b⟩:=r
    cases b with
    |false=>
     rw[Z5q]
     simp only[cond_false,Bool.false_eq_true,if_false]
     cases(!eqI s'.ph 4)<;>rfl
    |true=>exact ih s' (n+1) (acc++em) j2 (by omega) e2 (by omega) (by omega) (by simp only[List.length_append];omega) hap
   ·rw[decide_eq_false hc,if_neg hc]
    exact ih s' (n+1) (acc++em) j (by omega) e2 (by omega) (by omega) (by simp only[List.length_append];omega) hj
def ZIc:Nat:=1000
theorem ZA0:ZIc=1000:=rfl
attribute [irreducible] ZIc
noncomputable def ZHc (l:List Rw) (g:List Int) (k:Int):List UInt8×Bool:=
 if aok l=true∧ZEP g=true∧win k 1 100=true then
  (let r:=apB [] (Z8C ⟨Z8T l,[]⟩)
     if r.2=true then ZHb g k.toNat ZIc (Z8T l) 0 [] r.1 else r)
 else([],false)
theorem ZLo (l:List Rw) (g:List Int) (k:Int) (hg:g.length≤1073741824):callI tE Z7d [.sl (l.map Rw.e),.sl (g.map ZAv),.int k]=some [.str (S (ZHc l g k).1),.bool (ZHc l g k).2]:=by
 rw[ZBD,ZKe,ZEQ]
 unfold ZHc
 cases ha:aok l with
 |false=>rw[if_neg (by simp),if_neg (by simp)];rfl
 |true=>
  rw[if_pos rfl]
  simp only[SoB,So.e,gA,List.cons_append,List.nil_append,ZJh g (by omega),ZBI]
  cases hgr:ZEP g with
  |false=>rw[if_neg (by simp)];rfl
  |true=>
   cases hk:win k 1 100 with
   |false=>rw[if_neg (by simp)];rfl
   |true=>
    rw[if_pos (by simp)]
    have hk':=Z98.mp hk
    obtain⟨n1,n2,n3⟩:=ZAb ha
    have hF:=ZH5 ⟨Z8T l,[]⟩ (ZLw n1 (by simp)) (ZH7 (s:=Z8T l) n1 (by omega))
    have hA:=ZCx [] (Z8C ⟨Z8T l,[]⟩) (by simp) (by have:=ZDF (c:=⟨Z8T l,[]⟩) (show(Z8T l).wr≤1000000000000 by omega);omega)
    simp only[List.map_nil]at hF
    simp only[Bool.not_true,cond_false,hF,gA,hA,ZGS]
    have hap:=ZDk (r:=Z8C ⟨Z8T l,[]⟩) (j:=[]) (by simp)
    generalize apB [] (Z8C ⟨Z8T l,[]⟩)=r at*
    obtain⟨j2,b⟩:=r
    cases b with
    |false=>rfl
    |true=>
     obtain⟨s2,acc2,h2⟩:=ZJm g hgr (k:=k.toNat) (by omega) (x1:=0) (x2:=0) (x3:=0) (x4:=0) (x5:=0) (y1:=0) (y2:=0) (y3:=0) (y4:=0) (y5:=0) (z1:=[]) (z2:=[]) (z3:=[]) (z4:=[]) (z5:=[]) ZIc (Z8T l) 0 [] j2 (by rw[ZA0];exact ZFN n1) n1 (by rw[ZA0];omega) (by rw[ZA0];omega) (by rw[ZA0];simp) hap
     rw[show((k.toNat:Nat):Int)=k by omega]at h2
     simp only[Bool.not_true,cond_false,ZF9,if_true]
     rw[List.map_nil]at h2
     have h3:=h2
     simp only[Int.natCast_zero,Int.ofNat_zero,Int.cast_ofNat_Int]at h3
     rw[h3]
     simp only[So.e,gA,List.cons_append,List.nil_append,List.drop_succ_cons,List.drop_zero]
theorem ZKg (l:List Rw) (g:List Int) (k:Int) (hg:g.length≤1073741824) (hl:l.length≤1073741824):callI tE Z6K [.sl (l.map Rw.e),.sl (g.map ZAv),.int k]=some [.str (S (ZHc l g k).1),.bool (ZHc l g k).2]:=by
 rw[ZBC,ZKf l hl,ZEQ]
 unfold ZHc
 cases ha:aok l with
 |false=>rw[if_neg (by simp),if_neg (by simp)];rfl
 |true=>
  rw[if_pos rfl]
  simp only[SoB,So.e,gA,List.cons_append,List.nil_append,ZJi g (by omega),ZCW]
  cases hgr:ZEP g with
  |false=>rw[if_neg (by simp)];rfl
  |true=>
   cases hk:win k 1 100 with
   |false=>rw[if_neg (by simp)];rfl
   |true=>
    rw[if_pos (by simp)]
    have hk':=Z98.mp hk
    obtain⟨n1,n2,n3⟩:=ZAb ha
    have hF:=ZFL ⟨Z8T l,[]⟩ (ZLw n1 (by simp)) (ZH7 (s:=Z8T l) n1 (by omega))
    have hA:=ZCw [] (Z8C ⟨Z8T l,[]⟩) (by simp) (by have:=ZDF (c:=⟨Z8T l,[]⟩) (show(Z8T l).wr≤1000000000000 by omega);omega)
    simp only[List.map_nil]at hF
    simp only[Bool.not_true,cond_false,hF,gA,hA,ZGS]
    have hap:=ZDk (r:=Z8C ⟨Z8T l,[]⟩) (j:=[]) (by simp)
    generalize apB [] (Z8C ⟨Z8T l,[]⟩)=r at*
    obtain⟨j2,b⟩:=r
    cases b with
    |false=>
     rw[Z5q]
     simp only[cond_false,Bool.false_eq_true,if_false]
     cases(!eqI (Z8T l).ph 4)<;>simp only[cond_true,cond_false]
    |true=>
     have h2:=ZJn g hgr (k:=k.toNat) (by omega) (by omega) (x2:=0) ZIc (Z8T l) 0 [] j2 (by rw[ZA0];exact ZFN n1) n1 (by rw[ZA0];omega) (by rw[ZA0];omega) (by rw[ZA0];simp) hap
     rw[show((k.toNat:Nat):Int)=k by omega]at h2
     rw[List.map_nil]at h2
     simp only[Int.natCast_zero,Int.ofNat_zero,Int.cast_ofNat_Int]at h2
     simp only[if_true]
     exact h2
theorem ZJo {c:Ck} (h:ZGJ c=true):c.em++rest c.so=Z9J c.so.inp:=by
 obtain⟨h1,h2,h3,h4⟩:=ZDw h
 have a1:=Z6V (Z7E h1).1
 have a2:=Z6V h2
 have hl:=(Z6o c.so.inp).length_eq
 have e4:=congrArg List.length h4
 rw[List.length_take]at e4
 have o7:=(Z7E h1).2.2.2.2.2.2
 unfold ZIV at h3
 rw[if_pos h1]at h3
 unfold rest
 by_cases p3:c.so.ph=3
 ·rw[if_pos (.inl p3)]at h3
  rw[if_pos p3]
  obtain⟨_,_,_,_,q5⟩:=Z7c o7 (by omega)
  obtain⟨_,q2,_,_⟩:=ZB6 q5 p3
  rw[Z5Q (n:=(c.so.inp.length:Int)-c.so.lp) ⟨by omega,by omega⟩,Z5Q ⟨by omega,by omega⟩]at h3
  have e:c.em.length=c.so.lp.toNat:=by omega
  rw[h4,e,List.take_append_drop]
 ·rw[if_neg p3]
  by_cases p4:c.so.ph=4
  ·rw[if_pos (.inr p4)]at h3
   rw[if_pos p4]
   obtain⟨_,_,_,_,q5⟩:=Z7c o7 (by omega)
   obtain⟨_,q2,_,_⟩:=ZDB q5 p4
   rw[Z5Q (n:=(c.so.inp.length:Int)-c.so.lp) ⟨by omega,by omega⟩,Z5Q ⟨by omega,by omega⟩]at h3
   rw[h4,List.append_nil,List.take_of_length_le (by omega)]
  ·rw[if_neg (by omega)]at h3
   rw[if_neg p4]
   rw[Z5Q ⟨by omega,by omega⟩]at h3
   have:c.em=[]:=List.length_eq_zero_iff.mp (by omega)
   rw[this,List.nil_append]
theorem ZLp {s:So} {acc:List Rw} (hv:Z9s s=true) (h:acc++rest s=Z9J s.inp):ZGJ ⟨s,acc⟩=true:=by
 have a1:=Z6V (Z7E hv).1
 have hl:=(Z6o s.inp).length_eq
 have e:=congrArg List.length h
 rw[List.length_append]at e
 have o7:=(Z7E hv).2.2.2.2.2.2
 have hacc:acc=(Z9J s.inp).take acc.length:=by rw[←h,List.take_left]
 simp only[ZGJ,Bool.and_eq_true,decide_eq_true_eq]
 refine⟨hv,ZFE (Z7E hv).1 (by omega) (fun r hr=>(Z6o s.inp).mem_iff.mp (by rw[←h];simp[hr])),?_,hacc⟩
 unfold ZIV
 rw[if_pos hv]
 by_cases p3:s.ph=3
 ·rw[if_pos (.inl p3)]
  obtain⟨_,_,_,_,q5⟩:=Z7c o7 (by omega)
  obtain⟨_,q2,_,_⟩:=ZB6 q5 p3
  unfold rest at e
  rw[if_pos p3,List.length_drop]at e
  rw[Z5Q (n:=(s.inp.length:Int)-s.lp) ⟨by omega,by omega⟩,Z5Q ⟨by omega,by omega⟩]
  omega
 ·by_cases p4:s.ph=4
  ·rw[if_pos (.inr p4)]
   obtain⟨_,_,_,_,q5⟩:=Z7c o7 (by omega)
   obtain⟨_,q2,_,_⟩:=ZDB q5 p4
   unfold rest at e
   rw[if_neg p3,if_pos p4,List.length_nil]at e
   rw[Z5Q (n:=(s.inp.length:Int)-s.lp) ⟨by omega,by omega⟩,Z5Q ⟨by omega,by omega⟩]
   omega
  ·rw[if_neg (by omega)]
   unfold rest at e
   rw[if_neg p3,if_neg p4]at e
   rw[Z5Q ⟨by omega,by omega⟩]
   omega
theorem ZL8 {j:List UInt8} {l:List Rw} {g:List Int} (h:(ZFv j l g).2=true):(ZFv j l g).1=Z9J l:=by
 unfold ZFv at*
 by_cases h1:aok l=true∧ZEP g=true
 ·rw[if_pos h1]at*
  cases hr:(Z7G j).1.getLast? with
  |none=>rfl
  |some r=>
   rw[hr]at h
   simp only at h⊢
   by_cases h2:ZIi r=true∧(ZCB r).so.inp=l
   ·rw[if_pos h2]
    have:=ZJo (ZHa h2.1).2.1
    rw[h2.2]at this
    exact this
   ·rw[if_neg h2]at h
    cases h
 ·rw[if_neg h1]at h
  cases h
def JG (l:List Rw) (j:List UInt8):Prop:=(Z7G j).2=true∧∀r∈(Z7G j).1,∃c:Ck,CkP c∧c.so.inp=l∧r=ZDC c
theorem ZLq (l:List Rw):JG l []:=by
 unfold JG
 rw[Z7T]
 exact⟨rfl,fun r hr=>by cases hr⟩
theorem ZKh {l:List Rw} {j:List UInt8} {c:Ck} (h:JG l j) (hc:CkP c) (hi:c.so.inp=l):JG l (apB j (Z8C c)).1:=by
 unfold apB
 split
 ·rename_i hh
  rw[Bool.and_eq_true]at hh
  have h1:=ZAZ (Z8C c) []
  rw[List.append_nil,Z7T]at h1
  have hx:Z7G (j++Z8o (Z8C c))=((Z7G j).1++[Z8C c],true):=by rw[ZJE j.length j _ (Nat.le_refl _) hh.1,h1]
  show JG l (j++Z8o (Z8C c))
  unfold JG
  rw[hx]
  refine⟨rfl,fun r hr=>?_⟩
  rcases List.mem_append.mp hr with hr|hr
  ·exact h.2 r hr
  ·refine⟨c,hc,hi,?_⟩
   rw[List.mem_singleton.mp hr]
   exact if_pos hc.1
 ·exact h
theorem ZL9 {l:List Rw} {g:List Int} (hg:ZEP g=true) {k:Nat}:∀(f:Nat) (s:So) (n:Nat) (acc:List Rw) (j:List UInt8),ZCT s≤f→Z9s s=true→s.wr+4*(f:Int)<1000000000→s.inp=l→acc++rest s=Z9J l→JG l j→JG l (ZHb g k f s n acc j).1:=by
 intro f
 induction f with
 |zero=>intro s n acc j _ _ _ _ _ hj;exact hj
 |succ f ih=>
  intro s n acc j hm hv hw hi ha hj
  rw[ZHb]
  by_cases h4:s.ph=4
  ·rw[if_pos h4];exact hj
  ·rw[if_neg h4]
   obtain⟨s',em,e1,e2,e3,e4,e5,e6⟩:=ZBm (n:=n) hv hg h4 (k:=f+1) hm (by omega)
   rw[e1]
   have ha':(acc++em)++rest s'=Z9J l:=by rw[List.append_assoc,←e6,ha]
   have hc:CkP ⟨s',acc++em⟩:=⟨ZLp e2 (by rw[ha',e5,hi]),show s'.wr<1000000000 by omega⟩
   have hj':=ZKh hj hc (by show s'.inp=l;rw[e5,hi])
   by_cases hk:n%k+1=k
   ·rw[if_pos hk]
    show JG l (if(apB j (Z8C ⟨s',acc++em⟩)).2=true then _ else _:List UInt8×Bool).1
    by_cases hb:(apB j (Z8C ⟨s',acc++em⟩)).2=true
    ·rw[if_pos hb]
     exact ih s' (n+1) (acc++em) _ (by omega) e2 (by omega) (by rw[e5,hi]) ha' hj'
    ·rw[if_neg hb];exact hj'
   ·rw[if_neg hk]
    exact ih s' (n+1) (acc++em) j (by omega) e2 (by omega) (by rw[e5,hi]) ha' hj
theorem ZLA {l:List Rw} {g:List Int} {k:Int} (h:(ZHc l g k).2=true):aok l=true∧JG l (ZHc l g k).1:=by
 unfold ZHc at*
 by_cases hh:aok l=true∧ZEP g=true∧win k 1 100=true
 ·refine⟨hh.1,?_⟩
  rw[if_pos hh]
  obtain⟨n1,n2,n3⟩:=ZAb hh.1
  have hc:CkP ⟨Z8T l,[]⟩:=⟨ZLp n1 (by rw[List.nil_append,n2];rfl),show(Z8T l).wr<1000000000 by omega⟩
  have hj:=ZKh (ZLq l) hc rfl
  show JG l (if(apB [] (Z8C ⟨Z8T l,[]⟩)).2=true then _ else _:List UInt8×Bool).1
  by_cases hb:(apB [] (Z8C ⟨Z8T l,[]⟩)).2=true
  ·rw[if_pos hb]
   exact ZL9 hh.2.1 ZIc (Z8T l) 0 [] _ (by rw[ZA0];exact ZFN n1) n1 (by rw[ZA0];omega) rfl (by rw[List.nil_append,n2]) hj
  ·rw[if_neg hb];exact hj
 ·rw[if_neg hh]at h
  cases h
theorem ZKJ {l:List Rw} {j:List UInt8} {g:List Int} (ha:aok l=true) (hg:ZEP g=true) (hj:JG l j) (n:Nat):ZFv (j.take n) l g=(Z9J l,true):=by
 obtain⟨m,hm⟩:=ZJF j.length j n (Nat.le_refl _)
 unfold ZFv
 rw[if_pos ⟨ha,hg⟩]
 cases hr:(Z7G (j.take n)).1.getLast? with
 |none=>rfl
 |some r=>
  have hmem:=List.mem_of_getLast? hr
  rw[hm]at hmem
  obtain⟨c,hc,hi,rfl⟩:=hj.2 r (List.mem_of_mem_take hmem)
  have hp:Z9u (ZDC c)=some c:=ZB8.mpr ⟨hc,rfl⟩
  have h1:ZIi (ZDC c)=true:=by unfold ZIi;rw[hp];rfl
  have h2:ZCB (ZDC c)=c:=by unfold ZCB;rw[hp];rfl
  simp only[h1,h2]
  rw[if_pos ⟨trivial,hi⟩,ZJo hc.1,hi]
theorem ZKi {b:Rows} {x0:Int}:∀(n:Nat) (i h:Int) (l:List Int),Cu b i→0<l.length+n→l.length+n≤1000→
  ∃(g:List Int) (i' h':Int),Z96 x0 (n:Int) b i h (l.map ZAv)=some [.sl (g.map ZAv),.sl b,.int i',.int h']∧Cu b i'∧g.length≤1000
 |0,i,h,l,c,hp,hn=>by
  obtain⟨t,i1,h1,e1,c1⟩:=ZIt (h:=h) 14 c
  obtain⟨r,i2,h2,e2,c2,_⟩:=ZB3 (h:=h1) [[.int 7],[.int 61]] (fun _=>true) (by decide) rfl c1
  rw[ZAj,ltF (by omega),cond_false,e1]
  simp only[gA,e2]
  cases l with
  |nil=>simp at hp
  |cons a l=>
   cases t with
   |false=>exact⟨a::l,_,_,rfl,c1,by simpa using hn⟩
   |true=>
    refine⟨r::l,i2,h2,?_,c2,by simpa using hn⟩
    rw[show inR 0 (lenI ((a::l).map ZAv))=true from ZBq (i:=0) (by simp)]
    rfl
 |n+1,i,h,l,c,hp,hn=>by
  obtain⟨r,i1,h1,e1,c1,_⟩:=ZB3 (h:=h) [[.int 0],[.int 0],[.int 1],[.int 4],[.int 12],[.int 40]] (fun _=>true) (by decide) rfl c
  obtain⟨g,i',h',ih,c',hg⟩:=ZKi (x0:=x0) n i1 h1 (l++[w64 (8+r)]) c1 (by simp;omega) (by simp;omega)
  refine⟨g,i',h',?_,c',hg⟩
  rw[ZAj,ltT (by omega),cond_true,e1]
  simp only[gA,Z5b]
  rw[show fitM (Nat.succ l.length) 8=true from Z97 (by omega),cond_true,show w64 (((n+1:Nat):Int)-1)=(n:Int)by rw[Z5Q ⟨by omega,by omega⟩];omega,show List.append (l.map ZAv) [[Dat.int (w64 (8+r))]]=(l++[w64 (8+r)]).map ZAv by simp[ZAv],ih]
theorem ZId {b:Rows} {i h:Int} (c:Cu b i):∃(g:List Int) (i' h':Int),callI tE Z6p [.sl b,.int i,.int h]=some [.sl (g.map ZAv),.sl b,.int i',.int h']∧Cu b i'∧g.length≤1000:=by
 obtain⟨n,i1,h1,e1,c1,p1,p2,_⟩:=ZCq (h:=h) 4 c
 have:=p2 (by omega)
 obtain⟨m,rfl⟩:∃m:Nat,n=m:=⟨n.toNat,by omega⟩
 rw[ZFR,e1]
 simp only[gA]
 rw[show w64 (1+(m:Int))=((m+1:Nat):Int)by rw[Z5Q ⟨by omega,by omega⟩];omega]
 exact ZKi (m+1) i1 h1 [] c1 (by simp) (by simp;omega)
theorem ZIe (x:Rows) (hx:x.length≤1048576):∃(l:List Rw) (g:List Int) (k:Int),callI tE Z6u [.sl x]=some [.sl (l.map Rw.e),.sl (g.map ZAv),.int k]∧l.length≤8∧g.length≤1000:=by
 obtain⟨h0,e0,c0⟩:=ZMF x hx
 obtain⟨l,i1,h1,e1,c1,_,q1⟩:=ZLy (h:=h0) 7 c0 (by omega) (by omega)
 obtain⟨g,i2,h2,e2,c2,q2⟩:=ZId (h:=h1) c1
 obtain⟨k,i3,h3,e3,c3,_⟩:=ZB3 (h:=h2) [[.int 1],[.int 2],[.int 5],[.int 10],[.int 100],[.int 0],[.int 101]] (fun _=>true) (by decide) rfl c2
 rw[ZAG,e0]
 simp only[gA,e1,e2,e3]
 exact⟨l,g,k,rfl,by omega,q2⟩
theorem ZIK (l:List Rw) (g:List Int) (k:Int):(ZHc l g k).1.length≤20000:=by
 have key:∀(f:Nat) (s:So) (n:Nat) (acc:List Rw) (j:List UInt8),j.length≤20000→(ZHb g k.toNat f s n acc j).1.length≤20000:=by
  intro f
  induction f with
  |zero=>intro s n acc j hj;exact hj
  |succ f ih=>
   intro s n acc j hj
   rw[ZHb]
   split
   ·exact hj
   ·split
    ·have:=ZDk (r:=Z8C ⟨(ZBu s (gAt g n)).1,acc++(ZBu s (gAt g n)).2.1⟩) hj
     simp only
     split
     ·exact ih _ _ _ _ this
     ·exact this
    ·exact ih _ _ _ _ hj
 unfold ZHc
 split
 ·have:=ZDk (r:=Z8C ⟨Z8T l,[]⟩) (j:=[]) (by simp)
  simp only
  split
  ·exact key _ _ _ _ _ this
  ·exact this
 ·simp
theorem ZHd (x:Rows) (hx:x.length≤1048576):∃(j:List UInt8) (l:List Rw) (g:List Int),callI tE Z8W [.sl x]=some [.str (S j),.sl (l.map Rw.e),.sl (g.map ZAv)]∧j.length≤20000∧l.length≤8∧g.length≤1000:=by
 obtain⟨h0,e0,c0⟩:=ZMF x hx
 obtain⟨l,i1,h1,e1,c1,_,q1⟩:=ZJw (h:=h0) 6 c0 (by omega) (by omega)
 obtain⟨g,i2,h2,e2,c2,q2⟩:=ZId (h:=h1) c1
 obtain⟨k,i3,h3,e3,c3,_⟩:=ZCq (h:=h2) 9 c2
 have e4:=ZKg l g (w64 (1+k)) (by omega) (by omega)
 have hj:=ZIK l g (w64 (1+k))
 generalize ZHc l g (w64 (1+k))=jj at*
 obtain⟨j,jb⟩:=jj
 simp only at e4 hj
 obtain⟨t,i5,h5,e5,c5⟩:=ZIt (h:=h3) 4 c3
 rw[ZBw,e0]
 simp only[gA,e1,e2,e3,e4,e5]
 cases t with
 |true=>
  simp only[Bool.not_true,cond_false]
  obtain⟨t2,i6,h6,e6,c6⟩:=ZIt (h:=h5) 10 c5
  simp only[gA,e6]
  cases t2 with
  |true=>
   obtain⟨l2,i7,h7,e7,c7,_,q7⟩:=ZJw (h:=h6) 4 c6 (by omega) (by omega)
   obtain⟨g2,i8,h8,e8,c8,q8⟩:=ZId (h:=h7) c7
   simp only[gA,e7,e8,cond_true]
   exact⟨j,l2,g2,rfl,hj,by omega,q8⟩
  |false=>
   obtain⟨g2,i8,h8,e8,c8,q8⟩:=ZId (h:=h6) c6
   simp only[gA,e8,cond_false]
   exact⟨j,l,g2,rfl,hj,by omega,q8⟩
 |false=>
  simp only[Bool.not_false,cond_true,Z5z]
  obtain⟨n,i6,h6,e6,c6,_⟩:=ZCq (h:=h5) (w64 ((j.length:Int)+1)) c5
  obtain⟨t2,i7,h7,e7,c7⟩:=ZIt (h:=h6) 10 c6
  simp only[gA,e6,ZLS,e7]
  cases t2 with
  |true=>
   obtain⟨l2,i8,h8,e8,c8,_,q7⟩:=ZJw (h:=h7) 4 c7 (by omega) (by omega)
   obtain⟨g2,i9,h9,e9,c9,q8⟩:=ZId (h:=h8) c8
   simp only[gA,e8,e9,cond_true]
   exact⟨j.take n.toNat,l2,g2,rfl,by simp only[List.length_take];omega,by omega,q8⟩
  |false=>
   obtain⟨g2,i9,h9,e9,c9,q8⟩:=ZId (h:=h7) c7
   simp only[gA,e9,cond_false]
   exact⟨j.take n.toNat,l,g2,rfl,by simp only[List.length_take];omega,by omega,q8⟩
set_option maxRecDepth 100000
noncomputable def Z5p (x0:Rows) (x1:ByteArray) (x2:Int) (x3:Rows):Option (List Dat):=loopK tE Z7e 0 ⟨[(0,(.ro 5 Bool.false x0)),(3,(.own (500000,0))),(6,(.s x1)),(17,(.i .i64 x2))],[((500000,0),(.row 105 x3 Bool.true 0 []))]⟩
theorem Z7t (x0:Rows) (x1:ByteArray) (x2:Int) (x3:Rows):Z5p x0 x1 x2 x3=(bif(ltI x2 4)then(((callI tE ZER [(.sl x0),(.int x2)])).bind (fun r0=>(((callI tE ZAh [(.str x1),(.int (w64 (Int.tdiv (w64 ((gn r0)*(szI x1))) 255)))])).bind (fun r1=>(((callI tE Z8h [(.str (gs r1)),(.sl x3),(.sl [[(.int 8)],[(.int 30)]])])).bind (fun r2=>(bif(!(gb (tk 1 r2)))then(some [(.bool Bool.false)])else(((callI tE Z6J [(.sl x3)])).bind (fun r3=>(((callI tE Z7m [(.sl (gl r2)),(.sl (gl r3))])).bind (fun r4=>(bif(!(gb r4))then(some [(.bool Bool.false)])else(Z5p x0 x1 (w64 (x2+1)) x3)))))))))))))else(some [(.bool Bool.true)])):=(loopK_run (by kernel_rfl)).trans (by kernel_rfl)
theorem ZBE (a0:Rows):callI tE Z7e [.sl a0]=(((callI tE ZFc [(.sl a0)])).bind (fun r0=>(bif(gb r0)then(some [(.bool Bool.true)])else(((callI tE Z6u [(.sl a0)])).bind (fun r1=>(((callI tE Z7d [(.sl (gl r1)),(.sl (gl (tk 1 r1))),(.int (gn (tk 2 r1)))])).bind (fun r2=>(((callI tE Z6K [(.sl (gl r1)),(.sl (gl (tk 1 r1))),(.int (gn (tk 2 r1)))])).bind (fun r3=>(bif(!(eqBo (gb (tk 1 r2)) (gb (tk 1 r3))))then(some [(.bool Bool.false)])else(bif(!(eqS (gs r2) (gs r3)))then(some [(.bool Bool.false)])else(((callI tE Z8W [(.sl a0)])).bind (fun r4=>(((callI tE Z8h [(.str (gs r4)),(.sl (gl (tk 1 r4))),(.sl (gl (tk 2 r4)))])).bind (fun r5=>(((callI tE Z8i [(.str (gs r4)),(.sl (gl (tk 1 r4))),(.sl (gl (tk 2 r4)))])).bind (fun r6=>(bif(!(eqBo (gb (tk 1 r5)) (gb (tk 1 r6))))then(some [(.bool Bool.false)])else(((callI tE Z7m [(.sl (gl r5)),(.sl (gl r6))])).bind (fun r7=>(bif(!(gb r7))then(some [(.bool Bool.false)])else(bif(gb (tk 1 r5))then(((callI tE Z6J [(.sl (gl (tk 1 r4)))])).bind (fun r8=>(((callI tE Z7m [(.sl (gl r5)),(.sl (gl r8))])).bind (fun r9=>(bif(!(gb r9))then(some [(.bool Bool.false)])else(bif(!(gb (tk 1 r2)))then(some [(.bool Bool.true)])else(Z5p a0 (gs r2) 0 (gl r1))))))))else(bif(!(gb (tk 1 r2)))then(some [(.bool Bool.true)])else(Z5p a0 (gs r2) 0 (gl r1))))))))))))))))))))))))):=(callI_run rfl (by kernel_rfl)).trans (by kernel_rfl)
set_option maxRecDepth 10000
theorem ZLr (l:Rows) (k:Int) (h:0≤k):∃n:Int,callI tE ZER [.sl l,.int k]=some [.int n]:=by
 rw[ZIj]
 by_cases hk:k<(l.length:Int)
 ·rw[ltT (show k<lenI l from hk),cond_true,ZDl h hk];exact⟨_,rfl⟩
 ·rw[ltF (show lenI l≤k from by show(l.length:Int)≤k;omega),cond_false];exact⟨_,rfl⟩
theorem ZLB {j:List UInt8} {l:List Rw} {g:List Int} (h:(ZFv j l g).2=false):(ZFv j l g).1=[]:=by
 unfold ZFv at*
 by_cases h1:aok l=true∧ZEP g=true
 ·rw[if_pos h1]at*
  cases hr:(Z7G j).1.getLast? with
  |none=>rw[hr]at h;cases h
  |some r=>
   rw[hr]at h
   simp only at h⊢
   by_cases h2:ZIi r=true∧(ZCB r).so.inp=l
   ·rw[if_pos h2]at h;cases h
   ·rw[if_neg h2]
 ·rw[if_neg h1]
theorem ZMD:ZEP [8,30]=true:=by decide
theorem ZFw (x:Rows) {l:List Rw} {j:List UInt8} (ha:aok l=true) (hj:JG l j) (hl:j.length≤20000):∀(n k:Nat),k+n=4→Z5p x (S j) (k:Int) (l.map Rw.e)=some [.bool true]
 |0,k,h=>by
  rw[Z7t,ltF (by omega),cond_false]
 |n+1,k,h=>by
  have ih:=ZFw x ha hj hl n (k+1) (by omega)
  have al:=Z6V ha
  obtain⟨m,e1⟩:=ZLr x (k:Int) (by omega)
  have e2:=ZLR j (w64 (Int.tdiv (w64 (m*szI (S j))) 255))
  have e3:=ZJl (j.take (w64 (Int.tdiv (w64 (m*szI (S j))) 255)).toNat) l [8,30] (by simp only[List.length_take];omega) (by simp) (by omega)
  rw[ZKJ ha ZMD hj]at e3
  have e4:=ZJN l (by omega)
  have il:=(Z6o l).length_eq
  have e5:=ZCX (Z9J l) (Z9J l) (by omega)
  rw[show([8,30]:List Int).map ZAv=[[.int 8],[.int 30]]from rfl]at e3
  rw[Z7t,ltT (by omega),cond_true,e1]
  simp only[gA,e2,e3,e4,e5,decide_true,Bool.not_true,cond_false,Z7n (show k<9223372036854775807 by omega)]
  exact ih
theorem pure_FnResumeAfterCrash:∀ds,OkDs tE [.sl 5] ds→callI tE Z7e ds=some [.bool true]:=by
 intro ds h0
 obtain⟨_,_,rfl,i0,h1⟩:=h0.inv
 obtain⟨l0,rfl⟩:=ZKn i0
 obtain rfl:=h1.nil_inv
 rw[ZBE,ZIL]
 simp only[gA]
 by_cases hs:l0.length≤1048576
 ·rw[ltF (show lenI l0≤1048576 by show(l0.length:Int)≤1048576;omega),cond_false]
  obtain⟨l,g,k,e1,q1,q2⟩:=ZIe l0 hs
  obtain⟨j2,l2,g2,e2,q3,q4,q5⟩:=ZHd l0 hs
  have f1:=ZLo l g k (by omega)
  have f2:=ZKg l g k (by omega) (by omega)
  have f3:=ZJl j2 l2 g2 (by omega) (by omega) (by omega)
  have f4:=ZL7 j2 l2 g2 (by omega) (by omega) (by omega)
  have f5:=ZJN l2 (by omega)
  have il:=(Z6o l2).length_eq
  have hjl:=ZIK l g k
  have hgood:=ZLA (l:=l) (g:=g) (k:=k)
  have hres:=ZL8 (j:=j2) (l:=l2) (g:=g2)
  have hrl:(ZFv j2 l2 g2).1.length≤1152921504606846976:=by
   cases hb:(ZFv j2 l2 g2).2 with
   |true=>rw[hres hb];omega
   |false=>
    have:=ZLB hb
    rw[this];simp
  have f6:=ZCX (ZFv j2 l2 g2).1 (ZFv j2 l2 g2).1 hrl
  have f7:=ZCX (ZFv j2 l2 g2).1 (Z9J l2) hrl
  have fin:(bif !(ZHc l g k).2 then some [Dat.bool true]else Z5p l0 (S (ZHc l g k).1) 0 (l.map Rw.e))=some [.bool true]:=by
   cases hb:(ZHc l g k).2 with
   |false=>rfl
   |true=>
    obtain⟨g1,g2⟩:=hgood hb
    rw[Bool.not_true,cond_false]
    exact ZFw l0 g1 g2 hjl 4 0 rfl
  simp only[e1,e2,f1,f2,f3,f4,f5,f6,f7,gA,ZIk,ZJu,decide_true,Bool.not_true,cond_false]
  cases hb:(ZFv j2 l2 g2).2 with
  |false=>rw[cond_false];exact fin
  |true=>
   rw[cond_true,decide_eq_true (hres hb),Bool.not_true,cond_false];exact fin
 ·rw[ltT (show 1048576<lenI l0 by show(1048576:Int)<(l0.length:Int);omega)]
  rfl
end Go.Proofs.YtceoogjanfbdcaaGreat.Vai
