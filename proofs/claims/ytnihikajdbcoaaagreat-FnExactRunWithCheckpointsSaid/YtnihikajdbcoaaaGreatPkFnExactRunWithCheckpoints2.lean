/- What the law of this claim leans on; no condition. -/
import Derived.Test.YtnihikajdbcoaaaGreatPkFnExactRunWithCheckpoints1
namespace Go.Proofs.YtnihikajdbcoaaaGreat.Vai
open Go
set_option linter.unusedSimpArgs false
set_option linter.unusedVariables false
set_option linter.unnecessarySimpa false
set_option maxRecDepth 10000
theorem ZIY (s:So) (h:s.B2) (hp:win s.pos 0 s.inp.length=true) (x0:Int):
  Z65 x0 (w64 ((s.out.length:Int)-1)) (s.heap.length:Nat) (s.inp.map Rw.e) s.pos (s.heap.map Rw.e) (s.dfd.map Rw.e) (s.out.map Rw.e) (s.runs.map rsE) s.lp s.rp s.ph s.wr=some [.bool (Z8r s)]:=by
 obtain⟨h1,h2,h3,h4,h5⟩:=h.b.p
 have hpp:=Z8J.mp hp
 have hfl:=ZDk s.runs
 have hsz:s.inp.length+(s.heap.length+(s.dfd.length+(s.out.length+s.runs.flatten.length)))≤1073741800:=by
  simp only[So.B2,So.sz]at h;omega
 have hb1:=ZI4 (s.runs.flatten++(s.out++(s.heap++s.dfd))) (s.inp.take s.pos.toNat) (by(first|omega|(simp only[List.length_append,List.length_cons,List.length_nil,List.length_map,List.length_take,List.length_drop,List.length_replicate,Z6A]at* <;>omega))) (by(first|omega|(simp only[List.length_append,List.length_cons,List.length_nil,List.length_map,List.length_take,List.length_drop,List.length_replicate,Z6A]at* <;>omega)))
 have hb2:=ZI4 s.runs.flatten s.inp (by omega) (by omega)
 have f1:fitM (s.runs.flatten.length+s.out.length) 24=true:=Z9C (by omega)
 have f2:fitM ((s.runs.flatten++s.out).length+s.heap.length) 24=true:=Z9C (by(first|omega|(simp only[List.length_append,List.length_cons,List.length_nil,List.length_map,List.length_take,List.length_drop,List.length_replicate,Z6A]at* <;>omega)))
 have f3:fitM ((s.runs.flatten++s.out++s.heap).length+s.dfd.length) 24=true:=Z9C (by(first|omega|(simp only[List.length_append,List.length_cons,List.length_nil,List.length_map,List.length_take,List.length_drop,List.length_replicate,Z6A]at* <;>omega)))
 have hass:s.runs.flatten++s.out++s.heap++s.dfd=s.runs.flatten++(s.out++(s.heap++s.dfd)):=by simp
 have hlast:leI 0 (w64 ((s.out.length:Int)-1))=decide (0<s.out.length):=by
  rw[Z5g ⟨by omega,by omega⟩];unfold leI;congr 1;apply propext;omega
 rw[Z88,Z5L,ltF (Int.le_refl _),cond_false]
 simp only[ZGl s.runs h5,ZIg s h.b,gA,hb2,ZFA,Z5l,Z9s,f1,f2,f3,cond_true,hass,hb1,hlast,Z5L]
 unfold Z8r
 by_cases p1:s.ph=1
 ·rw[eqT p1,cond_true,if_pos p1]
  by_cases q1:s.lp=0
  ·rw[eqT q1,cond_true,decide_eq_true q1]
   by_cases q2:s.rp=0
   ·rw[eqT q2,cond_true,decide_eq_true q2,leT (show 0≤s.pos by omega),leT (show s.pos≤s.inp.length by omega)]
    simp only[Bool.and_self,cond_true,ZFB]
    by_cases q4:s.dfd.length=0
    ·rw[eqT (by omega),cond_true,decide_eq_true (show s.out≠[]∨s.dfd=[]from .inr (List.length_eq_zero_iff.mp q4))]
     cases decide (ZBp s≤60)<;>rfl
    ·rw[eqF (by omega),cond_false]
     by_cases q3:0<s.out.length
     ·rw[decide_eq_true q3,cond_true,decide_eq_true (show s.out≠[]∨s.dfd=[]from .inl (fun e=>by rw[e]at q3;simp at q3))]
      cases decide (ZBp s≤60)<;>rfl
     ·have qo:s.out=[]:=List.length_eq_zero_iff.mp (by omega)
      rw[decide_eq_false q3,cond_false,decide_eq_false (show¬(s.out≠[]∨s.dfd=[])from fun e=>e.elim (fun e=>e qo) (fun e=>q4 (by rw[e];rfl)))]
      rfl
   ·rw[eqF q2,decide_eq_false q2];rfl
  ·rw[eqF q1,decide_eq_false q1];rfl
 ·rw[eqF p1,cond_false,if_neg p1]
  by_cases q1:s.pos=s.inp.length
  ·rw[eqT q1,Bool.not_true,cond_false,decide_eq_true q1,Z5g (n:=(s.heap.length:Int)+(s.dfd.length:Int)) ⟨by omega,by omega⟩]
   by_cases q2:s.heap.length=0
   ·by_cases q3:s.dfd.length=0
    ·rw[ltF (by omega),cond_false,Z9H s.heap,decide_eq_true q2,Z9H s.dfd,decide_eq_true q3]
     simp only[Bool.true_and]
     unfold Z8Q
     by_cases p2:s.ph=2
     ·rw[eqT p2,cond_true,if_pos p2]
      unfold ZCo
      cases hr:s.runs with
      |nil=>simp[ltI]
      |cons a r=>
       cases r with
       |nil=>simp[ltI]
       |cons b r=>
        have ha:a.length≤1073741824:=Nat.le_trans (Z8h (by rw[hr];simp)) h5
        have hb:b.length≤1073741824:=Nat.le_trans (Z8h (by rw[hr];simp)) h5
        have g0:at' ((a::b::r).map rsE) (tn 0)=rsE a:=rfl
        have g1:at' ((a::b::r).map rsE) (tn 1)=rsE b:=rfl
        have l0:ltI ((a::b::r).length:Int) 2=false:=ltF (by simp;omega)
        have l1:inR 0 ((a::b::r).length:Int)=true:=ZDZ (by omega) (by simp;omega)
        have l2:inR 1 ((a::b::r).length:Int)=true:=ZDZ (by omega) (by simp;omega)
        simp only[l0,l1,l2,cond_true,cond_false,g0,g1,rsE,gA,Z5L,ZAw]
        by_cases w1:win s.lp 0 a.length=true
        ·by_cases w2:win s.rp 0 b.length=true
         ·have w3:=Z8J.mp w1
          have w4:=Z8J.mp w2
          have m1:=ZIe (a.take s.lp.toNat) (b.take s.rp.toNat) (by simp;omega)
          have m2:=ZIe a b (by omega)
          have ml:=Z8P a b
          have ml2:=Z8P (a.take s.lp.toNat) (b.take s.rp.toNat)
          simp only[List.length_take]at ml2
          have e1:=ZFs (mrg (a.take s.lp.toNat) (b.take s.rp.toNat)) s.out (by omega)
          have e2:=ZFs s.out ((mrg a b).take (s.lp.toNat+s.rp.toNat)) (by omega)
          have e3:w64 (s.lp+s.rp)=s.lp+s.rp:=Z5g ⟨by omega,by omega⟩
          have e4:(s.lp+s.rp).toNat=s.lp.toNat+s.rp.toNat:=by omega
          have e5:decide (mrg (a.take s.lp.toNat) (b.take s.rp.toNat)=s.out)=decide (s.out=mrg (a.take s.lp.toNat) (b.take s.rp.toNat)):=by
           congr 1;exact propext ⟨fun e=>e.symm,fun e=>e.symm⟩
          rw[w1,w2,leT w3.1,leT w3.2,leT w4.1,leT w4.2]
          simp only[Bool.not_true,cond_false,Bool.and_self,cond_true,ZFA,m1,m2,gA,e3,e4,Z5L,e2,e1]
          rw[leT (by omega),leT (by rw[ml];omega),e5]
          simp only[Bool.and_self,cond_true,Bool.true_and]
          cases decide (s.out=(mrg a b).take (s.lp.toNat+s.rp.toNat))<;>cases decide (s.out=mrg (a.take s.lp.toNat) (b.take s.rp.toNat))<;>simp
         ·rw[w1,(Bool.not_eq_true _).mp w2];simp
        ·rw[(Bool.not_eq_true _).mp w1];simp
     ·rw[eqF p2,cond_false,if_neg p2]
      by_cases w1:s.runs.length≤1
      ·rw[ltF (by omega),cond_false]
       by_cases w2:s.rp=0
       ·rw[eqT w2,Bool.not_true,cond_false,decide_eq_true w2]
        by_cases w3:s.out.length=0
        ·rw[ltF (by omega),cond_false,Z9H s.out,decide_eq_true w3]
         cases ZD8 s.runs.flatten s.inp
         ·rfl
         ·simp only[Bool.not_true,cond_false,Bool.true_and,Bool.and_true]
          by_cases p3:s.ph=3
          ·rw[eqT p3,cond_true,if_pos p3]
           by_cases w4:s.runs.length=1
           ·rw[eqT (by omega),cond_true,decide_eq_true w4]
            simp only[ZAw,ZG5 (show s.inp.length≤1073741824 by omega),gA,Bool.true_and]
           ·rw[eqF (by omega),decide_eq_false w4];rfl
          ·rw[eqF p3,cond_false,if_neg p3]
           by_cases p4:s.ph=4
           ·rw[eqT p4,cond_true,if_pos p4,decide_eq_true w1]
            unfold eqI
            simp
           ·rw[eqF p4,if_neg p4];rfl
        ·rw[ltT (by omega),Z9H s.out,decide_eq_false w3]
         simp
       ·rw[eqF w2,decide_eq_false w2]
        simp
      ·rw[ltT (by omega),decide_eq_false w1,decide_eq_false (show¬s.runs.length=1 by omega)]
       simp
    ·rw[ltT (by omega),Z9H s.dfd,decide_eq_false q3];simp
   ·rw[ltT (by omega),Z9H s.heap,decide_eq_false q2];simp
  ·rw[eqF q1,decide_eq_false q1];rfl
theorem ZCK (s:So) (h:s.B2):callI tE Z61 [.sl (s.inp.map Rw.e),.int s.pos,.sl (s.heap.map Rw.e),.sl (s.dfd.map Rw.e),.sl (s.out.map Rw.e),.sl (s.runs.map rsE),.int s.lp,.int s.rp,.int s.ph,.int s.wr]=some [.bool (Z9u s)]:=by
 obtain⟨h1,h2,h3,h4,h5⟩:=h.b.p
 rw[ZAk]
 simp only[ZA6 s.inp (by omega),ZAw,Z5L,ZFZ s.runs h5,ZEH s.out (by omega),gA]
 unfold Z9u
 cases aok s.inp
 ·rfl
 ·by_cases hp:win s.pos 0 s.inp.length=true
  ·rw[hp]
   cases s.runs.all ZAT
   ·rfl
   ·by_cases hw:0≤s.wr
    ·rw[ltF hw,decide_eq_true hw]
     cases isS s.out
     ·rfl
     ·have hlast:leI 0 (w64 ((s.out.length:Int)-1))=decide (0<s.out.length):=by
       rw[Z5g ⟨by omega,by omega⟩];unfold leI;congr 1;apply propext;omega
      have:=ZAg (l:=s.heap) (L:=fun i=>Z65 0 (w64 ((s.out.length:Int)-1)) i (s.inp.map Rw.e) s.pos (s.heap.map Rw.e) (s.dfd.map Rw.e) (s.out.map Rw.e) (s.runs.map rsE) s.lp s.rp s.ph s.wr) (p:=fun r=> !Z9A r s.out) (no:=some [.bool false]) (yes:=some [.bool (Z8r s)]) (by omega) (fun u a v e=>by
       have hu:u.length<s.heap.length:=by rw[e];simp
       have ha:at' (s.heap.map Rw.e) u.length=a.e:=ZCa e rfl
       rw[Z88,Z5L,ltT (by omega),cond_true,hlast]
       rcases ZDj s.out with ho|⟨q,x,ho⟩
       ·rw[ho,ZAj];rfl
       ·have hx:at' (s.out.map Rw.e) q.length=x.e:=ZCa (u:=q) (v:=[]) (by rw[ho]) rfl
        have hql:s.out.length=q.length+1:=by rw[ho];simp
        have hl2:w64 ((s.out.length:Int)-1)=(q.length:Int):=by rw[Z5g ⟨by omega,by omega⟩];omega
        rw[decide_eq_true (by omega:0<s.out.length),cond_true,hl2,ZDZ (by omega) (by omega),ZAY (by omega)]
        simp only[cond_true,Z84,ha,hx,gk,gv,gw,ZAL,gA,Z9Y]
        rw[show Z9A a s.out=decide (Rw.lt a x)by rw[ho,Z9c]]
        cases decide (Rw.lt a x)<;>rfl) (ZIY s h hp 0)
      refine this.trans ?_
      cases s.heap.all fun r=> !Z9A r s.out<;>rfl
    ·rw[ltT (by omega),decide_eq_false hw];rfl
  ·rw[(Bool.not_eq_true _).mp hp];rfl
def ZG7 (s:So):Int:=if Z9u s then(if s.ph=3∨s.ph=4 then w64 ((s.inp.length:Int)-s.lp)else s.inp.length)else 0
theorem ZIo (s:So) (h:s.B2):callI tE Z80 [.sl (s.inp.map Rw.e),.int s.pos,.sl (s.heap.map Rw.e),.sl (s.dfd.map Rw.e),.sl (s.out.map Rw.e),.sl (s.runs.map rsE),.int s.lp,.int s.rp,.int s.ph,.int s.wr]=some [.int (ZG7 s)]:=by
 rw[ZAm,ZCJ s h]
 simp only[gA,Z5L]
 unfold ZG7
 by_cases hv:Z9u s=true
 ·rw[hv,if_pos rfl]
  by_cases p3:s.ph=3
  ·rw[eqT p3,if_pos (.inl p3)];rfl
  ·rw[eqF p3]
   by_cases p4:s.ph=4
   ·rw[eqT p4,if_pos (.inr p4)];rfl
   ·rw[eqF p4,if_neg (fun e=>e.elim p3 p4)];rfl
 ·rw[(Bool.not_eq_true _).mp hv];rfl
theorem ZIp (s:So) (h:s.B2):callI tE Z81 [.sl (s.inp.map Rw.e),.int s.pos,.sl (s.heap.map Rw.e),.sl (s.dfd.map Rw.e),.sl (s.out.map Rw.e),.sl (s.runs.map rsE),.int s.lp,.int s.rp,.int s.ph,.int s.wr]=some [.int (ZG7 s)]:=by
 rw[ZAn,ZCK s h]
 simp only[gA,Z5L]
 unfold ZG7
 by_cases hv:Z9u s=true
 ·rw[hv,if_pos rfl]
  by_cases p3:s.ph=3
  ·rw[eqT p3,if_pos (.inl p3)];rfl
  ·rw[eqF p3]
   by_cases p4:s.ph=4
   ·rw[eqT p4,if_pos (.inr p4)];rfl
   ·rw[eqF p4,if_neg (fun e=>e.elim p3 p4)];rfl
 ·rw[(Bool.not_eq_true _).mp hv];rfl
def ZGn (c:Ck):Bool:=Z9u c.so&&(aok c.em&&(decide (w64 ((c.em.length:Int)+ZG7 c.so)=c.so.inp.length)&&decide (c.em=(ZAO c.so.inp).take c.em.length)))
def Ck.B2 (c:Ck):Prop:=c.sz≤1073741800
theorem ZH6 {s:So} (h:s.B2):0≤ZG7 s∧ZG7 s≤s.inp.length:=by
 obtain⟨h1,h2,h3,h4,h5⟩:=h.b.p
 unfold ZG7
 by_cases hv:Z9u s=true
 ·rw[if_pos hv]
  by_cases hp:s.ph=3∨s.ph=4
  ·rw[if_pos hp]
   have hlp:0≤s.lp∧s.lp≤s.inp.length:=by
    simp only[Z9u,Bool.and_eq_true]at hv
    have ht:=hv.2.2.2.2.2.2
    unfold Z8r at ht
    rw[if_neg (by omega)]at ht
    simp only[Bool.and_eq_true]at ht
    have hl:=ht.2.2.2.2
    unfold Z8Q at hl
    rw[if_neg (by omega)]at hl
    by_cases p3:s.ph=3
    ·rw[if_pos p3]at hl
     simp only[Bool.and_eq_true,decide_eq_true_eq]at hl
     omega
    ·rw[if_neg p3,if_pos (by omega)]at hl
     simp only[Bool.and_eq_true,decide_eq_true_eq]at hl
     omega
   rw[Z5g ⟨by omega,by omega⟩]
   omega
  ·rw[if_neg hp];omega
 ·rw[if_neg hv];omega
theorem ZGo (c:Ck) (h:c.B2):callI tE Z7F [.sl (c.so.inp.map Rw.e),.int c.so.pos,.sl (c.so.heap.map Rw.e),.sl (c.so.dfd.map Rw.e),.sl (c.so.out.map Rw.e),.sl (c.so.runs.map rsE),.int c.so.lp,.int c.so.rp,.int c.so.ph,.int c.so.wr,.sl (c.em.map Rw.e)]=some [.bool (ZGn c)]:=by
 have hso:c.so.B2:=by simp only[Ck.B2,Ck.sz,So.B2]at*;omega
 have hem:c.em.length≤1073741824:=by simp only[Ck.B2,Ck.sz]at h;omega
 obtain⟨h1,h2,h3,h4,h5⟩:=hso.b.p
 have hr:=ZH6 hso
 rw[ZAA]
 simp only[ZCJ c.so hso,ZAX,ZIo c.so hso,ZHL c.so.inp (by omega),gA,Z5L]
 unfold ZGn
 cases Z9u c.so
 ·rfl
 ·cases aok c.em
  ·rfl
  ·simp only[cond_true,Bool.true_and]
   by_cases hq:w64 ((c.em.length:Int)+ZG7 c.so)=c.so.inp.length
   ·rw[eqT hq,decide_eq_true hq]
    rw[Z5g ⟨by omega,by omega⟩]at hq
    rw[leT (by omega),leT (by rw[Z8A];omega)]
    simp only[Bool.and_self,cond_true,ZH0,ZEz c.em _ (show c.em.length≤1152921504606846976 by omega),gA,Bool.true_and]
   ·rw[eqF hq,decide_eq_false hq];rfl
theorem ZGp (c:Ck) (h:c.B2):callI tE Z7G [.sl (c.so.inp.map Rw.e),.int c.so.pos,.sl (c.so.heap.map Rw.e),.sl (c.so.dfd.map Rw.e),.sl (c.so.out.map Rw.e),.sl (c.so.runs.map rsE),.int c.so.lp,.int c.so.rp,.int c.so.ph,.int c.so.wr,.sl (c.em.map Rw.e)]=some [.bool (ZGn c)]:=by
 have hso:c.so.B2:=by simp only[Ck.B2,Ck.sz,So.B2]at*;omega
 have hem:c.em.length≤1073741824:=by simp only[Ck.B2,Ck.sz]at h;omega
 obtain⟨h1,h2,h3,h4,h5⟩:=hso.b.p
 have hr:=ZH6 hso
 rw[ZAB]
 simp only[ZCK c.so hso,ZA6 c.em (by omega),ZIp c.so hso,ZHM c.so.inp (by omega),gA,Z5L]
 unfold ZGn
 cases Z9u c.so
 ·rfl
 ·cases aok c.em
  ·rfl
  ·simp only[Bool.not_true,cond_false,Bool.true_and]
   by_cases hq:w64 ((c.em.length:Int)+ZG7 c.so)=c.so.inp.length
   ·rw[eqT hq,decide_eq_true hq]
    rw[Z5g ⟨by omega,by omega⟩]at hq
    rw[leT (by omega),leT (by rw[Z8A];omega)]
    simp only[Bool.not_true,cond_false,Bool.and_self,cond_true,ZH0,ZFs c.em _ (show c.em.length≤1152921504606846976 by omega),gA,Bool.true_and]
   ·rw[eqF hq,decide_eq_false hq];rfl
theorem ZFC {n:Int} (h:0≤n∧n<18446744073709551616):IntKind.wrap .u64 n=n:=by
 simp only[IntKind.wrap,IntKind.signed,IntKind.bits,Bool.false_and,Bool.false_eq_true,if_false]
 omega
theorem ZG8 (n:Nat):Int.tdiv (n:Int) 10=((n/10:Nat):Int):=by rw[Int.tdiv_eq_ediv_of_nonneg (by omega)];omega
theorem ZG9 (n:Nat):Int.tmod (n:Int) 10=((n%10:Nat):Int):=by rw[Int.tmod_eq_emod_of_nonneg (by omega)];omega
theorem ZDN:∀n:Nat,n<18446744073709551616→callI tE Z7S [.int (n:Int)]=some [.str (S (dec n))]:=by
 intro n
 refine ZDh (P:=fun n=>n<18446744073709551616→callI tE Z7S [.int (n:Int)]=some [.str (S (dec n))]) (fun n h _=>?_) (fun n h ih hn=>?_) n
 ·rw[ZAq,ltT (by omega),cond_true,ZFC (by omega),ZG1,ZG2 (by omega) (by omega),ZF5 h]
  rfl
 ·rw[ZAq,ltF (by omega),cond_false,ZG8,ZG9,ZFC (by omega),ih (by omega)]
  simp only[ZDB,ZHC]
  rw[ZFC (by omega),ZG1,ZG2 (by omega) (by omega)]
  have hl:(dec (n/10)).length≤20:=(Z8K 20 _ (by omega)).mpr (by omega)
  rw[show fitS _ _=true from Z5j (by simp;omega),cond_true,Z6L,ZF6 h]
  rfl
theorem Z67 {n:Int} (h:I64 n):callI tE Z5Y [.int n]=some [.str (S (fmt n))]:=by
 obtain⟨h1,h2⟩:=h
 rw[ZC8]
 by_cases hn:n<0
 ·rw[ltT hn,cond_true]
  have e1:IntKind.wrap .u64 n=n+18446744073709551616:=by
   simp only[IntKind.wrap,IntKind.signed,IntKind.bits,Bool.false_and,Bool.false_eq_true,if_false]
   omega
  have e2:IntKind.wrap .u64 (0-(n+18446744073709551616))=(n.natAbs:Int):=by
   simp only[IntKind.wrap,IntKind.signed,IntKind.bits,Bool.false_and,Bool.false_eq_true,if_false]
   omega
  have hl:(dec n.natAbs).length≤20:=(Z8K 20 _ (by omega)).mpr (by omega)
  rw[e1,e2,ZDN _ (by omega)]
  simp only[ZDB,ZHC]
  rw[show fitS _ _=true from Z5j (by simp;omega),cond_true,Z6L,Z8v hn]
  rfl
 ·rw[ltF (by omega),cond_false,ZFC (by omega),show n=(n.natAbs:Int)by omega,ZDN _ (by omega)]
  simp only[ZDB,ZHC]
  rw[Z8w (by omega)]
  rfl
theorem ZEK (s:List UInt8) (h:s.length<4611686018427387904):callI tE Z7H [.str (S s)]=some [.int (chk s:Nat)]:=by
 rw[ZBc]
 have:=Z72 (l:=s) (L:=fun(x:Nat)=>Z6o (S s) (x:Int) (szI (S s))) (F:=fun x v=>some [Dat.int ((v.foldl ZGj x:Nat):Int)]) (I:=fun x _ _=>x<65521) (by omega) (fun u c v x e hI=>.inl ⟨ZGj x c,by
  subst e
  show Z6o _ _ _ _=_
  rw[Z8o,ZH2,ZH3,ZGd,ZF8 hI];rfl,ZEg _ _,rfl⟩) (fun x _=>by rw[Z8o,ZD7];rfl) 11 (by decide)
 exact this
theorem ZGA (s:List UInt8) (h:s.length<4611686018427387904):callI tE Z7r [.str (S s)]=some [.int (chk s:Nat)]:=by
 rw[ZBb]
 have:=Z72 (l:=s) (L:=fun(x:Nat)=>Z6n (S s) (x:Int)) (F:=fun x v=>some [Dat.int ((v.foldl ZGj x:Nat):Int)]) (I:=fun x _ _=>x<65521) (by omega) (fun u c v x e hI=>.inl ⟨ZGj x c,by
  subst e
  show Z6n _ _ _=_
  rw[Z8n,ZH2,ZH3,ZGd,Int.mul_comm,ZF8 hI];rfl,ZEg _ _,rfl⟩) (fun x _=>by rw[Z8n,ZD7];rfl) 11 (by decide)
 exact this
theorem ZCp (neg sgn:Bool):∀(d n:Nat) (s:List UInt8),n<10^d→n≤9223372036854775808→(sgn=false→n<9223372036854775808)→s.length+d≤1000→
  Z71 (if sgn then-(n:Int)else(n:Int)) (S s) neg=some [.str (S (if neg then 45::(ZEZ n++s)else ZEZ n++s))]
 |d,n,s,h,hd,hp,hs=>by
  rw[ZAW]
  by_cases h0:n=0
  ·subst h0
   rw[eqT (by split<;>rfl),ZF3]
   cases neg
   ·rfl
   ·rw[show fitS (S [45]) (S s)=true from Z5j (by simp;omega)]
    simp only[Bool.not_true,cond_false,cond_true,Z6L]
    rfl
  ·have hne:eqI (if sgn then-(n:Int)else(n:Int)) 0=false:=eqF (by split<;>omega)
   cases d with
   |zero=>exfalso;simp at h;omega
   |succ d=>
    have ih:=ZCp neg sgn d (n/10) ([dig (n%10)]++s) (by rw[Nat.pow_succ]at h;omega) (by omega) (by omega) (by simp;omega)
    have hm:n%10<10:=Nat.mod_lt _ (by decide)
    have e48:w64 (48+((n%10:Nat):Int))=48+((n%10:Nat):Int):=Z5g ⟨by omega,by omega⟩
    have hu:strOf [[.int (IntKind.wrap .u8 (48+((n%10:Nat):Int)))]]=S [dig (n%10)]:=by
     rw[ZG1,ZG2 (by omega) (by omega),Int.toNat_natCast]
    have hf:fitS (S [dig (n%10)]) (S s)=true:=Z5j (by simp;omega)
    have hfin:(if neg then 45::(ZEZ (n/10)++([dig (n%10)]++s))else ZEZ (n/10)++([dig (n%10)]++s))=(if neg then 45::(ZEZ n++s)else ZEZ n++s):=by
     rw[ZF4 h0];simp
    rw[hfin]at ih
    rw[hne,Bool.not_false,cond_true]
    cases sgn with
    |false=>
     simp only[Bool.false_eq_true,if_false]at ih⊢
     have hp':=hp rfl
     rw[ZG9,ZG8,ltF (by omega),cond_false,e48,hu,hf,cond_true,Z6L,Z5g ⟨by omega,by omega⟩]
     exact ih
    |true=>
     simp only[if_true]at ih⊢
     have t1:Int.tmod (-(n:Int)) 10= -((n%10:Nat):Int):=by rw[Int.neg_tmod,ZG9]
     have t2:Int.tdiv (-(n:Int)) 10= -((n/10:Nat):Int):=by rw[Int.neg_tdiv,ZG8]
     rw[t1,t2,Z5g (n:= -((n/10:Nat):Int)) ⟨by omega,by omega⟩]
     by_cases hz:n%10=0
     ·rw[ltF (by omega),cond_false]
      have: -((n%10:Nat):Int)=((n%10:Nat):Int):=by omega
      rw[this,e48,hu,hf,cond_true,Z6L]
      exact ih
     ·rw[ltT (by omega),cond_true,show(0:Int)- -((n%10:Nat):Int)=((n%10:Nat):Int)by omega,Z5g (n:=((n%10:Nat):Int)) ⟨by omega,by omega⟩,e48,hu,hf,cond_true,Z6L]
      exact ih
theorem Z6I {n:Int} (h:I64 n):callI tE Z5N [.int n]=some [.str (S (fmt n))]:=by
 obtain⟨h1,h2⟩:=h
 rw[ZC6]
 by_cases h0:n=0
 ·subst h0;rfl
 ·rw[eqF h0,cond_false]
  by_cases hn:n<0
  ·have:=ZCp true true 20 n.natAbs [] (by omega) (by omega) (by simp) (by simp)
   simp only[if_true,List.append_nil]at this
   rw[show-((n.natAbs:Nat):Int)=n by omega]at this
   rw[ltT hn,this,Z8v hn,ZBl (by omega)]
  ·have:=ZCp false false 20 n.natAbs [] (by omega) (by omega) (by omega) (by simp)
   simp only[Bool.false_eq_true,if_false,List.append_nil]at this
   rw[show((n.natAbs:Nat):Int)=n by omega]at this
   rw[ltF (by omega),this,Z8w (by omega),ZBl (by omega)]
theorem ZEL {n:Nat} {k:Nat} (h:n<10^k) (hk:k≤9):n<1000000000:=Nat.lt_of_lt_of_le h (Nat.le_trans (Nat.pow_le_pow_right (by decide) hk) (by decide))
theorem ZHS {s:List UInt8} {n:Int} (hn:n.natAbs<1000000000) (hs:∀m:Int,fmt m=s→m.natAbs<1000000000→m=n):(bif !decide (fmt n=s)then some [Dat.int 0,.bool false]else some [.int n,.bool true])=some (pI s):=by
 unfold pI
 by_cases h:fmt n=s
 ·rw[Z9b.mpr ⟨h,hn⟩,decide_eq_true h];rfl
 ·rw[decide_eq_false h,ZCl.mpr (fun m h1 h2=>h (by rw[←hs m h1 h2];exact h1))];rfl
theorem ZCq {s:List UInt8} (hs:∀m:Int,fmt m=s→¬m.natAbs<1000000000):some [Dat.int 0,.bool false]=some (pI s):=by
 unfold pI
 rw[ZCl.mpr hs]
theorem ZC0 {u:List UInt8} (h:u.all ZA1=true) (hl:u.length≤9):ZEf u<1000000000:=ZEL (ZDi u h) hl
theorem ZCr (s d:List UInt8) (neg:Bool) (hd:s=if neg then 45::d else d) (hl:1≤d.length∧d.length≤9) (h45:neg=false→d.head?≠some 45):Z5d (S s) (S d) 0 (szI (S d)) 0=some (pI s):=by
 have huniq:∀m:Int,fmt m=s→d=dec m.natAbs∧(neg=true↔m<0):=fun m hm=>by
  cases neg with
  |true=>
   simp only[if_true]at hd
   by_cases h0:m<0
   ·rw[Z8v h0,hd]at hm
    exact⟨(List.cons.inj hm).2.symm,by simp[h0]⟩
   ·rw[Z8w (by omega),hd]at hm
    exact absurd (by rw[hm];rfl) (ZBL m.natAbs)
  |false=>
   simp only[Bool.false_eq_true,if_false]at hd
   by_cases h0:m<0
   ·rw[Z8v h0,hd]at hm
    exact absurd (by rw[←hm];rfl) (h45 rfl)
   ·rw[Z8w (by omega),hd]at hm
    exact⟨hm.symm,by simp;omega⟩
 have hfin:∀n:Nat,d.all ZA1=true→n=ZEf d→(bif(ltI (szI (S d)) (szI (S s)))then(((callI tE Z5Y [(.int (w64 (0-(n:Int))))])).bind (fun r0=>(bif(!(eqS (gs r0) (S s)))then(some [(.int 0),(.bool Bool.false)])else(some [(.int (w64 (0-(n:Int)))),(.bool Bool.true)]))))else(((callI tE Z5Y [(.int (n:Int))])).bind (fun r0=>(bif(!(eqS (gs r0) (S s)))then(some [(.int 0),(.bool Bool.false)])else(some [(.int (n:Int)),(.bool Bool.true)])))))=some (pI s):=fun n ha hn=>by
  have hv:=ZC0 ha hl.2
  have hw:w64 (0-(n:Int))= -(n:Int):=by rw[Z5g ⟨by omega,by omega⟩];omega
  rw[Z6A,Z6A,hw,Z67 ⟨by omega,by omega⟩,Z67 ⟨by omega,by omega⟩]
  simp only[ZDB,ZHC,ZHN]
  cases neg with
  |true=>
   simp only[if_true]at hd
   rw[ltT (by rw[hd];simp only[List.length_cons];omega),cond_true]
   refine ZHS (by omega) fun m hm _=>?_
   obtain⟨q1,q2⟩:=huniq m hm
   have:m<0:=q2.mp rfl
   rw[hn,q1,ZAP];omega
  |false=>
   simp only[Bool.false_eq_true,if_false]at hd
   rw[ltF (by rw[hd];omega),cond_false]
   refine ZHS (by omega) fun m hm _=>?_
   obtain⟨q1,q2⟩:=huniq m hm
   have:¬m<0:=fun h=>by have:=q2.mpr h;cases this
   rw[hn,q1,ZAP];omega
 have:=Z72 (l:=d) (L:=fun(n:Nat)=>Z5d (S s) (S d) (n:Int) (szI (S d))) (F:=fun _ _=>some (pI s)) (I:=fun n u _=>u.all ZA1=true∧n=ZEf u) (by omega) (fun u c v n e hI=>by
  obtain⟨ha,hn⟩:=hI
  have hul:u.length≤9:=by have:=hl.2;rw[e]at this;simp at this;omega
  have hv:=ZC0 ha hul
  have hc0:=ZG4 c
  have step:Z5d (S s) (S d) (n:Int) (szI (S d)) u.length=if ZA1 c then Z5d (S s) (S d) ((ZEC n c:Nat):Int) (szI (S d)) (w64 (u.length+1))else some [.int 0,.bool false]:=by
   rw[Z9N]
   subst e
   rw[ZH2,ZH3,ZGd]
   by_cases h1:c.toNat<48
   ·rw[ltT (by omega),if_neg (by rw[ZAD];omega)];rfl
   ·rw[ltF (by omega)]
    by_cases h2:57<c.toNat
    ·rw[ltT (a:=57) (by omega),if_neg (by rw[ZAD];omega)];rfl
    ·rw[ltF (b:=(c.toNat:Int)) (by omega),ZH4 (by omega) (by omega),if_pos (ZAD.mpr (by omega))];rfl
  by_cases hc:ZA1 c=true
  ·refine .inl ⟨ZEC n c,?_,⟨by simp[ha,hc],by rw[ZCk,hn];rfl⟩,rfl⟩
   show Z5d _ _ _ _ _=_
   rw[step,if_pos hc]
  ·refine .inr ?_
   show Z5d _ _ _ _ _=_
   rw[step,if_neg hc]
   refine ZCq fun m hm hb=>hc ?_
   obtain⟨q1,_⟩:=huniq m hm
   have:=Z9V m.natAbs
   rw[←q1,e]at this
   exact List.all_eq_true.mp this c (by simp)) (fun n hI=>by
  show Z5d _ _ _ _ _=_
  rw[Z9N,ZD7,cond_false]
  exact hfin n hI.1 hI.2) 0 ⟨rfl,rfl⟩
 exact this
theorem ZGq (c:UInt8) (s:List UInt8):ext (S (c::s)) (tn 1) (ByteArray.size (S (c::s)))=S s:=by
 rw[ZEA,ZI0]
 congr 1
 show List.drop 1 _=_
 simp
theorem ZGB (s:List UInt8) (hs:s.length<4611686018427387904):callI tE Z7D [.str (S s)]=some (pI s):=by
 rw[ZCR]
 have plain:∀t:List UInt8,t=s→s.head?≠some 45→(bif(ltI (szI (S s)) 1)then(some [(Dat.int 0),(.bool Bool.false)])else(bif(ltI 9 (szI (S s)))then(some [(.int 0),(.bool Bool.false)])else(Z5d (S s) (S s) 0 (szI (S s)) 0)))=some (pI s):=fun t ht h45=>by
  rw[Z6A]
  have key:∀m:Int,fmt m=s→m.natAbs<1000000000→1≤s.length∧s.length≤9:=fun m hm hb=>by
   by_cases h0:m<0
   ·rw[Z8v h0]at hm
    exact absurd (by rw[←hm];rfl) h45
   ·rw[Z8w (by omega)]at hm
    have h9:(dec m.natAbs).length≤9:=(Z8K 9 _ (by omega)).mpr (by omega)
    have h1:dec m.natAbs≠[]:=ZH1 _
    rw[hm]at h9 h1
    exact⟨by cases s<;>simp_all,h9⟩
  by_cases h1:s.length<1
  ·rw[ltT (by omega),cond_true]
   exact ZCq fun m hm hb=>by have:=key m hm hb;omega
  ·rw[ltF (by omega),cond_false]
   by_cases h2:9<s.length
   ·rw[ltT (by omega),cond_true]
    exact ZCq fun m hm hb=>by have:=key m hm hb;omega
   ·rw[ltF (by omega),cond_false]
    have:=ZCr s s false rfl ⟨by omega,by omega⟩ (fun _=>h45)
    rw[Z6A]at this
    exact this
 cases s with
 |nil=>exact plain _ rfl (by simp)
 |cons c d=>
  rw[ltT (b:=szI (S (c::d))) (by rw[Z6A];simp only[List.length_cons];omega),ZDZ (by omega) (by rw[Z6A];simp only[List.length_cons];omega),show byteAt (S (c::d)) 0=(c.toNat:Int)from ZGd [] d c]
  simp only[cond_true]
  by_cases hc:c=45
  ·subst hc
   rw[eqT (by rfl),cond_true,leT (by omega),leT (by rw[Z6A];simp only[List.length_cons];omega),ZGq]
   simp only[Bool.and_self,cond_true]
   have key:∀m:Int,fmt m=45::d→m.natAbs<1000000000→1≤d.length∧d.length≤9:=fun m hm hb=>by
    by_cases h0:m<0
    ·rw[Z8v h0]at hm
     have hm:=(List.cons.inj hm).2
     have h9:(dec m.natAbs).length≤9:=(Z8K 9 _ (by omega)).mpr (by omega)
     have h1:dec m.natAbs≠[]:=ZH1 _
     rw[hm]at h9 h1
     exact⟨by cases d<;>simp_all,h9⟩
    ·rw[Z8w (by omega)]at hm
     exact absurd (by rw[hm];rfl) (ZBL m.natAbs)
   rw[Z6A]
   by_cases h1:d.length<1
   ·rw[ltT (by omega),cond_true]
    exact ZCq fun m hm hb=>by have:=key m hm hb;omega
   ·rw[ltF (by omega),cond_false]
    by_cases h2:9<d.length
    ·rw[ltT (by omega),cond_true]
     exact ZCq fun m hm hb=>by have:=key m hm hb;omega
    ·rw[ltF (by omega),cond_false]
     have:=ZCr (45::d) d true rfl ⟨by omega,by omega⟩ (fun h=>by cases h)
     rw[Z6A]at this
     exact this
  ·rw[show eqI (c.toNat:Int) 45=false from(ZBz c 45).trans (decide_eq_false hc),cond_false]
   exact plain _ rfl (by simpa using hc)
def flt (s:List UInt8):List UInt8:=s.filter ZA1
theorem ZGC (s:List UInt8):(flt s).all ZA1=true:=by simp[flt]
theorem ZGD (s:List UInt8) (hs:s.length<4611686018427387904):callI tE Z7E [.str (S s)]=some (pI s):=by
 rw[ZCS]
 have hfl:∀u:List UInt8,(flt u).length≤u.length:=fun u=>List.length_filter_le _ _
 have hfin:∀(i:Int) (n k:Nat),n=ZEf (flt (s.take 11))→k=(flt (s.take 11)).length→(ltI i (szI (S s))=false∨ltI i (szI (S s))=true∧ltI i 11=false)→Z5e (S s) (n:Int) (k:Int) i=some (pI s):=fun i n k hn hk hi=>by
  have hkl:k≤11:=by have:=hfl (s.take 11);simp at this;omega
  have hv:=ZDi _ (ZGC (s.take 11))
  rw[←hn,←hk]at hv
  have hv11:n<100000000000:=Nat.lt_of_lt_of_le hv (Nat.le_trans (Nat.pow_le_pow_right (by decide) hkl) (by decide))
  have hw:w64 (0-(n:Int))= -(n:Int):=by rw[Z5g ⟨by omega,by omega⟩];omega
  have huniq:∀m:Int,fmt m=s→m.natAbs<1000000000→k≤9∧s.length≤10∧n=m.natAbs:=fun m hm hb=>by
   have h9:(dec m.natAbs).length≤9:=(Z8K 9 _ (by omega)).mpr (by omega)
   have hd:flt (dec m.natAbs)=dec m.natAbs:=List.filter_eq_self.mpr (fun c hc=>List.all_eq_true.mp (Z9V _) c hc)
   by_cases h0:m<0
   ·rw[Z8v h0]at hm
    have ht:s.take 11=s:=List.take_of_length_le (by rw[←hm];simp;omega)
    have hf:flt s=dec m.natAbs:=by rw[←hm];show flt (45::_)=_;rw[flt,List.filter_cons_of_neg (by decide)];exact hd
    rw[ht,hf]at hn hk
    refine⟨by omega,by rw[←hm];simp;omega,by rw[hn,ZAP]⟩
   ·rw[Z8w (by omega)]at hm
    have ht:s.take 11=s:=List.take_of_length_le (by rw[←hm];omega)
    rw[ht,←hm,hd]at hn hk
    refine⟨by omega,by rw[←hm];omega,by rw[hn,ZAP]⟩
  have tail:∀x:Int,I64 x→x.natAbs=n→(∀m:Int,fmt m=s→m.natAbs<1000000000→m=x)→(bif(ltI 9 (k:Int))then(some [(Dat.int 0),(.bool Bool.false)])else(bif(ltI 10 (szI (S s)))then(some [(.int 0),(.bool Bool.false)])else(((callI tE Z5N [(.int x)])).bind (fun r0=>(bif(!(eqS (gs r0) (S s)))then(some [(.int 0),(.bool Bool.false)])else(some [(.int x),(.bool Bool.true)]))))))=some (pI s):=fun x hx hxn hu=>by
   by_cases h1:9<k
   ·rw[ltT (by omega),cond_true]
    exact ZCq fun m hm hb=>by have:=huniq m hm hb;omega
   ·rw[ltF (by omega),cond_false,Z6A]
    by_cases h2:10<s.length
    ·rw[ltT (by omega),cond_true]
     exact ZCq fun m hm hb=>by have:=huniq m hm hb;omega
    ·rw[ltF (by omega),cond_false,Z6I hx]
     simp only[ZDB,ZHC,ZHN]
     exact ZHS (by rw[hxn];exact ZEL hv (by omega)) hu
  have pos:(s.head?≠some 45)→∀m:Int,fmt m=s→m.natAbs<1000000000→m=(n:Int):=fun h45 m hm hb=>by
   have:=huniq m hm hb
   by_cases h0:m<0
   ·rw[Z8v h0]at hm
    exact absurd (by rw[←hm];rfl) h45
   ·omega
  have e:Z5e (S s) (n:Int) (k:Int) i=(bif(ltI 0 (szI (S s)))then(bif(inR 0 (szI (S s)))then(bif(eqI (byteAt (S s) 0) 45)then(bif(ltI 9 (k:Int))then(some [(.int 0),(.bool Bool.false)])else(bif(ltI 10 (szI (S s)))then(some [(.int 0),(.bool Bool.false)])else(((callI tE Z5N [(.int (w64 (0-(n:Int))))])).bind (fun r0=>(bif(!(eqS (gs r0) (S s)))then(some [(.int 0),(.bool Bool.false)])else(some [(.int (w64 (0-(n:Int)))),(.bool Bool.true)]))))))else(bif(ltI 9 (k:Int))then(some [(Dat.int 0),(.bool Bool.false)])else(bif(ltI 10 (szI (S s)))then(some [(.int 0),(.bool Bool.false)])else(((callI tE Z5N [(.int (n:Int))])).bind (fun r0=>(bif(!(eqS (gs r0) (S s)))then(some [(.int 0),(.bool Bool.false)])else(some [(.int (n:Int)),(.bool Bool.true)])))))))else none)else(bif(ltI 9 (k:Int))then(some [(Dat.int 0),(.bool Bool.false)])else(bif(ltI 10 (szI (S s)))then(some [(.int 0),(.bool Bool.false)])else(((callI tE Z5N [(.int (n:Int))])).bind (fun r0=>(bif(!(eqS (gs r0) (S s)))then(some [(.int 0),(.bool Bool.false)])else(some [(.int (n:Int)),(.bool Bool.true)]))))))):=by
   rw[Z9O]
   rcases hi with hi|⟨hi,hi2⟩
   ·rw[hi];rfl
   ·rw[hi,hi2];rfl
  rw[e]
  cases s with
  |nil=>exact tail n ⟨by omega,by omega⟩ (by omega) (pos (by simp))
  |cons c d=>
   rw[ltT (b:=szI (S (c::d))) (by rw[Z6A];simp only[List.length_cons];omega),ZDZ (by omega) (by rw[Z6A];simp only[List.length_cons];omega),show byteAt (S (c::d)) 0=(c.toNat:Int)from ZGd [] d c]
   simp only[cond_true]
   by_cases hc:c=45
   ·subst hc
    rw[eqT (by rfl),cond_true,hw]
    refine tail _ ⟨by omega,by omega⟩ (by omega) fun m hm hb=>?_
    have:=huniq m hm hb
    by_cases h0:m<0
    ·omega
    ·rw[Z8w (by omega)]at hm
     exact absurd (by rw[hm];rfl) (ZBL m.natAbs)
   ·rw[show eqI (c.toNat:Int) 45=false from(ZBz c 45).trans (decide_eq_false hc),cond_false]
    exact tail n ⟨by omega,by omega⟩ (by omega) (pos (by simpa using hc))
 have hsplit:s=s.take 11++s.drop 11:=(List.take_append_drop 11 s).symm
 have htl:(s.take 11).length≤11:=by simp;omega
 have:=Z72 (l:=s.take 11) (L:=fun(p:Nat×Nat)=>Z5e (S s) (p.1:Int) (p.2:Int)) (F:=fun _ _=>some (pI s)) (I:=fun p u _=>p.1=ZEf (flt u)∧p.2=(flt u).length) (by omega) (fun u c v p e hI=>by
  obtain⟨n,k⟩:=p
  obtain⟨hn,hk⟩:=hI
  simp only at hn hk
  have hs':s=u++c::(v++s.drop 11):=by
   have h0:=hsplit
   rw[e,List.append_assoc,List.cons_append]at h0
   exact h0
  have hul:u.length<11:=by have:=htl;rw[e]at this;simp at this;omega
  have hkl:k≤u.length:=by rw[hk];exact hfl u
  have hv:=ZDi _ (ZGC u)
  rw[←hn,←hk]at hv
  have hv11:n<100000000000:=Nat.lt_of_lt_of_le hv (Nat.le_trans (Nat.pow_le_pow_right (by decide) (show k≤11 by omega)) (by decide))
  have hc0:=ZG4 c
  have step:Z5e (S s) (n:Int) (k:Int) u.length=if ZA1 c then Z5e (S s) ((ZEC n c:Nat):Int) ((k+1:Nat):Int) (w64 (u.length+1))else Z5e (S s) (n:Int) (k:Int) (w64 (u.length+1)):=by
   rw[Z9O,hs',ZH2,ZH3,ZGd,ltT (by omega)]
   by_cases h1:c.toNat<48
   ·rw[leF (by omega),if_neg (by rw[ZAD];omega)];rfl
   ·rw[leT (a:=48) (by omega)]
    by_cases h2:57<c.toNat
    ·rw[leF (a:=(c.toNat:Int)) (by omega),if_neg (by rw[ZAD];omega)];rfl
    ·rw[leT (a:=(c.toNat:Int)) (by omega),ZHP hv11 (by omega),if_pos (ZAD.mpr (by omega)),Z7k (i:=k) (by omega)];rfl
  by_cases hc:ZA1 c=true
  ·refine .inl ⟨(ZEC n c,k+1),?_,⟨?_,?_⟩,rfl⟩
   ·show Z5e _ _ _ _=_
    rw[step,if_pos hc]
   ·show ZEC n c=ZEf (flt (u++[c]))
    rw[flt,List.filter_append,List.filter_cons_of_pos hc,List.filter_nil,ZCk,hn];rfl
   ·show k+1=(flt (u++[c])).length
    rw[flt,List.filter_append,List.filter_cons_of_pos hc,List.filter_nil,List.length_append,hk];rfl
  ·refine .inl ⟨(n,k),?_,⟨?_,?_⟩,rfl⟩
   ·show Z5e _ _ _ _=_
    rw[step,if_neg hc]
   ·show n=ZEf (flt (u++[c]))
    rw[flt,List.filter_append,List.filter_cons_of_neg hc,List.filter_nil,List.append_nil,hn];rfl
   ·show k=(flt (u++[c])).length
    rw[flt,List.filter_append,List.filter_cons_of_neg hc,List.filter_nil,List.append_nil,hk];rfl) (fun p hI=>by
  obtain⟨n,k⟩:=p
  refine hfin _ n k hI.1 hI.2 ?_
  by_cases h:s.length≤11
  ·left;rw[List.take_of_length_le h];exact ZD7 s
  ·right;exact⟨ltT (by rw[Z6A,List.length_take];omega),ltF (by rw[List.length_take];omega)⟩) (0,0) ⟨rfl,rfl⟩
 exact this
theorem ZEi (u cur v:List UInt8):ext (S (u++cur++v)) u.length (u++cur).length=S cur:=by
 rw[ZI0]
 congr 1
 rw[List.append_assoc,←List.append_assoc u cur v,List.take_left' rfl,List.drop_left' rfl]
theorem ZDl (l:List (List UInt8)) (x:List UInt8):List.append (l.map StE) [[Dat.str (S x)]]=(l++[x]).map StE:=by simp[StE]
theorem ZEj (b:List UInt8) (u:List (List UInt8)) (x:List UInt8):Z8k b (u++[x])=if u=[]then x else Z8k b u++b++x:=by
 split
 ·rename_i h;subst h;rfl
 ·rename_i h;exact ZDM b u x h
theorem ZEk (b:List UInt8) (l:List (List UInt8)) (hl:l.length<4611686018427387904) (h:(l.map fun x=>x.length+b.length).sum<4611686018427387904):callI tE Z7p [.sl (l.map StE),.str (S b)]=some [.str (S (Z8k b l))]:=by
 rw[ZDW]
 have:=Z72 (l:=l) (L:=fun s i=>Z6X (S b) (S s) (l.map StE) (lenI (l.map StE)) i) (F:=fun _ _=>some [.str (S (Z8k b l))]) (I:=fun s u _=>s=Z8k b u) (by omega) (fun u x v s e hI=>by
  refine .inl ⟨Z8k b (u++[x]),?_,rfl,rfl⟩
  show Z6X _ _ _ _ _=Z6X _ _ _ _ _
  have hb:(Z8k b u).length+(x.length+b.length)<4611686018427387904:=by
   have:=ZBM b u
   rw[e]at h
   simp only[List.map_append,List.map_cons,List.sum_append,List.sum_cons]at h
   omega
  subst e
  rw[Z9p,ZEj,hI]
  simp only[ZDD,ZDz,Z84,ZDC,cond_true,StE,ZHC]
  by_cases hu:u=[]
  ·subst hu
   rw[if_pos rfl,ltF (by simp),cond_false,Z5j (by simp[Z8k];omega),Z6L]
   rfl
  ·have hul:0<u.length:=List.length_pos_iff.mpr hu
   rw[if_neg hu,ltT (by omega),Z5j (by omega),Z6L,Z5j (by rw[List.length_append];omega),Z6L]
   rfl) (fun s hs=>by
  show Z6X _ _ _ _ _=_
  rw[Z9p,ZDE,cond_false,hs]) [] rfl
 exact this
section
variable {α:Type}
end
theorem ZBN {b:UInt8} (hb:ZA1 b=false) (h45:b≠45) (n:Int):b∉fmt n:=fun h=>by
 rcases ZED b h with h|h
 ·rw[hb]at h;cases h
 ·exact h45 h
noncomputable def num (s:List UInt8):Int:=(ZAr s).getD 0
noncomputable def isN (s:List UInt8):Bool:=(ZAr s).isSome
theorem ZI5 (s:List UInt8):pI s=[.int (num s),.bool (isN s)]:=by
 unfold pI num isN
 cases ZAr s<;>rfl
theorem ZGE {s:List UInt8} (h:isN s=true):fmt (num s)=s∧(num s).natAbs<1000000000:=by
 unfold isN at h
 cases hp:ZAr s with
 |none=>rw[hp]at h;cases h
 |some n=>
  have:=Z9b.mp hp
  unfold num
  rw[hp]
  exact this
theorem ZHT {n:Int} (h:n.natAbs<1000000000):num (fmt n)=n∧isN (fmt n)=true:=by
 unfold num isN;rw[ZFX h];exact⟨rfl,rfl⟩
def ZE0 (r:Rw):List UInt8:=if r.ok then Z8k [46] [fmt r.k,fmt r.v,fmt r.w]else[]
theorem ZGF {r:Rw} (h:r.ok=true):ZE0 r=Z8k [46] [fmt r.k,fmt r.v,fmt r.w]:=if_pos h
theorem ZFD {r:Rw} (h:r.ok=false):ZE0 r=[]:=if_neg (by simp[h])
theorem ZGG {r:Rw} (h:r.ok=true):I64 r.k∧I64 r.v∧I64 r.w∧r.k.natAbs<1000000000∧r.v.natAbs<1000000000∧r.w.natAbs<1000000000:=by
 have:=Rw.ok_iff.mp h
 exact⟨⟨by omega,by omega⟩,⟨by omega,by omega⟩,⟨by omega,by omega⟩,by omega,by omega,by omega⟩
theorem ZEl (b x y z:List UInt8):Z8k b [x,y,z]=x++b++y++b++z:=by simp[Z8k]
theorem ZFE (r:Rw):(ZE0 r).length≤62:=by
 unfold ZE0
 split
 ·rename_i h
  obtain⟨h1,h2,h3,_⟩:=ZGG h
  have a1:=Z6D h1
  have a2:=Z6D h2
  have a3:=Z6D h3
  rw[ZEl];simp;omega
 ·simp
theorem ZFa (r:Rw):callI tE Z9E [.int r.k,.int r.v,.int r.w]=some [.str (S (ZE0 r))]:=by
 simp only[ZC9,ZCX,gA]
 cases h:r.ok
 ·rw[ZFD h];rfl
 ·obtain⟨h1,h2,h3,_⟩:=ZGG h
  have a1:=Z6D h1
  have a2:=Z6D h2
  have a3:=Z6D h3
  simp only[Bool.not_true,cond_false,Z67 h1,Z67 h2,Z67 h3,gA]
  rw[Z5j (by simp;omega),Z6L,Z5j (by simp;omega),Z6L,Z5j (by simp;omega),Z6L,Z5j (by simp;omega),Z6L,ZGF h,ZEl]
  rfl
theorem ZFb (r:Rw):callI tE Z8D [.int r.k,.int r.v,.int r.w]=some [.str (S (ZE0 r))]:=by
 simp only[ZC7,ZCY,gA]
 cases h:r.ok
 ·rw[ZFD h];rfl
 ·obtain⟨h1,h2,h3,_⟩:=ZGG h
  have a1:=Z6D h1
  have a2:=Z6D h2
  have a3:=Z6D h3
  simp only[Bool.not_true,cond_false,Z6I h1,Z6I h2,Z6I h3,gA]
  rw[Z5j (by simp;omega),Z6L,Z5j (by simp;omega),Z6L,Z5j (by simp;omega),Z6L,Z5j (by simp;omega),Z6L,ZGF h,ZEl]
  rfl
def ZDm (l:List Rw):List UInt8:=Z8k [32] (l.map ZE0)
def Z9e (l:List Rw):List UInt8:=if aok l then ZDm l else[]
theorem ZBO {l:List Rw} (h:aok l=true):Z9e l=ZDm l:=if_pos h
theorem ZEM {l:List Rw} (h:aok l=false):Z9e l=[]:=if_neg (by simp[h])
theorem ZGH (l:List Rw):((l.map ZE0).map fun x=>x.length+[(32:UInt8)].length).sum≤63*l.length:=by
 induction l with
 |nil=>simp
 |cons a l ih=>
  have:=ZFE a
  simp only[List.map_cons,List.sum_cons,List.length_cons,List.length_nil]at ih⊢
  omega
theorem ZEN (l:List Rw):(ZDm l).length≤63*l.length:=Nat.le_trans (ZBM _ _) (ZGH l)
theorem Z66 (l:List Rw):(Z9e l).length≤1512:=by
 unfold Z9e
 split
 ·rename_i h;have:=Z85 h;have:=ZEN l;omega
 ·simp
theorem ZHU (u:List (List UInt8)) (r:Rw):List.append (u.map StE) [[Dat.str (S (ZE0 r))]]=(u++[ZE0 r]).map StE:=by simp[StE]
theorem ZHV {l:List Rw} (h:l.length<1099511627776):((l.map ZE0).map fun x=>x.length+[(32:UInt8)].length).sum<4611686018427387904:=by
 have:=ZGH l;omega
theorem ZBP (l:List Rw) (h:l.length<1099511627776):callI tE Z6m [.sl (l.map Rw.e)]=some [.str (S (ZDm l))]:=by
 rw[ZCQ]
 have:=Z72 (l:=l) (L:=fun(s:List (List UInt8)) i=>Z6Q (l.map Rw.e) (lenI (l.map Rw.e)) i (s.map StE)) (F:=fun _ _=>some [.str (S (ZDm l))]) (I:=fun s u _=>s=u.map ZE0) (by omega) (fun u r v s e hI=>by
  have hul:u.length<1099511627776:=by rw[e]at h;simp at h;omega
  refine .inl ⟨(u++[r]).map ZE0,?_,rfl,rfl⟩
  show Z6Q _ _ _ _=Z6Q _ _ _ _
  subst e
  rw[Z9M,hI]
  simp only[ZDD,ZDz,Z84,ZDC,cond_true,Rw.e,gA,ZFa,Z5l]
  rw[show fitM (Nat.succ (u.map ZE0).length) 16=true from Z9C (by simp;omega),ZHU]
  simp) (fun s hs=>by
  show Z6Q _ _ _ _=_
  rw[Z9M,ZDE,cond_false,hs,ZEk [32] (l.map ZE0) (by simp;omega) (ZHV h)];rfl) [] rfl
 exact this
theorem ZB6 (l:List Rw):callI tE Z7C [.sl (l.map Rw.e)]=some [.str (S (Z9e l))]:=by
 simp only[ZBa,ZAX,gA]
 cases h:aok l
 ·rw[ZEM h];rfl
 ·have:=Z85 h
  rw[Bool.not_true,cond_false,ZBP l (by omega),ZBO h];rfl
theorem Z8y (l:List Rw) (h:l.length<1099511627776):callI tE Z5n [.sl (l.map Rw.e)]=some [.str (S (Z9e l))]:=by
 rw[ZBZ]
 cases hok:aok l
 ·rw[ZEM hok,Z7V,ZA6 l (by omega),hok]
  cases ltI 0 (lenI (l.map Rw.e))<;>rfl
 ·rw[ZBO hok]
  have:=Z72 (l:=l) (L:=fun s i=>Z5s (l.map Rw.e) (S s) i) (F:=fun _ _=>some [.str (S (ZDm l))]) (I:=fun s u _=>s=ZDm u) (by omega) (fun u r v s e hI=>by
   refine .inl ⟨ZDm (u++[r]),?_,rfl,rfl⟩
   show Z5s _ _ _=Z5s _ _ _
   have hul:u.length<1099511627776:=by rw[e]at h;simp at h;omega
   have l1:=ZEN u
   have l2:=ZFE r
   rw[Z7V,ZA6 l (by omega),hok]
   subst e
   simp only[ZDD,ZDz,Z84,ZDC,cond_true,Rw.e,gA,ZFb,hI]
   unfold ZDm at*
   have e1:(u++[r]).map ZE0=u.map ZE0++[ZE0 r]:=by simp
   rw[e1,ZEj]
   by_cases hu:u=[]
   ·subst hu
    rw[if_pos (by rfl),ltF (by simp),cond_false,Z5j (by simp[Z8k];omega),Z6L];rfl
   ·have hul:0<u.length:=List.length_pos_iff.mpr hu
    rw[if_neg (by simpa using hu),ltT (by omega),Z5j (by simp;omega),Z6L,Z5j (by simp;omega),Z6L];rfl) (fun s hs=>by
   show Z5s _ _ _=_
   rw[Z7V,ZDE,cond_false,hs]) [] rfl
  exact this
theorem ZDn {b:UInt8} {c:Nat}:∀{l:List (List UInt8)},(∀x∈l,x.length≤c)→(l.map fun x=>x.length+[b].length).sum≤(c+1)*l.length
 |[],_=>by simp
 |x::l,h=>by
  have h1:=h x (by simp)
  have ih:=ZDn (b:=b) (l:=l) (fun y hy=>h y (by simp[hy]))
  simp only[List.map_cons,List.sum_cons,List.length_cons,List.length_nil]at ih⊢
  rw[Nat.mul_add];omega
theorem ZGI {b:UInt8} {c:Nat} {l:List (List UInt8)} (h:∀x∈l,x.length≤c):(Z8k [b] l).length≤(c+1)*l.length:=Nat.le_trans (ZBM _ _) (ZDn h)
def Z8i (l:List (List Rw)):List UInt8:=Z8k [124] (l.map Z9e)
theorem ZFF (l:List (List Rw)):∀x∈l.map Z9e,x.length≤1512:=fun x hx=>by
 obtain⟨r,_,rfl⟩:=List.mem_map.mp hx
 exact Z66 r
theorem Z9f (l:List (List Rw)):(Z8i l).length≤1513*l.length:=by have:=ZGI (b:=124) (ZFF l);simpa[Z8i]using this
theorem ZEm (l:List (List Rw)) (h:Z9d l):callI tE Z7q [.sl (l.map rsE)]=some [.str (S (Z8i l))]:=by
 have hl:=Z7W List.length l
 unfold Z9d at h
 rw[ZBk]
 have hj:=ZDn (b:=124) (ZFF l)
 rw[List.length_map]at hj
 have:=Z72 (l:=l) (L:=fun(s:List (List UInt8)) i=>Z69 (l.map rsE) (lenI (l.map rsE)) i (s.map StE)) (F:=fun _ _=>some [.str (S (Z8i l))]) (I:=fun s u _=>s=u.map Z9e) (by omega) (fun u a v s e hI=>by
  have hul:u.length<1099511627776:=by rw[e]at hl;simp at hl;rw[e]at h;omega
  refine .inl ⟨(u++[a]).map Z9e,?_,rfl,rfl⟩
  show Z69 _ _ _ _=Z69 _ _ _ _
  have hf:fitM (Nat.succ u.length) 16=true:=Z9C (by omega)
  subst e
  rw[Z8q,hI]
  simp only[ZDD,ZDz,Z84,ZDC,cond_true,rsE,gA,ZB6,Z5l]
  rw[List.length_map,hf,cond_true,ZDl]
  simp) (fun s hs=>by
  show Z69 _ _ _ _=_
  rw[Z8q,ZDE,cond_false,hs,ZEk [124] (l.map Z9e) (by simp;omega) (by omega)];rfl) [] rfl
 exact this
theorem ZEn (l:List (List Rw)) (h:Z9d l):callI tE Z7o [.sl (l.map rsE)]=some [.str (S (Z8i l))]:=by
 have hl:=Z7W List.length l
 unfold Z9d at h
 rw[ZBj]
 have:=Z72 (l:=l) (L:=fun s i=>Z5t (l.map rsE) (S s) i) (F:=fun _ _=>some [.str (S (Z8i l))]) (I:=fun s u _=>s=Z8i u) (by omega) (fun u a v s e hI=>by
  have hul:u.length<1099511627776:=by rw[e]at hl;simp at hl;rw[e]at h;omega
  have ha:a.length≤1073741824:=Nat.le_trans (Z8h (by rw[e];simp)) h
  have l0:=Z9f u
  have l1:=Z66 a
  refine .inl ⟨Z8i (u++[a]),?_,rfl,rfl⟩
  show Z5t _ _ _=Z5t _ _ _
  have ej:Z8i (u++[a])=if u=[]then Z9e a else Z8i u++[124]++Z9e a:=by
   unfold Z8i
   rw[List.map_append,List.map_cons,List.map_nil,ZEj]
   simp
  subst e
  rw[Z8p,hI,ej]
  simp only[ZDD,ZDz,Z84,ZDC,cond_true,rsE,gA,Z8y a (show a.length<1099511627776 by omega)]
  by_cases hu:u=[]
  ·have e0:Z8i u=[]:=by rw[hu];rfl
   rw[if_pos hu,ltF (by simp[hu]),e0,cond_false,Z5j (by simp;omega),Z6L]
   rfl
  ·have hul:0<u.length:=List.length_pos_iff.mpr hu
   rw[if_neg hu,ltT (by omega),cond_true,Z5j (by simp;omega),Z6L,cond_true,Z5j (by simp;omega),Z6L,cond_true]) (fun s hs=>by
  show Z5t _ _ _=_
  rw[Z8p,ZDE,cond_false,hs]) [] rfl
 exact this
theorem Z7z:∀(n:Nat) (a b:List Rw),a.length+b.length=n→(mrg a b).Perm (a++b)
 |_,[],b,_=>by rw[Z8x];exact List.Perm.refl _
 |_,x::a,[],_=>by rw[Z9U];simp
 |0,x::a,y::b,h=>by simp at h
 |n+1,x::a,y::b,h=>by
  simp only[List.length_cons]at h
  rw[ZCn]
  split
  ·exact(Z7z n a (y::b) (by simp;omega)).cons x
  ·exact((Z7z n (x::a) b (by simp;omega)).cons y).trans (List.perm_middle.symm)
theorem ZDo {l m:List Rw} (h:aok m=true) (hl:l.length≤m.length) (hs:∀r∈l,r∈m):aok l=true:=by
 have:=ZFo.mp h
 exact ZFo.mpr ⟨by omega,fun r hr=>this.2 r (hs r hr)⟩
theorem Z8R {s:So} (h:Z9u s=true):aok s.inp=true∧(0≤s.pos∧s.pos≤s.inp.length)∧(∀r∈s.runs,ZAT r=true)∧0≤s.wr∧Srt s.out∧(∀r∈s.heap,Z9A r s.out=false)∧Z8r s=true:=by
 simp only[Z9u,Bool.and_eq_true,Z8J,decide_eq_true_eq,List.all_eq_true,ZCm,Bool.not_eq_true']at h
 exact h
theorem ZAR {s:So} (h:Z8r s=true) (p:s.ph=1):s.lp=0∧s.rp=0∧(s.out≠[]∨s.dfd=[])∧ZBp s≤60∧(s.runs.flatten++(s.out++(s.heap++s.dfd))).Perm (s.inp.take s.pos.toNat):=by
 unfold Z8r at h
 rw[if_pos p]at h
 simp only[Bool.and_eq_true,decide_eq_true_eq,ZAd]at h
 exact h
theorem Z8G {s:So} (h:Z8r s=true) (p:s.ph≠1):s.pos=s.inp.length∧s.heap=[]∧s.dfd=[]∧s.runs.flatten.Perm s.inp∧Z8Q s=true:=by
 unfold Z8r at h
 rw[if_neg p]at h
 simp only[Bool.and_eq_true,decide_eq_true_eq,ZAd]at h
 exact h
theorem ZBQ {s:So} (h:Z8Q s=true) (p:s.ph=2):∃a b r,s.runs=a::b::r∧(0≤s.lp∧s.lp≤a.length)∧(0≤s.rp∧s.rp≤b.length)∧s.out=mrg (a.take s.lp.toNat) (b.take s.rp.toNat)∧s.out=(mrg a b).take (s.lp.toNat+s.rp.toNat):=by
 unfold Z8Q at h
 rw[if_pos p]at h
 unfold ZCo at h
 split at h
 ·rename_i a b r hr
  simp only[Bool.and_eq_true,decide_eq_true_eq,Z8J]at h
  exact⟨a,b,r,hr,h.1,h.2.1,h.2.2.1,h.2.2.2⟩
 ·cases h
theorem ZBR {s:So} (h:Z8Q s=true) (p:s.ph=3):s.runs.length=1∧(0≤s.lp∧s.lp<s.inp.length)∧s.rp=0∧s.out=[]:=by
 unfold Z8Q at h
 rw[if_neg (by omega),if_pos p]at h
 simp only[Bool.and_eq_true,decide_eq_true_eq]at h
 exact⟨h.1,h.2.1,h.2.2.1,h.2.2.2⟩
theorem ZFG {s:So} (h:Z8Q s=true) (p:s.ph=4):s.runs.length≤1∧s.lp=s.inp.length∧s.rp=0∧s.out=[]:=by
 unfold Z8Q at h
 rw[if_neg (by omega),if_neg (by omega),if_pos p]at h
 simp only[Bool.and_eq_true,decide_eq_true_eq]at h
 exact⟨h.1,h.2.1,h.2.2.1,h.2.2.2⟩
theorem ZAe {s:So} (h:Z8Q s=true):s.ph=2∨s.ph=3∨s.ph=4:=by
 unfold Z8Q at h
 split at h
 ·exact .inl (by assumption)
 ·split at h
  ·exact .inr (.inl (by assumption))
  ·split at h
   ·exact .inr (.inr (by assumption))
   ·cases h
theorem ZCs {s:So} (h:Z9u s=true):aok s.heap=true∧aok s.dfd=true∧aok s.out=true:=by
 obtain⟨h1,h2,h3,h4,h5,h6,h7⟩:=Z8R h
 by_cases p1:s.ph=1
 ·obtain⟨q1,q2,q3,q4,q5⟩:=ZAR h7 p1
  have hlen:=q5.length_eq
  simp only[List.length_append,List.length_take]at hlen
  have hm:∀r,r∈s.runs.flatten++(s.out++(s.heap++s.dfd))→r∈s.inp:=fun r hr=>List.mem_of_mem_take (q5.mem_iff.mp hr)
  refine⟨ZDo h1 (by omega) (fun r hr=>hm r ?_),ZDo h1 (by omega) (fun r hr=>hm r ?_),ZDo h1 (by omega) (fun r hr=>hm r ?_)⟩
  ·exact List.mem_append_right _ (List.mem_append_right _ (List.mem_append_left _ hr))
  ·exact List.mem_append_right _ (List.mem_append_right _ (List.mem_append_right _ hr))
  ·exact List.mem_append_right _ (List.mem_append_left _ hr)
 ·obtain⟨q1,q2,q3,q4,q5⟩:=Z8G h7 p1
  refine⟨by rw[q2];rfl,by rw[q3];rfl,?_⟩
  rcases ZAe q5 with p|p|p
  ·obtain⟨a,b,r,e1,e2,e3,e4,e5⟩:=ZBQ q5 p
   have hp:=Z7z _ a b rfl
   have hlen:=q4.length_eq
   rw[e1]at hlen
   simp only[List.flatten_cons,List.length_append]at hlen
   have ml:=Z8P a b
   refine ZDo h1 (by rw[e5,List.length_take];omega) (fun x hx=>?_)
   rw[e5]at hx
   have hx2:=hp.mem_iff.mp (List.mem_of_mem_take hx)
   refine q4.mem_iff.mp ?_
   rw[e1]
   simp only[List.flatten_cons,List.mem_append]at hx2⊢
   rcases hx2 with hx2|hx2
   ·exact .inl hx2
   ·exact .inr (.inl hx2)
  ·rw[(ZBR q5 p).2.2.2];rfl
  ·rw[(ZFG q5 p).2.2.2];rfl
def ZHp (s:So):List (List UInt8):=[Z9e s.inp,fmt s.pos,Z9e s.heap,Z9e s.dfd,Z9e s.out,Z8i s.runs,fmt s.lp,fmt s.rp,fmt s.ph,fmt s.wr]
def ZEO (s:So):List UInt8:=Z8k [47] (ZHp s)
def ZFc (s:So):List UInt8:=if Z9u s then ZEO s else[]
def So.nb (s:So):Prop:=I64 s.pos∧I64 s.lp∧I64 s.rp∧I64 s.ph∧I64 s.wr
theorem ZDp (s:So):ZEO s=Z9e s.inp++[47]++fmt s.pos++[47]++Z9e s.heap++[47]++Z9e s.dfd++[47]++Z9e s.out++[47]++Z8i s.runs++[47]++fmt s.lp++[47]++fmt s.rp++[47]++fmt s.ph++[47]++fmt s.wr:=by
 simp[ZEO,ZHp,Z8k]
theorem ZEP (s:So) (hb:s.nb) (h:Z9d s.runs):(ZEO s).length≤1624571391080:=by
 obtain⟨b1,b2,b3,b4,b5⟩:=hb
 have hl:=Z7W List.length s.runs
 unfold Z9d at h
 have a1:=Z6D b1
 have a2:=Z6D b2
 have a3:=Z6D b3
 have a4:=Z6D b4
 have a5:=Z6D b5
 have l1:=Z66 s.inp
 have l2:=Z66 s.heap
 have l3:=Z66 s.dfd
 have l4:=Z66 s.out
 have l5:=Z9f s.runs
 rw[ZDp]
 simp only[List.length_append,List.length_cons,List.length_nil]
 omega
theorem ZGJ (s:So) (h:s.B2) (hb:s.nb):callI tE Z8I [.sl (s.inp.map Rw.e),.int s.pos,.sl (s.heap.map Rw.e),.sl (s.dfd.map Rw.e),.sl (s.out.map Rw.e),.sl (s.runs.map rsE),.int s.lp,.int s.rp,.int s.ph,.int s.wr]=some [.str (S (ZFc s))]:=by
 obtain⟨h1,h2,h3,h4,h5⟩:=h.b.p
 have hl:=Z7W List.length s.runs
 have h5':=h5
 unfold Z9d at h5'
 obtain⟨b1,b2,b3,b4,b5⟩:=hb
 rw[ZB3,ZCJ s h]
 simp only[gA]
 unfold ZFc
 by_cases hv:Z9u s=true
 ·obtain⟨r1,r2,r3⟩:=ZCs hv
  have a1:=Z6D b1
  have a2:=Z6D b2
  have a3:=Z6D b3
  have a4:=Z6D b4
  have a5:=Z6D b5
  have l1:=Z66 s.inp
  have l2:=Z66 s.heap
  have l3:=Z66 s.dfd
  have l4:=Z66 s.out
  have l5:=Z9f s.runs
  have t2:=ZBP s.heap (by omega)
  have t3:=ZBP s.dfd (by omega)
  have t4:=ZBP s.out (by omega)
  rw[←ZBO r1]at t2
  rw[←ZBO r2]at t3
  rw[←ZBO r3]at t4
  have hj:=ZEk [47] (ZHp s) (by simp[ZHp]) (by simp[ZHp];omega)
  simp only[ZHp,List.map_cons,List.map_nil,StE]at hj
  rw[hv,if_pos rfl,Bool.not_true,cond_false]
  simp only[ZB6,Z67 b1,Z67 b2,Z67 b3,Z67 b4,Z67 b5,t2,t3,t4,ZEm s.runs h5,gA,hj]
  rfl
 ·rw[if_neg hv,(Bool.not_eq_true _).mp hv];rfl
theorem ZGK (s:So) (h:s.B2) (hb:s.nb):callI tE Z8H [.sl (s.inp.map Rw.e),.int s.pos,.sl (s.heap.map Rw.e),.sl (s.dfd.map Rw.e),.sl (s.out.map Rw.e),.sl (s.runs.map rsE),.int s.lp,.int s.rp,.int s.ph,.int s.wr]=some [.str (S (ZFc s))]:=by
 obtain⟨h1,h2,h3,h4,h5⟩:=h.b.p
 have hl:=Z7W List.length s.runs
 have h5':=h5
 unfold Z9d at h5'
 obtain⟨b1,b2,b3,b4,b5⟩:=hb
 rw[ZB2,ZCK s h]
 simp only[gA]
 unfold ZFc
 by_cases hv:Z9u s=true
 ·have a1:=Z6D b1
  have a2:=Z6D b2
  have a3:=Z6D b3
  have a4:=Z6D b4
  have a5:=Z6D b5
  have l1:=Z66 s.inp
  have l2:=Z66 s.heap
  have l3:=Z66 s.dfd
  have l4:=Z66 s.out
  have l5:=Z9f s.runs
  rw[hv,if_pos rfl,Bool.not_true,cond_false,ZDp]
  simp only[Z8y s.inp (by omega),Z8y s.heap (by omega),Z8y s.dfd (by omega),Z8y s.out (by omega),Z6I b1,Z6I b2,Z6I b3,Z6I b4,Z6I b5,ZEn s.runs h5,gA]
  rw[Z5j (by simp;omega),Z6L,cond_true,Z5j (by simp;omega),Z6L,cond_true,Z5j (by simp;omega),Z6L,cond_true,Z5j (by simp;omega),Z6L,cond_true,Z5j (by simp;omega),Z6L,cond_true,Z5j (by simp;omega),Z6L,cond_true]
  rw[Z5j (by simp;omega),Z6L,cond_true,Z5j (by simp;omega),Z6L,cond_true,Z5j (by simp;omega),Z6L,cond_true,Z5j (by simp;omega),Z6L,cond_true,Z5j (by simp;omega),Z6L,cond_true,Z5j (by simp;omega),Z6L,cond_true]
  rw[Z5j (by simp;omega),Z6L,cond_true,Z5j (by simp;omega),Z6L,cond_true,Z5j (by simp;omega),Z6L,cond_true,Z5j (by simp;omega),Z6L,cond_true,Z5j (by simp;omega),Z6L,cond_true,Z5j (by simp;omega),Z6L,cond_true]
 ·rw[if_neg hv,(Bool.not_eq_true _).mp hv];rfl
set_option maxRecDepth 100000
theorem ZD9 (a0:Int):callI tE Z92 [.int a0]=(((callI tE Z6G [(.int a0),(.int 8),(.int 60)])).bind (fun r0=>(some [(.bool (gb r0))]))):=(callI_run rfl (by kernel_rfl)).trans (by kernel_rfl)
noncomputable def Z7f (x0 x1:Rows) (x2 x3:Int):Option (List Dat):=loopK tE Z8F 0 ⟨[(0,(.ro 3 Bool.false x0)),(5,(.ro 3 Bool.false x1)),(6,(.i .i64 x2)),(7,(.i .i64 x3))],[]⟩
theorem Z9B (x0 x1:Rows) (x2 x3:Int):Z7f x0 x1 x2 x3=(bif(ltI x3 x2)then(bif(inR x3 (lenI x1))then(((callI tE Z92 [(.int (gn (at' x1 (tn x3))))])).bind (fun r0=>(bif(!(gb r0))then(some [(.bool Bool.false)])else(Z7f x0 x1 x2 (w64 (x3+1))))))else none)else(some [(.bool (ltI 0 (lenI x0)))])):=(loopK_run (by kernel_rfl)).trans (by kernel_rfl)
theorem ZCF (a0:Rows):callI tE Z8F [.sl a0]=(Z7f a0 a0 (lenI a0) 0):=(callI_run rfl (by kernel_rfl)).trans (by kernel_rfl)
set_option maxRecDepth 10000
theorem ZH7 {α:Type} {e:α→List Dat} {l:List α} {k:Nat} {a:α} (h:l[k]?=some a):at' (l.map e) k=e a:=by
 simp[List.getD_eq_getElem?_getD,h]
theorem ZH8 {α:Type} {e:α→List Dat} {l:List α} {k:Nat} {a:α} (h:l[k]?=some a):inR (k:Int) (lenI (l.map e))=true:=ZAY (List.getElem?_eq_some_iff.mp h).1
def ZDq:Nat→Rw→Nat→List Rw→Nat
 |b,_,_,[]=>b
 |b,m,i,a::l=>if Rw.lt a m then ZDq i a (i+1) l else ZDq b m (i+1) l
def ZBq:List Rw→Nat
 |[]=>0
 |a::l=>ZDq 0 a 1 l
theorem ZDr:∀(v u:List Rw) (b:Nat) (m:Rw),(u++v)[b]?=some m→(∀x∈u,Rw.le m x)→∃m',(u++v)[ZDq b m u.length v]?=some m'∧∀x∈u++v,Rw.le m' x
 |[],u,b,m,hb,hu=>⟨m,hb,by simpa using hu⟩
 |a::v,u,b,m,hb,hu=>by
  have e:u++a::v=(u++[a])++v:=by simp
  have el:u.length+1=(u++[a]).length:=by simp
  simp only[ZDq]
  split
  ·rename_i hlt
   rw[e,el]
   refine ZDr v (u++[a]) u.length a (by rw[←e];simp) (fun x hx=>?_)
   rcases List.mem_append.mp hx with hx|hx
   ·exact Rw.le_tr (Rw.lt_le hlt) (hu x hx)
   ·rw[List.mem_singleton.mp hx];exact Rw.le_rfl a
  ·rename_i hlt
   rw[e,el]
   refine ZDr v (u++[a]) b m (by rw[←e];exact hb) (fun x hx=>?_)
   rcases List.mem_append.mp hx with hx|hx
   ·exact hu x hx
   ·rw[List.mem_singleton.mp hx];exact hlt
theorem ZFH {l:List Rw} (h:l≠[]):∃m,l[ZBq l]?=some m∧∀x∈l,Rw.le m x:=by
 cases l with
 |nil=>exact absurd rfl h
 |cons a l=>exact ZDr l [a] 0 a rfl (fun x hx=>by rw[List.mem_singleton.mp hx];exact Rw.le_rfl a)
theorem ZCt (l:List Rw) (hl:l.length<4611686018427387904):∀(v u:List Rw) (b:Nat) (m:Rw),l=u++v→l[b]?=some m→Z6T (l.map Rw.e) (b:Int) (l.map Rw.e) (lenI (l.map Rw.e)) (u.length:Int)=some [.int (ZDq b m u.length v:Nat)]
 |[],u,b,m,e,hb=>by
  rw[List.append_nil]at e
  subst e
  rw[Z7Y,ZDE,cond_false];rfl
 |a::v,u,b,m,e,hb=>by
  have hul:u.length<l.length:=by rw[e];simp
  have ha:l[u.length]?=some a:=by rw[e];simp
  rw[Z7Y,show ltI (u.length:Int) (lenI (l.map Rw.e))=true from by rw[e];exact ZDD u v a,ZH8 ha,ZH8 hb,Z84,ZH7 ha,Z84,ZH7 hb,ltF (show(0:Int)≤(b:Int)by omega)]
  simp only[cond_true,cond_false,gA,Rw.e,ZAi,Z9Y,Z7k (show u.length<9223372036854775807 by omega)]
  have i1:=ZCt l hl v (u++[a]) u.length a (by rw[e];simp) ha
  have i2:=ZCt l hl v (u++[a]) b m (by rw[e];simp) hb
  rw[List.length_append]at i1 i2
  simp only[ZDq]
  by_cases hlt:Rw.lt a m
  ·rw[decide_eq_true hlt,cond_true,if_pos hlt];exact i1
  ·rw[decide_eq_false hlt,cond_false,if_neg hlt];exact i2
theorem ZIq {l:List Rw} (h:l≠[]) (hl:l.length<4611686018427387904):callI tE Z5w [.sl (l.map Rw.e)]=some [.int (ZBq l:Nat)]:=by
 cases l with
 |nil=>exact absurd rfl h
 |cons a l=>
  have:=ZCt (a::l) hl l [a] 0 a rfl rfl
  rw[ZBh,Z7Y,ltT (by rw[Z5L];simp only[List.length_cons];omega),show inR 0 (lenI ((a::l).map Rw.e))=true from ZAY (i:=0) (by simp),ltT (show(-1:Int)<0 by decide)]
  exact this
theorem ZCu (l:List Rw) (hl:l.length<4611686018427387904):∀(v u:List Rw) (b:Nat) (m:Rw),l=u++v→l[b]?=some m→Z6S (l.map Rw.e) (b:Int) (u.length:Int)=some [.int (ZDq b m u.length v:Nat)]
 |[],u,b,m,e,hb=>by
  rw[List.append_nil]at e
  subst e
  rw[Z7X,ZDE,cond_false];rfl
 |a::v,u,b,m,e,hb=>by
  have hul:u.length<l.length:=by rw[e];simp
  have ha:l[u.length]?=some a:=by rw[e];simp
  rw[Z7X,show ltI (u.length:Int) (lenI (l.map Rw.e))=true from by rw[e];exact ZDD u v a,ZH8 ha,ZH8 hb,Z84,ZH7 ha,Z84,ZH7 hb,ltF (show(0:Int)≤(b:Int)by omega)]
  simp only[cond_true,cond_false,gA,Rw.e,ZAL,Z9Y,Z7k (show u.length<9223372036854775807 by omega)]
  have i1:=ZCu l hl v (u++[a]) u.length a (by rw[e];simp) ha
  have i2:=ZCu l hl v (u++[a]) b m (by rw[e];simp) hb
  rw[List.length_append]at i1 i2
  simp only[ZDq]
  by_cases hlt:Rw.lt a m
  ·rw[decide_eq_true hlt,cond_true,if_pos hlt];exact i1
  ·rw[decide_eq_false hlt,cond_false,if_neg hlt];exact i2
theorem ZIr {l:List Rw} (h:l≠[]) (hl:l.length<4611686018427387904):callI tE Z7n [.sl (l.map Rw.e)]=some [.int (ZBq l:Nat)]:=by
 cases l with
 |nil=>exact absurd rfl h
 |cons a l=>
  have:=ZCu (a::l) hl l [a] 0 a rfl rfl
  rw[ZBf,Z7X,ltT (by rw[Z5L];simp only[List.length_cons];omega),ltT (show(-1:Int)<0 by decide)]
  exact this
def ZCv (l:List Rw) (k:Nat):List Rw:=l.take k++l.drop (k+1)
theorem ZFI (l:List Rw) (k:Nat):List.take (tn ((k:Int)-0)) (List.drop (tn 0) (l.map Rw.e))=(l.take k).map Rw.e:=by
 rw[show((k:Int)-0)=(k:Int)by omega]
 show List.take k (List.drop 0 _)=_
 rw[List.drop_zero,List.map_take]
theorem ZFJ (l:List Rw) (k:Nat) (h:k<l.length):List.take (tn (lenI (l.map Rw.e)-((k+1:Nat):Int))) (List.drop (tn ((k+1:Nat):Int)) (l.map Rw.e))=(l.drop (k+1)).map Rw.e:=by
 rw[Z5L,show((l.length:Int)-((k+1:Nat):Int))=((l.length-(k+1):Nat):Int)by omega]
 show List.take (l.length-(k+1)) (List.drop (k+1) _)=_
 rw[List.map_drop,List.take_of_length_le (by simp)]
theorem ZI6 (l:List Rw) (k:Nat) (h:k<l.length) (hl:l.length≤1073741824):callI tE Z7J [.sl (l.map Rw.e),.int (k:Int)]=some [.sl ((ZCv l k).map Rw.e)]:=by
 rw[ZE9,leT (show(0:Int)≤(k:Int)by omega),leT (show(k:Int)≤lenI (l.map Rw.e)by rw[Z5L];omega),ZFI,ZBx _ (by simp;omega),Z7k (by omega),leT (show(0:Int)≤((k+1:Nat):Int)by omega),leT (show((k+1:Nat):Int)≤lenI (l.map Rw.e)by rw[Z5L];omega),ZFJ l k h]
 simp only[gA,Bool.and_self,cond_true,Z5l]
 rw[Z9C (by simp;omega),cond_true,Z9s];rfl
theorem ZI7 (l:List Rw) (k:Nat) (h:k<l.length) (hl:l.length≤1073741824):callI tE Z9x [.sl (l.map Rw.e),.int (k:Int)]=some [.sl ((ZCv l k).map Rw.e)]:=by
 rw[ZD5,leT (show(0:Int)≤(k:Int)by omega),leT (show(k:Int)≤lenI (l.map Rw.e)by rw[Z5L];omega),ZFI,Z7k (by omega),leT (show(0:Int)≤((k+1:Nat):Int)by omega),leT (show((k+1:Nat):Int)≤lenI (l.map Rw.e)by rw[Z5L];omega),ZFJ l k h]
 simp only[Bool.and_self,cond_true,Z5l]
 rw[Z9C (by simp;omega),Z9C (by simp;omega),cond_true,cond_true,Z9s];rfl
theorem ZFd (l:List (List Rw)) (h:Z9d l):callI tE Z8C [.sl (l.map rsE)]=some [.sl (l.map rsE)]:=by
 have hl:=Z7W List.length l
 have h:szL List.length l≤1073741824:=h
 rw[ZCA]
 have:=Z72 (l:=l) (L:=fun(s:List (List Rw)) i=>Z6H (l.map rsE) (lenI (l.map rsE)) i (s.map rsE)) (F:=fun _ _=>some [.sl (l.map rsE)]) (I:=fun s u _=>s=u) (by omega) (fun u a v s e hI=>by
  have ha:a.length≤1073741824:=Nat.le_trans (Z8h (by rw[e];simp)) h
  have hul:u.length≤1073741824:=by rw[e]at hl h;simp at hl;rw[e]at*;omega
  refine .inl ⟨u++[a],?_,rfl,rfl⟩
  show Z6H _ _ _ _=Z6H _ _ _ _
  subst e
  rw[Z98,hI]
  simp only[ZDD,ZDz,Z84,ZDC,cond_true,rsE,gA,ZBx a (by omega),Z5l]
  rw[show fitM (Nat.succ u.length) 24=true from Z9C (by omega),ZDJ]
  rfl) (fun s hs=>by
  show Z6H _ _ _ _=_
  rw[Z98,ZDE,cond_false,hs]) [] rfl
 exact this
theorem ZGL (l:List (List Rw)) (h:Z9d l):callI tE Z91 [.sl (l.map rsE)]=some [.sl (l.map rsE)]:=by
 have hl:=Z7W List.length l
 have h:szL List.length l≤1073741824:=h
 rw[ZD2]
 have:=Z72 (l:=l) (L:=fun(s:List (List Rw)) i=>Z6b (l.map rsE) i (s.map rsE)) (F:=fun _ _=>some [.sl (l.map rsE)]) (I:=fun s u _=>s=u) (by omega) (fun u a v s e hI=>by
  have ha:a.length≤1073741824:=Nat.le_trans (Z8h (by rw[e];simp)) h
  have hul:u.length≤1073741824:=by rw[e]at hl h;simp at hl;rw[e]at*;omega
  refine .inl ⟨u++[a],?_,rfl,rfl⟩
  show Z6b _ _ _=Z6b _ _ _
  subst e
  rw[Z9Z,hI]
  simp only[ZDD,ZDz,Z84,ZDC,cond_true,rsE,gA,Z5l]
  rw[show fitM (0+a.length) 24=true from Z9C (by omega),show fitM (Nat.succ u.length) 24=true from Z9C (by omega),ZDJ]
  rfl) (fun s hs=>by
  show Z6b _ _ _=_
  rw[Z9Z,ZDE,cond_false,hs]) [] rfl
 exact this
theorem ZGr (s:So) (h:s.B):callI tE Z8T [.sl (s.inp.map Rw.e),.int s.pos,.sl (s.heap.map Rw.e),.sl (s.dfd.map Rw.e),.sl (s.out.map Rw.e),.sl (s.runs.map rsE),.int s.lp,.int s.rp,.int s.ph,.int s.wr]=some [.sl (s.inp.map Rw.e),.int s.pos,.sl (s.heap.map Rw.e),.sl (s.dfd.map Rw.e),.sl (s.out.map Rw.e),.sl (s.runs.map rsE),.int s.lp,.int s.rp,.int s.ph,.int s.wr]:=by
 obtain⟨h1,h2,h3,h4,h5⟩:=h.p
 simp only[ZBH,ZBx s.inp (by omega),ZBx s.heap (by omega),ZBx s.dfd (by omega),ZBx s.out (by omega),ZFd s.runs h5,gA]
theorem ZHW (s:So) (h:s.B):callI tE Z9w [.sl (s.inp.map Rw.e),.int s.pos,.sl (s.heap.map Rw.e),.sl (s.dfd.map Rw.e),.sl (s.out.map Rw.e),.sl (s.runs.map rsE),.int s.lp,.int s.rp,.int s.ph,.int s.wr]=some [.sl (s.inp.map Rw.e),.int s.pos,.sl (s.heap.map Rw.e),.sl (s.dfd.map Rw.e),.sl (s.out.map Rw.e),.sl (s.runs.map rsE),.int s.lp,.int s.rp,.int s.ph,.int s.wr]:=by
 obtain⟨h1,h2,h3,h4,h5⟩:=h.p
 simp only[ZD3,Z5l,ZGL s.runs h5,gA]
 rw[Z9C (by omega),Z9C (by omega),Z9C (by omega),Z9C (by omega)];rfl
theorem ZFK (n:Int):callI tE Z92 [.int n]=some [.bool (win n 8 60)]:=by
 simp only[ZD9,ZA5,gA]
def ZDA (s:So):So:=⟨s.inp,s.pos,s.heap,s.dfd,[],s.runs++[s.out],s.lp,s.rp,s.ph,s.wr⟩
def ZAo (s:So):So:=⟨s.inp,s.pos,s.heap,s.dfd,s.out,s.runs,0,0,if s.runs.length=0 then 4 else if s.runs.length=1 then 3 else 2,s.wr⟩
def rwZ:Rw:=⟨0,0,0⟩
def ZIZ (s:So):So:=⟨s.inp,s.pos,ZCv s.heap (ZBq s.heap),s.dfd,s.out++[s.heap.getD (ZBq s.heap) rwZ],s.runs,s.lp,s.rp,s.ph,w64 (s.wr+((s.heap.getD (ZBq s.heap) rwZ).cost:Nat))⟩
def ZGM (s:So) (r:Rw):So:=if Z9A r s.out then⟨s.inp,w64 (s.pos+1),s.heap,s.dfd++[r],s.out,s.runs,s.lp,s.rp,s.ph,s.wr⟩else⟨s.inp,w64 (s.pos+1),s.heap++[r],s.dfd,s.out,s.runs,s.lp,s.rp,s.ph,s.wr⟩
def ZH9 (s:So):So:=if s.heap=[]then(if s.dfd=[]then(if s.out=[]then ZAo s else ZAo (ZDA s))else⟨s.inp,s.pos,s.dfd,[],[],s.runs++[s.out],s.lp,s.rp,s.ph,s.wr⟩)else ZIZ s
def ZFh (s:So) (g:Int) (r:Rw):Bool:=leI ((ZBp s:Nat)+(r.cost:Nat)) g
def ZGs (s:So) (g:Int):So:=match s.inp[s.pos.toNat]? with
 |some r=>if ZFh s g r=true then ZGM s r else ZH9 s
 |none=>ZH9 s
def ZGt (s:So) (x:Rw):So:=⟨s.inp,s.pos,s.heap,s.dfd,s.out++[x],s.runs,w64 (s.lp+1),s.rp,s.ph,w64 (s.wr+(x.cost:Nat))⟩
def ZGu (s:So) (x:Rw):So:=⟨s.inp,s.pos,s.heap,s.dfd,s.out++[x],s.runs,s.lp,w64 (s.rp+1),s.ph,w64 (s.wr+(x.cost:Nat))⟩
def ZEo (s:So):So:=match s.runs with
 |a::b::r=>match a[s.lp.toNat]?,b[s.rp.toNat]? with
  |none,none=>ZAo (ZDA ⟨s.inp,s.pos,s.heap,s.dfd,s.out,r,s.lp,s.rp,s.ph,s.wr⟩)
  |some x,none=>ZGt s x
  |none,some y=>ZGu s y
  |some x,some y=>if Rw.le x y then ZGt s x else ZGu s y
 |_=>s
def ZCw (s:So):So×List Rw:=match s.runs with
 |a::_=>match a[s.lp.toNat]? with
  |some x=>(⟨s.inp,s.pos,s.heap,s.dfd,s.out,s.runs,w64 (s.lp+1),s.rp,if w64 (s.lp+1)=s.inp.length then 4 else s.ph,s.wr⟩,[x])
  |none=>(s,[])
 |[]=>(s,[])
def ZEp (s:So) (g:Int):Bool:=Z9u s&&(win g 8 60&& !eqI s.ph 4)
def ZAp (s:So) (g:Int):So×List Rw×Bool:=
 bif ZEp s g then(if s.ph=1 then(ZGs s g,[],true)else if s.ph=2 then(ZEo s,[],true)else((ZCw s).1,(ZCw s).2,true))else(s,[],false)
def StR (x:So×List Rw×Bool):List Dat:=[.sl (x.1.inp.map Rw.e),.int x.1.pos,.sl (x.1.heap.map Rw.e),.sl (x.1.dfd.map Rw.e),.sl (x.1.out.map Rw.e),.sl (x.1.runs.map rsE),.int x.1.lp,.int x.1.rp,.int x.1.ph,.int x.1.wr,.sl (x.2.1.map Rw.e),.bool x.2.2]
theorem ZGN (s:So) (h:s.B):callI tE Z5v [.sl (s.inp.map Rw.e),.int s.pos,.sl (s.heap.map Rw.e),.sl (s.dfd.map Rw.e),.sl (s.out.map Rw.e),.sl (s.runs.map rsE),.int s.lp,.int s.rp,.int s.ph,.int s.wr]=some (ZDA s).e:=by
 obtain⟨h1,h2,h3,h4,h5⟩:=h.p
 have hl:=Z7W List.length s.runs
 have h5:szL List.length s.runs≤1073741824:=h5
 rw[ZDc,Z5l,Z9C (by omega),cond_true,ZDJ];rfl
theorem ZBr (s:So):callI tE Z5X [.sl (s.inp.map Rw.e),.int s.pos,.sl (s.heap.map Rw.e),.sl (s.dfd.map Rw.e),.sl (s.out.map Rw.e),.sl (s.runs.map rsE),.int s.lp,.int s.rp,.int s.ph,.int s.wr]=some (ZAo s).e:=by
 rw[ZCB,Z5L]
 unfold ZAo
 by_cases h0:s.runs.length=0
 ·rw[eqT (by omega),if_pos h0];rfl
 ·rw[eqF (by omega),if_neg h0]
  by_cases h1:s.runs.length=1
  ·rw[eqT (by omega),if_pos h1];rfl
  ·rw[eqF (by omega),if_neg h1];rfl
theorem ZHX (s:So):callI tE Z6E [.sl (s.inp.map Rw.e),.int s.pos,.sl (s.heap.map Rw.e),.sl (s.dfd.map Rw.e),.sl (s.out.map Rw.e),.sl (s.runs.map rsE),.int s.lp,.int s.rp,.int s.ph,.int s.wr]=some (ZAo s).e:=by
 rw[ZD6,Z5L]
 unfold ZAo
 by_cases h0:s.runs.length=0
 ·rw[eqF (by omega),eqT (show(s.runs.length:Int)=0 by omega),if_pos h0];rfl
 ·rw[eqF (show(s.runs.length:Int)≠0 by omega),if_neg h0]
  by_cases h1:s.runs.length=1
  ·rw[eqT (by omega),if_pos h1];rfl
  ·rw[eqF (by omega),if_neg h1];rfl
theorem Z8L (l:List Rw) (r:Rw):List.append (l.map Rw.e) [[Dat.int r.k,.int r.v,.int r.w]]=(l++[r]).map Rw.e:=ZHQ l r
theorem ZBs:eqI (lenI (([]:List Rw).map Rw.e)) 0=true:=rfl
theorem ZB7:ltI 0 (lenI (([]:List Rw).map Rw.e))=false:=rfl
theorem ZHA {l:List Rw} (h:l≠[]):eqI (lenI (l.map Rw.e)) 0=false:=by
 cases l with
 |nil=>exact absurd rfl h
 |cons a l=>exact eqF (by rw[Z5L];simp only[List.length_cons];omega)
theorem ZEQ {l:List Rw} (h:l≠[]):ltI 0 (lenI (l.map Rw.e))=true:=by
 cases l with
 |nil=>exact absurd rfl h
 |cons a l=>exact ltT (by rw[Z5L];simp only[List.length_cons];omega)
theorem ZI8 {l:List Rw} (h:l≠[]):inR (ZBq l:Nat) (lenI (l.map Rw.e))=true∧at' (l.map Rw.e) (ZBq l)=(l.getD (ZBq l) rwZ).e∧ZBq l<l.length:=by
 obtain⟨m,h1,_⟩:=ZFH h
 exact⟨ZH8 h1,by rw[ZH7 h1];simp[List.getD_eq_getElem?_getD,h1],(List.getElem?_eq_some_iff.mp h1).1⟩
theorem ZDO {s:So} (h:s.B2):s.inp.length≤1073741800∧s.heap.length≤1073741800∧s.dfd.length≤1073741800∧s.out.length≤1073741800∧s.runs.length≤1073741800∧szL List.length s.runs≤1073741800:=by
 have h:s.sz≤1073741800:=h
 have hl:=Z7W List.length s.runs
 simp only[So.sz]at h
 exact⟨by omega,by omega,by omega,by omega,by omega,by omega⟩
theorem ZIs (s:So) (h:s.B2):(bif(eqI (lenI (s.heap.map Rw.e)) 0)then(bif(ltI 0 (lenI (s.dfd.map Rw.e)))then(((callI tE Z5v [(.sl (s.inp.map Rw.e)),(.int s.pos),(.sl (s.heap.map Rw.e)),(.sl (s.dfd.map Rw.e)),(.sl (s.out.map Rw.e)),(.sl (s.runs.map rsE)),(.int s.lp),(.int s.rp),(.int s.ph),(.int s.wr)])).bind (fun r5=>(some [(.sl (gl r5)),(.int (gn (tk 1 r5))),(.sl (gl (tk 3 r5))),(.sl []),(.sl (gl (tk 4 r5))),(.sl (gl (tk 5 r5))),(.int (gn (tk 6 r5))),(.int (gn (tk 7 r5))),(.int (gn (tk 8 r5))),(.int (gn (tk 9 r5))),(.sl []),(.bool true)])))else(bif(ltI 0 (lenI (s.heap.map Rw.e)))then(((callI tE Z5w [(.sl (s.heap.map Rw.e))])).bind (fun r5=>(bif(inR (gn r5) (lenI (s.heap.map Rw.e)))then(((callI tE Z7J [(.sl (s.heap.map Rw.e)),(.int (gn r5))])).bind (fun r6=>(bif(fitM (Nat.succ (len (s.out.map Rw.e))) 24)then(((callI tE Z5O [(.int (gn (at' (s.heap.map Rw.e) (tn (gn r5))))),(.int (gn (tk 1 (at' (s.heap.map Rw.e) (tn (gn r5)))))),(.int (gn (tk 2 (at' (s.heap.map Rw.e) (tn (gn r5))))))])).bind (fun r7=>(some [(.sl (s.inp.map Rw.e)),(.int s.pos),(.sl (gl r6)),(.sl (s.dfd.map Rw.e)),(.sl (List.append (s.out.map Rw.e) [[(.int (gn (at' (s.heap.map Rw.e) (tn (gn r5))))),(.int (gn (tk 1 (at' (s.heap.map Rw.e) (tn (gn r5)))))),(.int (gn (tk 2 (at' (s.heap.map Rw.e) (tn (gn r5))))))]])),(.sl (s.runs.map rsE)),(.int s.lp),(.int s.rp),(.int s.ph),(.int (w64 (s.wr+(gn r7)))),(.sl []),(.bool true)])))else none)))else none)))else(bif(ltI 0 (lenI (s.out.map Rw.e)))then(((callI tE Z5v [(.sl (s.inp.map Rw.e)),(.int s.pos),(.sl (s.heap.map Rw.e)),(.sl (s.dfd.map Rw.e)),(.sl (s.out.map Rw.e)),(.sl (s.runs.map rsE)),(.int s.lp),(.int s.rp),(.int s.ph),(.int s.wr)])).bind (fun r5=>(((callI tE Z5X [(.sl (gl r5)),(.int (gn (tk 1 r5))),(.sl (gl (tk 2 r5))),(.sl (gl (tk 3 r5))),(.sl (gl (tk 4 r5))),(.sl (gl (tk 5 r5))),(.int (gn (tk 6 r5))),(.int (gn (tk 7 r5))),(.int (gn (tk 8 r5))),(.int (gn (tk 9 r5)))])).bind (fun r6=>(some [(.sl (gl r6)),(.int (gn (tk 1 r6))),(.sl (gl (tk 2 r6))),(.sl (gl (tk 3 r6))),(.sl (gl (tk 4 r6))),(.sl (gl (tk 5 r6))),(.int (gn (tk 6 r6))),(.int (gn (tk 7 r6))),(.int (gn (tk 8 r6))),(.int (gn (tk 9 r6))),(.sl []),(.bool true)])))))else(((callI tE Z5X [(.sl (s.inp.map Rw.e)),(.int s.pos),(.sl (s.heap.map Rw.e)),(.sl (s.dfd.map Rw.e)),(.sl (s.out.map Rw.e)),(.sl (s.runs.map rsE)),(.int s.lp),(.int s.rp),(.int s.ph),(.int s.wr)])).bind (fun r5=>(some [(.sl (gl r5)),(.int (gn (tk 1 r5))),(.sl (gl (tk 2 r5))),(.sl (gl (tk 3 r5))),(.sl (gl (tk 4 r5))),(.sl (gl (tk 5 r5))),(.int (gn (tk 6 r5))),(.int (gn (tk 7 r5))),(.int (gn (tk 8 r5))),(.int (gn (tk 9 r5))),(.sl []),(.bool true)]))))))else(bif(ltI 0 (lenI (s.heap.map Rw.e)))then(((callI tE Z5w [(.sl (s.heap.map Rw.e))])).bind (fun r5=>(bif(inR (gn r5) (lenI (s.heap.map Rw.e)))then(((callI tE Z7J [(.sl (s.heap.map Rw.e)),(.int (gn r5))])).bind (fun r6=>(bif(fitM (Nat.succ (len (s.out.map Rw.e))) 24)then(((callI tE Z5O [(.int (gn (at' (s.heap.map Rw.e) (tn (gn r5))))),(.int (gn (tk 1 (at' (s.heap.map Rw.e) (tn (gn r5)))))),(.int (gn (tk 2 (at' (s.heap.map Rw.e) (tn (gn r5))))))])).bind (fun r7=>(some [(.sl (s.inp.map Rw.e)),(.int s.pos),(.sl (gl r6)),(.sl (s.dfd.map Rw.e)),(.sl (List.append (s.out.map Rw.e) [[(.int (gn (at' (s.heap.map Rw.e) (tn (gn r5))))),(.int (gn (tk 1 (at' (s.heap.map Rw.e) (tn (gn r5)))))),(.int (gn (tk 2 (at' (s.heap.map Rw.e) (tn (gn r5))))))]])),(.sl (s.runs.map rsE)),(.int s.lp),(.int s.rp),(.int s.ph),(.int (w64 (s.wr+(gn r7)))),(.sl []),(.bool true)])))else none)))else none)))else(bif(ltI 0 (lenI (s.out.map Rw.e)))then(((callI tE Z5v [(.sl (s.inp.map Rw.e)),(.int s.pos),(.sl (s.heap.map Rw.e)),(.sl (s.dfd.map Rw.e)),(.sl (s.out.map Rw.e)),(.sl (s.runs.map rsE)),(.int s.lp),(.int s.rp),(.int s.ph),(.int s.wr)])).bind (fun r5=>(((callI tE Z5X [(.sl (gl r5)),(.int (gn (tk 1 r5))),(.sl (gl (tk 2 r5))),(.sl (gl (tk 3 r5))),(.sl (gl (tk 4 r5))),(.sl (gl (tk 5 r5))),(.int (gn (tk 6 r5))),(.int (gn (tk 7 r5))),(.int (gn (tk 8 r5))),(.int (gn (tk 9 r5)))])).bind (fun r6=>(some [(.sl (gl r6)),(.int (gn (tk 1 r6))),(.sl (gl (tk 2 r6))),(.sl (gl (tk 3 r6))),(.sl (gl (tk 4 r6))),(.sl (gl (tk 5 r6))),(.int (gn (tk 6 r6))),(.int (gn (tk 7 r6))),(.int (gn (tk 8 r6))),(.int (gn (tk 9 r6))),(.sl []),(.bool true)])))))else(((callI tE Z5X [(.sl (s.inp.map Rw.e)),(.int s.pos),(.sl (s.heap.map Rw.e)),(.sl (s.dfd.map Rw.e)),(.sl (s.out.map Rw.e)),(.sl (s.runs.map rsE)),(.int s.lp),(.int s.rp),(.int s.ph),(.int s.wr)])).bind (fun r5=>(some [(.sl (gl r5)),(.int (gn (tk 1 r5))),(.sl (gl (tk 2 r5))),(.sl (gl (tk 3 r5))),(.sl (gl (tk 4 r5))),(.sl (gl (tk 5 r5))),(.int (gn (tk 6 r5))),(.int (gn (tk 7 r5))),(.int (gn (tk 8 r5))),(.int (gn (tk 9 r5))),(.sl []),(.bool true)]))))))=some (StR (ZH9 s,[],true)):=by
 obtain⟨b1,b2,b3,b4,b5,b6⟩:=ZDO h
 have k1:=ZGN s h.b
 have k2:=ZBr s
 have k3:=ZBr (ZDA s)
 simp only[So.e,ZDA,List.map_nil]at k1 k2 k3
 unfold ZH9
 by_cases hh:s.heap=[]
 ·rw[if_pos hh]
  rw[hh]at k1 k2 k3⊢
  by_cases hd:s.dfd=[]
  ·rw[if_pos hd]
   rw[hd]at k1 k2 k3⊢
   by_cases ho:s.out=[]
   ·rw[if_pos ho]
    rw[ho]at k1 k2 k3⊢
    simp only[ZBs,ZB7,cond_true,cond_false,k2,gA]
    simp only[ZAo,hh,hd,ho];rfl
   ·rw[if_neg ho]
    simp only[ZBs,ZB7,ZEQ ho,cond_true,cond_false,k1,k3,gA]
    simp only[ZAo,ZDA,hh,hd];rfl
  ·rw[if_neg hd]
   simp only[ZBs,ZEQ hd,cond_true,cond_false,k1,gA]
   rfl
 ·rw[if_neg hh]
  obtain⟨m1,m2,m3⟩:=ZI8 hh
  have k4:=ZIq hh (by omega)
  have k5:=ZI6 s.heap (ZBq s.heap) m3 (by omega)
  simp only[ZHA hh,ZEQ hh,cond_true,cond_false,k4,k5,m1,m2,Z84,Rw.e,ZAK,gA,Z5l]
  rw[show fitM (Nat.succ s.out.length) 24=true from Z9C (by omega),cond_true,Z8L]
  rfl
theorem ZIt (s:So) (h:s.B2):(bif(ltI 0 (w64 ((lenI (s.heap.map Rw.e))+(lenI (s.dfd.map Rw.e)))))then(((callI tE Z9R [(.sl (s.inp.map Rw.e)),(.int s.pos),(.sl (s.heap.map Rw.e)),(.sl (s.dfd.map Rw.e)),(.sl (s.out.map Rw.e)),(.sl (s.runs.map rsE)),(.int s.lp),(.int s.rp),(.int s.ph),(.int s.wr)])).bind (fun r5=>(some [(.sl (gl r5)),(.int (gn (tk 1 r5))),(.sl (gl (tk 2 r5))),(.sl (gl (tk 3 r5))),(.sl (gl (tk 4 r5))),(.sl (gl (tk 5 r5))),(.int (gn (tk 6 r5))),(.int (gn (tk 7 r5))),(.int (gn (tk 8 r5))),(.int (gn (tk 9 r5))),(.sl []),(.bool true)])))else(bif(ltI 0 (lenI (s.out.map Rw.e)))then(bif(fitM (Nat.succ (len (s.runs.map rsE))) 24)then(((callI tE Z6E [(.sl (s.inp.map Rw.e)),(.int s.pos),(.sl (s.heap.map Rw.e)),(.sl (s.dfd.map Rw.e)),(.sl []),(.sl (List.append (s.runs.map rsE) [[(.sl (s.out.map Rw.e))]])),(.int s.lp),(.int s.rp),(.int s.ph),(.int s.wr)])).bind (fun r5=>(some [(.sl (gl r5)),(.int (gn (tk 1 r5))),(.sl (gl (tk 2 r5))),(.sl (gl (tk 3 r5))),(.sl (gl (tk 4 r5))),(.sl (gl (tk 5 r5))),(.int (gn (tk 6 r5))),(.int (gn (tk 7 r5))),(.int (gn (tk 8 r5))),(.int (gn (tk 9 r5))),(.sl []),(.bool true)])))else none)else(((callI tE Z6E [(.sl (s.inp.map Rw.e)),(.int s.pos),(.sl (s.heap.map Rw.e)),(.sl (s.dfd.map Rw.e)),(.sl (s.out.map Rw.e)),(.sl (s.runs.map rsE)),(.int s.lp),(.int s.rp),(.int s.ph),(.int s.wr)])).bind (fun r5=>(some [(.sl (gl r5)),(.int (gn (tk 1 r5))),(.sl (gl (tk 2 r5))),(.sl (gl (tk 3 r5))),(.sl (gl (tk 4 r5))),(.sl (gl (tk 5 r5))),(.int (gn (tk 6 r5))),(.int (gn (tk 7 r5))),(.int (gn (tk 8 r5))),(.int (gn (tk 9 r5))),(.sl []),(.bool true)])))))=some (StR (ZH9 s,[],true)):=by
 obtain⟨b1,b2,b3,b4,b5,b6⟩:=ZDO h
 have k2:=ZHX s
 have k3:=ZHX (ZDA s)
 simp only[So.e,ZDA,List.map_nil]at k2 k3
 have ew:w64 (lenI (s.heap.map Rw.e)+lenI (s.dfd.map Rw.e))=((s.heap.length+s.dfd.length:Nat):Int):=by rw[Z5L,Z5L,Z5g ⟨by omega,by omega⟩];omega
 rw[ew]
 unfold ZH9
 by_cases hh:s.heap=[]
 ·rw[if_pos hh]
  rw[hh]at k2 k3⊢
  by_cases hd:s.dfd=[]
  ·rw[if_pos hd]
   rw[hd]at k2 k3⊢
   by_cases ho:s.out=[]
   ·rw[if_pos ho]
    rw[ho]at k2 k3⊢
    rw[show ltI 0 (((([]:List Rw).length+([]:List Rw).length:Nat)):Int)=false from rfl]
    simp only[ZB7,cond_true,cond_false,k2,gA]
    simp only[ZAo,hh,hd,ho];rfl
   ·rw[if_neg ho]
    rw[show ltI 0 (((([]:List Rw).length+([]:List Rw).length:Nat)):Int)=false from rfl]
    simp only[ZB7,ZEQ ho,cond_true,cond_false,Z5l]
    rw[show fitM (Nat.succ s.runs.length) 24=true from Z9C (by omega),cond_true,show([[Dat.sl (s.out.map Rw.e)]]:Rows)=[[.sl (s.out.map Rw.e)]]from rfl,ZDJ,k3]
    simp only[gA]
    simp only[ZAo,ZDA,hh,hd];rfl
  ·rw[if_neg hd,ZBI,ZBs,cond_true,Z5l,show fitM (Nat.succ s.runs.length) 24=true from Z9C (by omega),cond_true,ZDJ]
   rw[show ltI 0 (((([]:List Rw).length+s.dfd.length:Nat)):Int)=true from ltT (by cases hq:s.dfd with|nil=>exact absurd hq hd|cons a l=>simp only[List.length_cons];omega)]
   rfl
 ·rw[if_neg hh]
  obtain⟨m1,m2,m3⟩:=ZI8 hh
  have k4:=ZIr hh (by omega)
  have k5:=ZI7 s.heap (ZBq s.heap) m3 (by omega)
  rw[show ltI 0 ((s.heap.length+s.dfd.length:Nat):Int)=true from ltT (by omega),ZBI]
  simp only[ZHA hh,cond_true,cond_false,k4,k5,m1,m2,Z84,Rw.e,ZAh,gA,Z5l]
  rw[show fitM (Nat.succ s.out.length) 24=true from Z9C (by omega),cond_true,Z8L]
  rfl
theorem ZGO (a b:List Rw) (r:List (List Rw)):inR 0 (lenI ((a::b::r).map rsE))=true∧inR 1 (lenI ((a::b::r).map rsE))=true∧gl (at' ((a::b::r).map rsE) (tn 0))=a.map Rw.e∧gl (at' ((a::b::r).map rsE) (tn 1))=b.map Rw.e∧
  (leI 0 2&&leI 2 (lenI ((a::b::r).map rsE)))=true∧List.take (tn (lenI ((a::b::r).map rsE)-2)) (List.drop (tn 2) ((a::b::r).map rsE))=r.map rsE:=by
 refine⟨ZAY (i:=0) (by simp),ZAY (i:=1) (by simp),rfl,rfl,?_,?_⟩
 ·rw[Z5L,leT (show(2:Int)≤((a::b::r).length:Nat)by simp only[List.length_cons];omega)];rfl
 ·rw[Z5L,show(((a::b::r).length:Nat):Int)-2=(r.length:Int)by simp only[List.length_cons];omega]
  show List.take r.length (r.map rsE)=_
  rw[List.take_of_length_le (by simp)]
theorem ZEq {l:List Rw} {p:Nat} (h:l[p]?=none) (hp:p≤l.length):eqI (p:Int) (lenI (l.map Rw.e))=true∧ltI (p:Int) (lenI (l.map Rw.e))=false:=by
 have:=List.getElem?_eq_none_iff.mp h
 rw[Z5L]
 exact⟨eqT (by omega),ltF (by omega)⟩
theorem ZB8 {l:List Rw} {p:Nat} {x:Rw} (h:l[p]?=some x):eqI (p:Int) (lenI (l.map Rw.e))=false∧ltI (p:Int) (lenI (l.map Rw.e))=true∧inR (p:Int) (lenI (l.map Rw.e))=true∧at' (l.map Rw.e) p=x.e:=by
 have:=(List.getElem?_eq_some_iff.mp h).1
 refine⟨?_,?_,ZH8 h,ZH7 h⟩
 ·rw[Z5L];exact eqF (by omega)
 ·rw[Z5L];exact ltT (by omega)
theorem ZIa (s:So) (h:s.B2) (hv:Z9u s=true) (h1:s.ph≠1):(bif(eqI s.ph 2)then(bif(inR 0 (lenI (s.runs.map rsE)))then(bif(inR 1 (lenI (s.runs.map rsE)))then(bif(eqI s.lp (lenI (gl (at' (s.runs.map rsE) (tn 0)))))then(bif(eqI s.rp (lenI (gl (at' (s.runs.map rsE) (tn 1)))))then(bif((leI 0 2)&&(leI 2 (lenI (s.runs.map rsE))))then(((callI tE Z5v [(.sl (s.inp.map Rw.e)),(.int s.pos),(.sl (s.heap.map Rw.e)),(.sl (s.dfd.map Rw.e)),(.sl (s.out.map Rw.e)),(.sl (List.take (tn ((lenI (s.runs.map rsE))-2)) (List.drop (tn 2) (s.runs.map rsE)))),(.int s.lp),(.int s.rp),(.int s.ph),(.int s.wr)])).bind (fun r3=>(((callI tE Z5X [(.sl (gl r3)),(.int (gn (tk 1 r3))),(.sl (gl (tk 2 r3))),(.sl (gl (tk 3 r3))),(.sl (gl (tk 4 r3))),(.sl (gl (tk 5 r3))),(.int (gn (tk 6 r3))),(.int (gn (tk 7 r3))),(.int (gn (tk 8 r3))),(.int (gn (tk 9 r3)))])).bind (fun r4=>(some [(.sl (gl r4)),(.int (gn (tk 1 r4))),(.sl (gl (tk 2 r4))),(.sl (gl (tk 3 r4))),(.sl (gl (tk 4 r4))),(.sl (gl (tk 5 r4))),(.int (gn (tk 6 r4))),(.int (gn (tk 7 r4))),(.int (gn (tk 8 r4))),(.int (gn (tk 9 r4))),(.sl []),(.bool true)])))))else none)else(bif(eqI s.rp (lenI (gl (at' (s.runs.map rsE) (tn 1)))))then(bif(inR s.lp (lenI (gl (at' (s.runs.map rsE) (tn 0)))))then(bif(fitM (Nat.succ (len (s.out.map Rw.e))) 24)then(((callI tE Z5O [(.int (gn (at' (gl (at' (s.runs.map rsE) (tn 0))) (tn s.lp)))),(.int (gn (tk 1 (at' (gl (at' (s.runs.map rsE) (tn 0))) (tn s.lp))))),(.int (gn (tk 2 (at' (gl (at' (s.runs.map rsE) (tn 0))) (tn s.lp)))))])).bind (fun r3=>(some [(.sl (s.inp.map Rw.e)),(.int s.pos),(.sl (s.heap.map Rw.e)),(.sl (s.dfd.map Rw.e)),(.sl (List.append (s.out.map Rw.e) [[(.int (gn (at' (gl (at' (s.runs.map rsE) (tn 0))) (tn s.lp)))),(.int (gn (tk 1 (at' (gl (at' (s.runs.map rsE) (tn 0))) (tn s.lp))))),(.int (gn (tk 2 (at' (gl (at' (s.runs.map rsE) (tn 0))) (tn s.lp)))))]])),(.sl (s.runs.map rsE)),(.int (w64 (s.lp+1))),(.int s.rp),(.int s.ph),(.int (w64 (s.wr+(gn r3)))),(.sl []),(.bool true)])))else none)else none)else(bif(ltI s.lp (lenI (gl (at' (s.runs.map rsE) (tn 0)))))then(bif(inR s.lp (lenI (gl (at' (s.runs.map rsE) (tn 0)))))then(bif(inR s.rp (lenI (gl (at' (s.runs.map rsE) (tn 1)))))then(((callI tE Z5Q [(.int (gn (at' (gl (at' (s.runs.map rsE) (tn 0))) (tn s.lp)))),(.int (gn (tk 1 (at' (gl (at' (s.runs.map rsE) (tn 0))) (tn s.lp))))),(.int (gn (tk 2 (at' (gl (at' (s.runs.map rsE) (tn 0))) (tn s.lp))))),(.int (gn (at' (gl (at' (s.runs.map rsE) (tn 1))) (tn s.rp)))),(.int (gn (tk 1 (at' (gl (at' (s.runs.map rsE) (tn 1))) (tn s.rp))))),(.int (gn (tk 2 (at' (gl (at' (s.runs.map rsE) (tn 1))) (tn s.rp)))))])).bind (fun r3=>(bif(leI (gn r3) 0)then(bif(inR s.lp (lenI (gl (at' (s.runs.map rsE) (tn 0)))))then(bif(fitM (Nat.succ (len (s.out.map Rw.e))) 24)then(((callI tE Z5O [(.int (gn (at' (gl (at' (s.runs.map rsE) (tn 0))) (tn s.lp)))),(.int (gn (tk 1 (at' (gl (at' (s.runs.map rsE) (tn 0))) (tn s.lp))))),(.int (gn (tk 2 (at' (gl (at' (s.runs.map rsE) (tn 0))) (tn s.lp)))))])).bind (fun r4=>(some [(.sl (s.inp.map Rw.e)),(.int s.pos),(.sl (s.heap.map Rw.e)),(.sl (s.dfd.map Rw.e)),(.sl (List.append (s.out.map Rw.e) [[(.int (gn (at' (gl (at' (s.runs.map rsE) (tn 0))) (tn s.lp)))),(.int (gn (tk 1 (at' (gl (at' (s.runs.map rsE) (tn 0))) (tn s.lp))))),(.int (gn (tk 2 (at' (gl (at' (s.runs.map rsE) (tn 0))) (tn s.lp)))))]])),(.sl (s.runs.map rsE)),(.int (w64 (s.lp+1))),(.int s.rp),(.int s.ph),(.int (w64 (s.wr+(gn r4)))),(.sl []),(.bool true)])))else none)else none)else(bif(inR s.rp (lenI (gl (at' (s.runs.map rsE) (tn 1)))))then(bif(fitM (Nat.succ (len (s.out.map Rw.e))) 24)then(((callI tE Z5O [(.int (gn (at' (gl (at' (s.runs.map rsE) (tn 1))) (tn s.rp)))),(.int (gn (tk 1 (at' (gl (at' (s.runs.map rsE) (tn 1))) (tn s.rp))))),(.int (gn (tk 2 (at' (gl (at' (s.runs.map rsE) (tn 1))) (tn s.rp)))))])).bind (fun r4=>(some [(.sl (s.inp.map Rw.e)),(.int s.pos),(.sl (s.heap.map Rw.e)),(.sl (s.dfd.map Rw.e)),(.sl (List.append (s.out.map Rw.e) [[(.int (gn (at' (gl (at' (s.runs.map rsE) (tn 1))) (tn s.rp)))),(.int (gn (tk 1 (at' (gl (at' (s.runs.map rsE) (tn 1))) (tn s.rp))))),(.int (gn (tk 2 (at' (gl (at' (s.runs.map rsE) (tn 1))) (tn s.rp)))))]])),(.sl (s.runs.map rsE)),(.int s.lp),(.int (w64 (s.rp+1))),(.int s.ph),(.int (w64 (s.wr+(gn r4)))),(.sl []),(.bool true)])))else none)else none))))else none)else none)else(bif(inR s.rp (lenI (gl (at' (s.runs.map rsE) (tn 1)))))then(bif(fitM (Nat.succ (len (s.out.map Rw.e))) 24)then(((callI tE Z5O [(.int (gn (at' (gl (at' (s.runs.map rsE) (tn 1))) (tn s.rp)))),(.int (gn (tk 1 (at' (gl (at' (s.runs.map rsE) (tn 1))) (tn s.rp))))),(.int (gn (tk 2 (at' (gl (at' (s.runs.map rsE) (tn 1))) (tn s.rp)))))])).bind (fun r3=>(some [(.sl (s.inp.map Rw.e)),(.int s.pos),(.sl (s.heap.map Rw.e)),(.sl (s.dfd.map Rw.e)),(.sl (List.append (s.out.map Rw.e) [[(.int (gn (at' (gl (at' (s.runs.map rsE) (tn 1))) (tn s.rp)))),(.int (gn (tk 1 (at' (gl (at' (s.runs.map rsE) (tn 1))) (tn s.rp))))),(.int (gn (tk 2 (at' (gl (at' (s.runs.map rsE) (tn 1))) (tn s.rp)))))]])),(.sl (s.runs.map rsE)),(.int s.lp),(.int (w64 (s.rp+1))),(.int s.ph),(.int (w64 (s.wr+(gn r3)))),(.sl []),(.bool true)])))else none)else none))))else(bif(eqI s.rp (lenI (gl (at' (s.runs.map rsE) (tn 1)))))then(bif(inR s.lp (lenI (gl (at' (s.runs.map rsE) (tn 0)))))then(bif(fitM (Nat.succ (len (s.out.map Rw.e))) 24)then(((callI tE Z5O [(.int (gn (at' (gl (at' (s.runs.map rsE) (tn 0))) (tn s.lp)))),(.int (gn (tk 1 (at' (gl (at' (s.runs.map rsE) (tn 0))) (tn s.lp))))),(.int (gn (tk 2 (at' (gl (at' (s.runs.map rsE) (tn 0))) (tn s.lp)))))])).bind (fun r3=>(some [(.sl (s.inp.map Rw.e)),(.int s.pos),(.sl (s.heap.map Rw.e)),(.sl (s.dfd.map Rw.e)),(.sl (List.append (s.out.map Rw.e) [[(.int (gn (at' (gl (at' (s.runs.map rsE) (tn 0))) (tn s.lp)))),(.int (gn (tk 1 (at' (gl (at' (s.runs.map rsE) (tn 0))) (tn s.lp))))),(.int (gn (tk 2 (at' (gl (at' (s.runs.map rsE) (tn 0))) (tn s.lp)))))]])),(.sl (s.runs.map rsE)),(.int (w64 (s.lp+1))),(.int s.rp),(.int s.ph),(.int (w64 (s.wr+(gn r3)))),(.sl []),(.bool true)])))else none)else none)else(bif(ltI s.lp (lenI (gl (at' (s.runs.map rsE) (tn 0)))))then(bif(inR s.lp (lenI (gl (at' (s.runs.map rsE) (tn 0)))))then(bif(inR s.rp (lenI (gl (at' (s.runs.map rsE) (tn 1)))))then(((callI tE Z5Q [(.int (gn (at' (gl (at' (s.runs.map rsE) (tn 0))) (tn s.lp)))),(.int (gn (tk 1 (at' (gl (at' (s.runs.map rsE) (tn 0))) (tn s.lp))))),(.int (gn (tk 2 (at' (gl (at' (s.runs.map rsE) (tn 0))) (tn s.lp))))),(.int (gn (at' (gl (at' (s.runs.map rsE) (tn 1))) (tn s.rp)))),(.int (gn (tk 1 (at' (gl (at' (s.runs.map rsE) (tn 1))) (tn s.rp))))),(.int (gn (tk 2 (at' (gl (at' (s.runs.map rsE) (tn 1))) (tn s.rp)))))])).bind (fun r3=>(bif(leI (gn r3) 0)then(bif(inR s.lp (lenI (gl (at' (s.runs.map rsE) (tn 0)))))then(bif(fitM (Nat.succ (len (s.out.map Rw.e))) 24)then(((callI tE Z5O [(.int (gn (at' (gl (at' (s.runs.map rsE) (tn 0))) (tn s.lp)))),(.int (gn (tk 1 (at' (gl (at' (s.runs.map rsE) (tn 0))) (tn s.lp))))),(.int (gn (tk 2 (at' (gl (at' (s.runs.map rsE) (tn 0))) (tn s.lp)))))])).bind (fun r4=>(some [(.sl (s.inp.map Rw.e)),(.int s.pos),(.sl (s.heap.map Rw.e)),(.sl (s.dfd.map Rw.e)),(.sl (List.append (s.out.map Rw.e) [[(.int (gn (at' (gl (at' (s.runs.map rsE) (tn 0))) (tn s.lp)))),(.int (gn (tk 1 (at' (gl (at' (s.runs.map rsE) (tn 0))) (tn s.lp))))),(.int (gn (tk 2 (at' (gl (at' (s.runs.map rsE) (tn 0))) (tn s.lp)))))]])),(.sl (s.runs.map rsE)),(.int (w64 (s.lp+1))),(.int s.rp),(.int s.ph),(.int (w64 (s.wr+(gn r4)))),(.sl []),(.bool true)])))else none)else none)else(bif(inR s.rp (lenI (gl (at' (s.runs.map rsE) (tn 1)))))then(bif(fitM (Nat.succ (len (s.out.map Rw.e))) 24)then(((callI tE Z5O [(.int (gn (at' (gl (at' (s.runs.map rsE) (tn 1))) (tn s.rp)))),(.int (gn (tk 1 (at' (gl (at' (s.runs.map rsE) (tn 1))) (tn s.rp))))),(.int (gn (tk 2 (at' (gl (at' (s.runs.map rsE) (tn 1))) (tn s.rp)))))])).bind (fun r4=>(some [(.sl (s.inp.map Rw.e)),(.int s.pos),(.sl (s.heap.map Rw.e)),(.sl (s.dfd.map Rw.e)),(.sl (List.append (s.out.map Rw.e) [[(.int (gn (at' (gl (at' (s.runs.map rsE) (tn 1))) (tn s.rp)))),(.int (gn (tk 1 (at' (gl (at' (s.runs.map rsE) (tn 1))) (tn s.rp))))),(.int (gn (tk 2 (at' (gl (at' (s.runs.map rsE) (tn 1))) (tn s.rp)))))]])),(.sl (s.runs.map rsE)),(.int s.lp),(.int (w64 (s.rp+1))),(.int s.ph),(.int (w64 (s.wr+(gn r4)))),(.sl []),(.bool true)])))else none)else none))))else none)else none)else(bif(inR s.rp (lenI (gl (at' (s.runs.map rsE) (tn 1)))))then(bif(fitM (Nat.succ (len (s.out.map Rw.e))) 24)then(((callI tE Z5O [(.int (gn (at' (gl (at' (s.runs.map rsE) (tn 1))) (tn s.rp)))),(.int (gn (tk 1 (at' (gl (at' (s.runs.map rsE) (tn 1))) (tn s.rp))))),(.int (gn (tk 2 (at' (gl (at' (s.runs.map rsE) (tn 1))) (tn s.rp)))))])).bind (fun r3=>(some [(.sl (s.inp.map Rw.e)),(.int s.pos),(.sl (s.heap.map Rw.e)),(.sl (s.dfd.map Rw.e)),(.sl (List.append (s.out.map Rw.e) [[(.int (gn (at' (gl (at' (s.runs.map rsE) (tn 1))) (tn s.rp)))),(.int (gn (tk 1 (at' (gl (at' (s.runs.map rsE) (tn 1))) (tn s.rp))))),(.int (gn (tk 2 (at' (gl (at' (s.runs.map rsE) (tn 1))) (tn s.rp)))))]])),(.sl (s.runs.map rsE)),(.int s.lp),(.int (w64 (s.rp+1))),(.int s.ph),(.int (w64 (s.wr+(gn r3)))),(.sl []),(.bool true)])))else none)else none))))else none)else none)else(bif(eqI s.ph 3)then(bif(inR 0 (lenI (s.runs.map rsE)))then(bif(inR s.lp (lenI (gl (at' (s.runs.map rsE) (tn 0)))))then(bif(fitM 1 24)then(bif(eqI (w64 (s.lp+1)) (lenI (s.inp.map Rw.e)))then(some [(.sl (s.inp.map Rw.e)),(.int s.pos),(.sl (s.heap.map Rw.e)),(.sl (s.dfd.map Rw.e)),(.sl (s.out.map Rw.e)),(.sl (s.runs.map rsE)),(.int (w64 (s.lp+1))),(.int s.rp),(.int 4),(.int s.wr),(.sl [[(.int (gn (at' (gl (at' (s.runs.map rsE) (tn 0))) (tn s.lp)))),(.int (gn (tk 1 (at' (gl (at' (s.runs.map rsE) (tn 0))) (tn s.lp))))),(.int (gn (tk 2 (at' (gl (at' (s.runs.map rsE) (tn 0))) (tn s.lp)))))]]),(.bool true)])else(some [(.sl (s.inp.map Rw.e)),(.int s.pos),(.sl (s.heap.map Rw.e)),(.sl (s.dfd.map Rw.e)),(.sl (s.out.map Rw.e)),(.sl (s.runs.map rsE)),(.int (w64 (s.lp+1))),(.int s.rp),(.int s.ph),(.int s.wr),(.sl [[(.int (gn (at' (gl (at' (s.runs.map rsE) (tn 0))) (tn s.lp)))),(.int (gn (tk 1 (at' (gl (at' (s.runs.map rsE) (tn 0))) (tn s.lp))))),(.int (gn (tk 2 (at' (gl (at' (s.runs.map rsE) (tn 0))) (tn s.lp)))))]]),(.bool true)]))else none)else none)else none)else(some [(.sl (s.inp.map Rw.e)),(.int s.pos),(.sl (s.heap.map Rw.e)),(.sl (s.dfd.map Rw.e)),(.sl (s.out.map Rw.e)),(.sl (s.runs.map rsE)),(.int s.lp),(.int s.rp),(.int s.ph),(.int s.wr),(.sl []),(.bool true)])))=some (StR (if s.ph=2 then(ZEo s,[],true)else if s.ph=3 then((ZCw s).1,(ZCw s).2,true)else(s,[],true))):=by
 obtain⟨b1,b2,b3,b4,b5,b6⟩:=ZDO h
 obtain⟨_,_,_,_,hl⟩:=Z8G (Z8R hv).2.2.2.2.2.2 h1
 by_cases h2:s.ph=2
 ·obtain⟨a,b,r,e,⟨l0,l1⟩,⟨r0,r1⟩,_,_⟩:=ZBQ hl h2
  obtain⟨inp,pos,heap,dfd,out,runs,lp,rp,ph,wr⟩:=s
  simp only at*
  subst e
  obtain⟨p,rfl⟩:∃p:Nat,lp=p:=⟨lp.toNat,by omega⟩
  obtain⟨q,rfl⟩:∃q:Nat,rp=q:=⟨rp.toNat,by omega⟩
  obtain⟨q1,q2,q3,q4,q5,q6⟩:=ZGO a b r
  have k1:=ZGN ⟨inp,pos,heap,dfd,out,r,p,q,ph,wr⟩ (by
   have h:So.sz _≤1073741800:=h
   simp only[So.sz,szL]at h
   show So.sz _≤1073741824
   simp only[So.sz];omega)
  have k2:=ZBr (ZDA ⟨inp,pos,heap,dfd,out,r,p,q,ph,wr⟩)
  simp only[So.e,ZDA,List.map_nil]at k1 k2
  rw[eqT h2,if_pos h2,cond_true]
  unfold ZEo
  simp only[Int.toNat_natCast]
  cases ha:a[p]? with
  |none=>
   obtain⟨n1,n2⟩:=ZEq ha (by omega)
   cases hb:b[q]? with
   |none=>
    obtain⟨m1,m2⟩:=ZEq hb (by omega)
    simp only[q1,q2,q3,q4,q5,q6,n1,n2,m1,m2,cond_true,cond_false,k1,k2,gA]
    rfl
   |some y=>
    obtain⟨m1,m2,m3,m4⟩:=ZB8 hb
    simp only[q1,q2,q3,q4,n1,n2,m1,m2,m3,m4,cond_true,cond_false,Z84,Rw.e,ZAK,gA,Z5l]
    rw[show fitM (Nat.succ out.length) 24=true from Z9C (by omega),cond_true,Z8L]
    rfl
  |some x=>
   obtain⟨n1,n2,n3,n4⟩:=ZB8 ha
   cases hb:b[q]? with
   |none=>
    obtain⟨m1,m2⟩:=ZEq hb (by omega)
    simp only[q1,q2,q3,q4,n1,n2,n3,n4,m1,m2,cond_true,cond_false,Z84,Rw.e,ZAK,gA,Z5l]
    rw[show fitM (Nat.succ out.length) 24=true from Z9C (by omega),cond_true,Z8L]
    rfl
   |some y=>
    obtain⟨m1,m2,m3,m4⟩:=ZB8 hb
    simp only[q1,q2,q3,q4,n1,n2,n3,n4,m1,m2,m3,m4,cond_true,cond_false,Z84,Rw.e,ZAK,ZAi,ZDa,gA,Z5l]
    rw[show fitM (Nat.succ out.length) 24=true from Z9C (by omega)]
    by_cases hle:Rw.le x y
    ·rw[decide_eq_true hle,if_pos hle]
     simp only[cond_true]
     rw[Z8L];rfl
    ·rw[decide_eq_false hle,if_neg hle]
     simp only[cond_true,cond_false]
     rw[Z8L];rfl
 ·rw[eqF h2,if_neg h2,cond_false]
  by_cases h3:s.ph=3
  ·obtain⟨e,⟨l0,l1⟩,_,_⟩:=ZBR hl h3
   obtain⟨hp1,hp2,hp3,hp4,_⟩:=Z8G (Z8R hv).2.2.2.2.2.2 h1
   obtain⟨inp,pos,heap,dfd,out,runs,lp,rp,ph,wr⟩:=s
   simp only at*
   obtain⟨a,rfl⟩:=List.length_eq_one_iff.mp e
   obtain⟨p,rfl⟩:∃p:Nat,lp=p:=⟨lp.toNat,by omega⟩
   have hal:a.length=inp.length:=by have:=hp4.length_eq;simpa using this
   obtain⟨x,hx⟩:∃x,a[p]?=some x:=⟨_,List.getElem?_eq_getElem (by omega)⟩
   obtain⟨n1,n2,n3,n4⟩:=ZB8 hx
   rw[eqT h3,if_pos h3,cond_true]
   unfold ZCw
   simp only[Int.toNat_natCast,hx]
   rw[show inR 0 (lenI ([a].map rsE))=true from ZAY (i:=0) (by simp),show gl (at' ([a].map rsE) (tn 0))=a.map Rw.e from rfl,n3,show fitM 1 24=true from Z9C (by omega),Z5L]
   simp only[cond_true,Z84,n4,Rw.e,gA]
   by_cases hw:w64 ((p:Int)+1)=(inp.length:Int)
   ·rw[eqT hw,if_pos hw];rfl
   ·rw[eqF hw,if_neg hw];rfl
  ·rw[eqF h3,if_neg h3];rfl
theorem ZIb (s:So) (h:s.B2) (hv:Z9u s=true) (h1:s.ph≠1) (h4:s.ph≠4):(bif(eqI s.ph 2)then(((callI tE Z6F [(.sl (s.runs.map rsE)),(.int 0),(.int s.lp)])).bind (fun r3=>(((callI tE Z6F [(.sl (s.runs.map rsE)),(.int 1),(.int s.rp)])).bind (fun r4=>(bif(eqI (w64 ((lenI (gl r3))+(lenI (gl r4)))) 0)then(bif((leI 0 2)&&(leI 2 (lenI (s.runs.map rsE))))then(bif(fitM (Nat.succ (len (List.take (tn ((lenI (s.runs.map rsE))-2)) (List.drop (tn 2) (s.runs.map rsE))))) 24)then(((callI tE Z6E [(.sl (s.inp.map Rw.e)),(.int s.pos),(.sl (s.heap.map Rw.e)),(.sl (s.dfd.map Rw.e)),(.sl []),(.sl (List.append (List.take (tn ((lenI (s.runs.map rsE))-2)) (List.drop (tn 2) (s.runs.map rsE))) [[(.sl (s.out.map Rw.e))]])),(.int s.lp),(.int s.rp),(.int s.ph),(.int s.wr)])).bind (fun r5=>(some [(.sl (gl r5)),(.int (gn (tk 1 r5))),(.sl (gl (tk 2 r5))),(.sl (gl (tk 3 r5))),(.sl (gl (tk 4 r5))),(.sl (gl (tk 5 r5))),(.int (gn (tk 6 r5))),(.int (gn (tk 7 r5))),(.int (gn (tk 8 r5))),(.int (gn (tk 9 r5))),(.sl []),(.bool true)])))else none)else none)else(bif(eqI (lenI (gl r4)) 0)then(bif(inR 0 (lenI (gl r3)))then(bif(fitM (Nat.succ (len (s.out.map Rw.e))) 24)then(bif(inR 0 (lenI (gl r3)))then(((callI tE Z5m [(.int (gn (at' (gl r3) (tn 0)))),(.int (gn (tk 1 (at' (gl r3) (tn 0))))),(.int (gn (tk 2 (at' (gl r3) (tn 0)))))])).bind (fun r5=>(some [(.sl (s.inp.map Rw.e)),(.int s.pos),(.sl (s.heap.map Rw.e)),(.sl (s.dfd.map Rw.e)),(.sl (List.append (s.out.map Rw.e) [[(.int (gn (at' (gl r3) (tn 0)))),(.int (gn (tk 1 (at' (gl r3) (tn 0))))),(.int (gn (tk 2 (at' (gl r3) (tn 0)))))]])),(.sl (s.runs.map rsE)),(.int (w64 (s.lp+1))),(.int s.rp),(.int s.ph),(.int (w64 (s.wr+(gn r5)))),(.sl []),(.bool true)])))else none)else none)else none)else(bif(ltI 0 (lenI (gl r3)))then(bif(inR 0 (lenI (gl r3)))then(bif(inR 0 (lenI (gl r4)))then(((callI tE Z5f [(.int (gn (at' (gl r3) (tn 0)))),(.int (gn (tk 1 (at' (gl r3) (tn 0))))),(.int (gn (tk 2 (at' (gl r3) (tn 0))))),(.int (gn (at' (gl r4) (tn 0)))),(.int (gn (tk 1 (at' (gl r4) (tn 0))))),(.int (gn (tk 2 (at' (gl r4) (tn 0)))))])).bind (fun r5=>(bif(leI (gn r5) 0)then(bif(inR 0 (lenI (gl r3)))then(bif(fitM (Nat.succ (len (s.out.map Rw.e))) 24)then(bif(inR 0 (lenI (gl r3)))then(((callI tE Z5m [(.int (gn (at' (gl r3) (tn 0)))),(.int (gn (tk 1 (at' (gl r3) (tn 0))))),(.int (gn (tk 2 (at' (gl r3) (tn 0)))))])).bind (fun r6=>(some [(.sl (s.inp.map Rw.e)),(.int s.pos),(.sl (s.heap.map Rw.e)),(.sl (s.dfd.map Rw.e)),(.sl (List.append (s.out.map Rw.e) [[(.int (gn (at' (gl r3) (tn 0)))),(.int (gn (tk 1 (at' (gl r3) (tn 0))))),(.int (gn (tk 2 (at' (gl r3) (tn 0)))))]])),(.sl (s.runs.map rsE)),(.int (w64 (s.lp+1))),(.int s.rp),(.int s.ph),(.int (w64 (s.wr+(gn r6)))),(.sl []),(.bool true)])))else none)else none)else none)else(bif(inR 0 (lenI (gl r4)))then(bif(fitM (Nat.succ (len (s.out.map Rw.e))) 24)then(bif(inR 0 (lenI (gl r4)))then(((callI tE Z5m [(.int (gn (at' (gl r4) (tn 0)))),(.int (gn (tk 1 (at' (gl r4) (tn 0))))),(.int (gn (tk 2 (at' (gl r4) (tn 0)))))])).bind (fun r6=>(some [(.sl (s.inp.map Rw.e)),(.int s.pos),(.sl (s.heap.map Rw.e)),(.sl (s.dfd.map Rw.e)),(.sl (List.append (s.out.map Rw.e) [[(.int (gn (at' (gl r4) (tn 0)))),(.int (gn (tk 1 (at' (gl r4) (tn 0))))),(.int (gn (tk 2 (at' (gl r4) (tn 0)))))]])),(.sl (s.runs.map rsE)),(.int s.lp),(.int (w64 (s.rp+1))),(.int s.ph),(.int (w64 (s.wr+(gn r6)))),(.sl []),(.bool true)])))else none)else none)else none))))else none)else none)else(bif(inR 0 (lenI (gl r4)))then(bif(fitM (Nat.succ (len (s.out.map Rw.e))) 24)then(bif(inR 0 (lenI (gl r4)))then(((callI tE Z5m [(.int (gn (at' (gl r4) (tn 0)))),(.int (gn (tk 1 (at' (gl r4) (tn 0))))),(.int (gn (tk 2 (at' (gl r4) (tn 0)))))])).bind (fun r5=>(some [(.sl (s.inp.map Rw.e)),(.int s.pos),(.sl (s.heap.map Rw.e)),(.sl (s.dfd.map Rw.e)),(.sl (List.append (s.out.map Rw.e) [[(.int (gn (at' (gl r4) (tn 0)))),(.int (gn (tk 1 (at' (gl r4) (tn 0))))),(.int (gn (tk 2 (at' (gl r4) (tn 0)))))]])),(.sl (s.runs.map rsE)),(.int s.lp),(.int (w64 (s.rp+1))),(.int s.ph),(.int (w64 (s.wr+(gn r5)))),(.sl []),(.bool true)])))else none)else none)else none))))))))else(bif(eqI (w64 (s.lp+1)) (lenI (s.inp.map Rw.e)))then(bif(inR 0 (lenI (s.runs.map rsE)))then(bif(inR s.lp (lenI (gl (at' (s.runs.map rsE) (tn 0)))))then(some [(.sl (s.inp.map Rw.e)),(.int s.pos),(.sl (s.heap.map Rw.e)),(.sl (s.dfd.map Rw.e)),(.sl (s.out.map Rw.e)),(.sl (s.runs.map rsE)),(.int (w64 (s.lp+1))),(.int s.rp),(.int 4),(.int s.wr),(.sl [[(.int (gn (at' (gl (at' (s.runs.map rsE) (tn 0))) (tn s.lp)))),(.int (gn (tk 1 (at' (gl (at' (s.runs.map rsE) (tn 0))) (tn s.lp))))),(.int (gn (tk 2 (at' (gl (at' (s.runs.map rsE) (tn 0))) (tn s.lp)))))]]),(.bool true)])else none)else none)else(bif(inR 0 (lenI (s.runs.map rsE)))then(bif(inR s.lp (lenI (gl (at' (s.runs.map rsE) (tn 0)))))then(some [(.sl (s.inp.map Rw.e)),(.int s.pos),(.sl (s.heap.map Rw.e)),(.sl (s.dfd.map Rw.e)),(.sl (s.out.map Rw.e)),(.sl (s.runs.map rsE)),(.int (w64 (s.lp+1))),(.int s.rp),(.int s.ph),(.int s.wr),(.sl [[(.int (gn (at' (gl (at' (s.runs.map rsE) (tn 0))) (tn s.lp)))),(.int (gn (tk 1 (at' (gl (at' (s.runs.map rsE) (tn 0))) (tn s.lp))))),(.int (gn (tk 2 (at' (gl (at' (s.runs.map rsE) (tn 0))) (tn s.lp)))))]]),(.bool true)])else none)else none)))=some (StR (if s.ph=2 then(ZEo s,[],true)else((ZCw s).1,(ZCw s).2,true))):=by
 obtain⟨b1,b2,b3,b4,b5,b6⟩:=ZDO h
 obtain⟨_,_,_,_,hl⟩:=Z8G (Z8R hv).2.2.2.2.2.2 h1
 by_cases h2:s.ph=2
 ·obtain⟨a,b,r,e,⟨l0,l1⟩,⟨r0,r1⟩,_,_⟩:=ZBQ hl h2
  obtain⟨inp,pos,heap,dfd,out,runs,lp,rp,ph,wr⟩:=s
  simp only at*
  subst e
  obtain⟨p,rfl⟩:∃p:Nat,lp=p:=⟨lp.toNat,by omega⟩
  obtain⟨q,rfl⟩:∃q:Nat,rp=q:=⟨rp.toNat,by omega⟩
  obtain⟨q1,q2,q3,q4,q5,q6⟩:=ZGO a b r
  obtain⟨w1,e1,_,_,g1⟩:=ZEJ (a::b::r) 0 (p:Int) (show szL List.length (a::b::r)≤1073741824 by omega) (by omega)
  obtain⟨w2,e2,_,_,g2⟩:=ZEJ (a::b::r) 1 (q:Int) (show szL List.length (a::b::r)≤1073741824 by omega) (by omega)
  simp only[List.getElem?_cons_zero,List.getElem?_cons_succ,Int.toNat_natCast]at g1 g2
  have k2:=ZHX (ZDA ⟨inp,pos,heap,dfd,out,r,p,q,ph,wr⟩)
  simp only[So.e,ZDA,List.map_nil]at k2
  have z00:eqI (w64 (lenI (([]:List Rw).map Rw.e)+lenI (([]:List Rw).map Rw.e))) 0=true:=rfl
  have z10:∀x:Rw,eqI (w64 (lenI (([x]:List Rw).map Rw.e)+lenI (([]:List Rw).map Rw.e))) 0=false:=fun x=>rfl
  have z01:∀x:Rw,eqI (w64 (lenI (([]:List Rw).map Rw.e)+lenI (([x]:List Rw).map Rw.e))) 0=false:=fun x=>rfl
  have z11:∀x y:Rw,eqI (w64 (lenI (([x]:List Rw).map Rw.e)+lenI (([y]:List Rw).map Rw.e))) 0=false:=fun x y=>rfl
  have e1:callI tE Z6F [.sl ((a::b::r).map rsE),.int 0,.int (p:Int)]=some [.sl (w1.map Rw.e)]:=e1
  have e2:callI tE Z6F [.sl ((a::b::r).map rsE),.int 1,.int (q:Int)]=some [.sl (w2.map Rw.e)]:=e2
  rw[eqT h2,if_pos h2,cond_true]
  simp only[e1,e2,gA]
  unfold ZEo
  simp only[Int.toNat_natCast]
  cases ha:a[p]? with
  |none=>
   rw[ha]at g1
   simp only at g1
   subst g1
   cases hb:b[q]? with
   |none=>
    rw[hb]at g2
    simp only at g2
    subst g2
    simp only[z00,q5,q6,cond_true,Z5l]
    have h:So.sz _≤1073741800:=h
    have hl2:=Z7W List.length r
    simp only[So.sz,szL]at h
    rw[show fitM (Nat.succ r.length) 24=true from Z9C (by omega),cond_true,ZDJ,k2]
    rfl
   |some y=>
    rw[hb]at g2
    simp only at g2
    subst g2
    simp only[z01,ZBs,ZB7,ZHo,ZBo,ZHn,ZBn,cond_true,cond_false,Rw.e,ZAh,gA,Z5l]
    rw[show fitM (Nat.succ out.length) 24=true from Z9C (by omega),cond_true,Z8L]
    rfl
  |some x=>
   rw[ha]at g1
   simp only at g1
   subst g1
   cases hb:b[q]? with
   |none=>
    rw[hb]at g2
    simp only at g2
    subst g2
    simp only[z10,ZBs,ZB7,ZHo,ZBo,ZHn,ZBn,cond_true,cond_false,Rw.e,ZAh,gA,Z5l]
    rw[show fitM (Nat.succ out.length) 24=true from Z9C (by omega),cond_true,Z8L]
    rfl
   |some y=>
    rw[hb]at g2
    simp only at g2
    subst g2
    simp only[z11,ZHo,ZBo,ZHn,ZBn,cond_true,cond_false,Rw.e,ZAh,ZAL,ZDa,gA,Z5l]
    rw[show fitM (Nat.succ out.length) 24=true from Z9C (by omega)]
    by_cases hle:Rw.le x y
    ·rw[decide_eq_true hle,if_pos hle]
     simp only[cond_true]
     rw[Z8L];rfl
    ·rw[decide_eq_false hle,if_neg hle]
     simp only[cond_true,cond_false]
     rw[Z8L];rfl
 ·rw[eqF h2,if_neg h2,cond_false]
  have h3:s.ph=3:=by rcases ZAe hl with e|e|e<;>first|exact absurd e h2|exact e|exact absurd e h4
  obtain⟨e,⟨l0,l1⟩,_,_⟩:=ZBR hl h3
  obtain⟨hp1,hp2,hp3,hp4,_⟩:=Z8G (Z8R hv).2.2.2.2.2.2 h1
  obtain⟨inp,pos,heap,dfd,out,runs,lp,rp,ph,wr⟩:=s
  simp only at*
  obtain⟨a,rfl⟩:=List.length_eq_one_iff.mp e
  obtain⟨p,rfl⟩:∃p:Nat,lp=p:=⟨lp.toNat,by omega⟩
  have hal:a.length=inp.length:=by have:=hp4.length_eq;simpa using this
  obtain⟨x,hx⟩:∃x,a[p]?=some x:=⟨_,List.getElem?_eq_getElem (by omega)⟩
  obtain⟨n1,n2,n3,n4⟩:=ZB8 hx
  unfold ZCw
  simp only[Int.toNat_natCast,hx]
  rw[show inR 0 (lenI ([a].map rsE))=true from ZAY (i:=0) (by simp),show gl (at' ([a].map rsE) (tn 0))=a.map Rw.e from rfl,n3,Z5L]
  simp only[cond_true,Z84,n4,Rw.e,gA]
  by_cases hw:w64 ((p:Int)+1)=(inp.length:Int)
  ·rw[eqT hw,if_pos hw];rfl
  ·rw[eqF hw,if_neg hw];rfl
theorem ZFL {s:So} {g:Int} {r:Rw}:leI (w64 ((ZBp s:Nat)+(r.cost:Nat))) g=ZFh s g r∨1073741824<ZBp s:=by
 have:=ZAJ r
 by_cases h:1073741824<ZBp s
 ·exact .inr h
 ·refine .inl ?_
  unfold ZFh
  rw[Z5g ⟨by omega,by omega⟩]
theorem ZI9 {s:So} (hv:Z9u s=true) (h1:s.ph=1):ZBp s≤60:=(ZAR (Z8R hv).2.2.2.2.2.2 h1).2.2.2.1
theorem ZHY (s:So) (g:Int) (h:s.B2):callI tE Z8t [.sl (s.inp.map Rw.e),.int s.pos,.sl (s.heap.map Rw.e),.sl (s.dfd.map Rw.e),.sl (s.out.map Rw.e),.sl (s.runs.map rsE),.int s.lp,.int s.rp,.int s.ph,.int s.wr,.int g]=some (StR (ZAp s g)):=by
 obtain⟨b1,b2,b3,b4,b5,b6⟩:=ZDO h
 rw[ZBi,ZGr s h.b,ZCJ s h,ZFK]
 simp only[gA]
 unfold ZAp ZEp
 cases hv:Z9u s with
 |false=>rfl
 |true=>
  cases hg:win g 8 60 with
  |false=>rfl
  |true=>
   by_cases h4:s.ph=4
   ·rw[eqT h4];rfl
   ·rw[eqF h4]
    by_cases h1:s.ph=1
    ·rw[eqT h1,if_pos h1]
     have hm:=ZI9 hv h1
     obtain⟨_,⟨p0,p1⟩,_⟩:=Z8R hv
     have hT:=ZIs s h
     simp only[Bool.not_true,Bool.not_false,Bool.and_self,cond_true,cond_false,ZIf s h.b,gA]
     unfold ZGs
     cases hq:s.inp[s.pos.toNat]? with
     |none=>
      have hp:ltI s.pos (lenI (s.inp.map Rw.e))=false:=by rw[Z5L];exact ltF (by have:=List.getElem?_eq_none_iff.mp hq;omega)
      rw[hp,cond_false]
      exact hT
     |some r=>
      have hlt:=(List.getElem?_eq_some_iff.mp hq).1
      obtain⟨p,hp⟩:∃p:Nat,s.pos=p:=⟨s.pos.toNat,by omega⟩
      rw[hp,Int.toNat_natCast]at hq
      obtain⟨n1,n2,n3,n4⟩:=ZB8 hq
      rw[←hp]at n2 n3
      have n4:at' (s.inp.map Rw.e) (tn s.pos)=r.e:=by rw[hp,Z84];exact n4
      have hf:leI (w64 ((ZBp s:Nat)+(r.cost:Nat))) g=ZFh s g r:=ZFL.resolve_right (by omega)
      simp only[n2,n3,n4,cond_true,Rw.e,ZAK,hf,gA]
      cases hfit:ZFh s g r with
      |false=>simp only[cond_false,Bool.false_eq_true,if_false];exact hT
      |true=>
       simp only[cond_true,if_true,ZH5 r s.out (by omega),gA,Z5l]
       rw[show fitM (Nat.succ s.dfd.length) 24=true from Z9C (by omega),show fitM (Nat.succ s.heap.length) 24=true from Z9C (by omega),cond_true,cond_true,Z8L,Z8L]
       unfold ZGM
       cases Z9A r s.out<;>rfl
    ·rw[eqF h1,if_neg h1]
     have hL:=ZIa s h hv h1
     simp only[Bool.not_true,Bool.not_false,Bool.and_self,cond_true,cond_false]
     refine hL.trans ?_
     by_cases h2:s.ph=2
     ·rw[if_pos h2,if_pos h2]
     ·rw[if_neg h2,if_neg h2]
      obtain⟨_,_,_,_,hl⟩:=Z8G (Z8R hv).2.2.2.2.2.2 h1
      rw[if_pos (by rcases ZAe hl with e|e|e<;>first|exact absurd e h2|exact e|exact absurd e h4)]
theorem ZHZ (s:So) (g:Int) (h:s.B2):callI tE Z8s [.sl (s.inp.map Rw.e),.int s.pos,.sl (s.heap.map Rw.e),.sl (s.dfd.map Rw.e),.sl (s.out.map Rw.e),.sl (s.runs.map rsE),.int s.lp,.int s.rp,.int s.ph,.int s.wr,.int g]=some (StR (ZAp s g)):=by
 obtain⟨b1,b2,b3,b4,b5,b6⟩:=ZDO h
 rw[ZBg,ZHW s h.b,ZCK s h,ZAw]
 simp only[gA]
 unfold ZAp ZEp
 cases hv:Z9u s with
 |false=>rfl
 |true=>
  cases hg:win g 8 60 with
  |false=>rfl
  |true=>
   by_cases h4:s.ph=4
   ·rw[eqT h4];rfl
   ·rw[eqF h4]
    by_cases h1:s.ph=1
    ·rw[eqT h1,if_pos h1]
     have hm:=ZI9 hv h1
     obtain⟨_,⟨p0,p1⟩,_⟩:=Z8R hv
     have hT:=ZIt s h
     simp only[Bool.not_true,Bool.not_false,Bool.and_self,cond_true,cond_false,ZIg s h.b,gA]
     unfold ZGs
     cases hq:s.inp[s.pos.toNat]? with
     |none=>
      have hp:ltI s.pos (lenI (s.inp.map Rw.e))=false:=by rw[Z5L];exact ltF (by have:=List.getElem?_eq_none_iff.mp hq;omega)
      rw[hp,cond_false]
      exact hT
     |some r=>
      have hlt:=(List.getElem?_eq_some_iff.mp hq).1
      obtain⟨p,hp⟩:∃p:Nat,s.pos=p:=⟨s.pos.toNat,by omega⟩
      rw[hp,Int.toNat_natCast]at hq
      obtain⟨n1,n2,n3,n4⟩:=ZB8 hq
      rw[←hp]at n2 n3
      have n4:at' (s.inp.map Rw.e) (tn s.pos)=r.e:=by rw[hp,Z84];exact n4
      have hf:leI (w64 ((ZBp s:Nat)+(r.cost:Nat))) g=ZFh s g r:=ZFL.resolve_right (by omega)
      simp only[n2,n3,n4,cond_true,Rw.e,ZAh,hf,gA]
      cases hfit:ZFh s g r with
      |false=>simp only[cond_false,Bool.false_eq_true,if_false];exact hT
      |true=>
       simp only[cond_true,if_true,Z5l]
       rw[show fitM (Nat.succ s.dfd.length) 24=true from Z9C (by omega),show fitM (Nat.succ s.heap.length) 24=true from Z9C (by omega)]
       unfold ZGM
       rcases ZDj s.out with ho|⟨u,x,ho⟩
       ·rw[ho,ZB7,ZAj]
        simp only[cond_true,cond_false]
        rw[Z8L];rfl
       ·have e1:w64 (lenI (s.out.map Rw.e)-1)=(u.length:Int):=by rw[Z5L,ho,Z5g ⟨by simp only[List.length_append,List.length_singleton];omega,by rw[ho]at b4;simp only[List.length_append,List.length_singleton]at*;omega⟩];simp
        have hux:s.out[u.length]?=some x:=by rw[ho];simp
        rw[ZEQ (by rw[ho];simp),e1,ZH8 hux,Z84,ZH7 hux]
        simp only[cond_true,Rw.e,ZAL,Z9Y,gA]
        rw[ho,Z9c]
        by_cases hlt:Rw.lt r x
        ·rw[decide_eq_true hlt]
         simp only[cond_true]
         rw[Z8L];rfl
        ·rw[decide_eq_false hlt]
         simp only[cond_true,cond_false]
         rw[Z8L];rfl
    ·rw[eqF h1,if_neg h1]
     have hL:=ZIb s h hv h1 h4
     simp only[Bool.not_true,Bool.not_false,Bool.and_self,cond_true,cond_false]
     exact hL
theorem Z9I {s:So} (h1:aok s.inp=true) (h2:0≤s.pos∧s.pos≤s.inp.length) (h3:∀r∈s.runs,ZAT r=true) (h4:0≤s.wr) (h5:Srt s.out) (h6:∀r∈s.heap,Z9A r s.out=false) (h7:Z8r s=true):Z9u s=true:=by
 simp only[Z9u,Bool.and_eq_true,Z8J,decide_eq_true_eq,List.all_eq_true,ZCm,Bool.not_eq_true']
 exact⟨h1,h2,h3,h4,h5,h6,h7⟩
theorem ZAE {s:So} (p:s.ph=1) (h1:s.lp=0) (h2:s.rp=0) (h3:s.out≠[]∨s.dfd=[]) (h4:ZBp s≤60) (h5:(s.runs.flatten++(s.out++(s.heap++s.dfd))).Perm (s.inp.take s.pos.toNat)):Z8r s=true:=by
 unfold Z8r
 rw[if_pos p]
 simp only[Bool.and_eq_true,decide_eq_true_eq,ZAd]
 exact⟨h1,h2,h3,h4,h5⟩
theorem Z8z {s:So} (p:s.ph≠1) (h1:s.pos=s.inp.length) (h2:s.heap=[]) (h3:s.dfd=[]) (h4:s.runs.flatten.Perm s.inp) (h5:Z8Q s=true):Z8r s=true:=by
 unfold Z8r
 rw[if_neg p]
 simp only[Bool.and_eq_true,decide_eq_true_eq,ZAd]
 exact⟨h1,h2,h3,h4,h5⟩
theorem ZBt {s:So} (p:s.ph=2) {a b:List Rw} {r:List (List Rw)} (e:s.runs=a::b::r) (h1:0≤s.lp∧s.lp≤a.length) (h2:0≤s.rp∧s.rp≤b.length) (h3:s.out=mrg (a.take s.lp.toNat) (b.take s.rp.toNat)) (h4:s.out=(mrg a b).take (s.lp.toNat+s.rp.toNat)):Z8Q s=true:=by
 unfold Z8Q
 rw[if_pos p]
 unfold ZCo
 rw[e]
 simp only[Bool.and_eq_true,decide_eq_true_eq,Z8J]
 exact⟨h1,h2,h3,h4⟩
theorem ZDP {s:So} (p:s.ph=3) (h1:s.runs.length=1) (h2:0≤s.lp∧s.lp<s.inp.length) (h3:s.rp=0) (h4:s.out=[]):Z8Q s=true:=by
 unfold Z8Q
 rw[if_neg (by omega),if_pos p]
 simp only[Bool.and_eq_true,decide_eq_true_eq]
 exact⟨h1,h2,h3,h4⟩
theorem ZDQ {s:So} (p:s.ph=4) (h1:s.runs.length≤1) (h2:s.lp=s.inp.length) (h3:s.rp=0) (h4:s.out=[]):Z8Q s=true:=by
 unfold Z8Q
 rw[if_neg (by omega),if_neg (by omega),if_pos p]
 simp only[Bool.and_eq_true,decide_eq_true_eq]
 exact⟨h1,h2,h3,h4⟩
theorem Z9g:∀(n:Nat) (a b:List Rw),a.length+b.length=n→Srt a→Srt b→Srt (mrg a b)
 |0,a,b,h,_,_=>by
  have e1:a=[]:=List.length_eq_zero_iff.mp (by omega)
  subst e1
  rw[Z8x]
  have e2:b=[]:=List.length_eq_zero_iff.mp (by omega)
  subst e2
  exact .nil
 |n+1,[],b,h,_,hb=>by rw[Z8x];exact hb
 |n+1,x::a,[],h,ha,_=>by rw[Z9U];exact ha
 |n+1,x::a,y::b,h,ha,hb=>by
  obtain⟨ha1,ha2⟩:=List.pairwise_cons.mp ha
  obtain⟨hb1,hb2⟩:=List.pairwise_cons.mp hb
  simp only[List.length_cons]at h
  rw[ZCn]
  split
  ·rename_i hle
   refine List.pairwise_cons.mpr ⟨fun z hz=>?_,Z9g n a (y::b) (by simp only[List.length_cons];omega) ha2 hb⟩
   have:=(Z7z _ a (y::b) rfl).mem_iff.mp hz
   rcases List.mem_append.mp this with h1|h1
   ·exact ha1 z h1
   ·rcases List.mem_cons.mp h1 with rfl|h1
    ·exact hle
    ·exact Rw.le_tr hle (hb1 z h1)
  ·rename_i hle
   have hyx:Rw.le y x:=(Rw.le_total y x).resolve_right hle
   refine List.pairwise_cons.mpr ⟨fun z hz=>?_,Z9g n (x::a) b (by simp only[List.length_cons];omega) ha hb2⟩
   have:=(Z7z _ (x::a) b rfl).mem_iff.mp hz
   rcases List.mem_append.mp this with h1|h1
   ·rcases List.mem_cons.mp h1 with rfl|h1
    ·exact hyx
    ·exact Rw.le_tr hyx (ha1 z h1)
   ·exact hb1 z h1
theorem Z9h {u v:List Rw} (h:Srt (u++v)):Srt u∧Srt v:=⟨(List.pairwise_append.mp h).1,(List.pairwise_append.mp h).2.1⟩
theorem ZER {a1 a2 b1 b2:List Rw} (ha:Srt (a1++a2)) (hb:Srt (b1++b2)) (h:mrg a1 b1=(mrg (a1++a2) (b1++b2)).take (a1.length+b1.length)):mrg (a1++a2) (b1++b2)=mrg a1 b1++mrg a2 b2:=by
 have hs:=Z9g _ _ _ rfl ha hb
 have e:=List.take_append_drop (a1.length+b1.length) (mrg (a1++a2) (b1++b2))
 rw[←h]at e
 have hd:(mrg (a1++a2) (b1++b2)).drop (a1.length+b1.length)=mrg a2 b2:=by
  refine Z7y ?_ ?_ (Z9g _ _ _ rfl (Z9h ha).2 (Z9h hb).2)
  ·refine List.perm_iff_count.mpr fun x=>?_
   have p1:=(Z7z _ (a1++a2) (b1++b2) rfl).count_eq x
   have p2:=(Z7z _ a1 b1 rfl).count_eq x
   have p3:=(Z7z _ a2 b2 rfl).count_eq x
   rw[←e]at p1
   simp only[List.count_append]at p1 p2 p3
   omega
  ·rw[←e]at hs;exact(Z9h hs).2
 rw[hd]at e
 exact e.symm
theorem ZGP {a1 a2 b1 b2:List Rw} {x:Rw} (ha:Srt (a1++x::a2)) (hb:Srt (b1++b2)) (h:mrg a1 b1=(mrg (a1++x::a2) (b1++b2)).take (a1.length+b1.length)) (hx:∀y∈b2.head?,Rw.le x y):
  mrg (a1++[x]) b1=mrg a1 b1++[x]∧(mrg (a1++x::a2) (b1++b2)).take (a1.length+1+b1.length)=mrg a1 b1++[x]:=by
 have e:=ZER ha hb h
 have e2:mrg (x::a2) b2=x::mrg a2 b2:=by
  cases b2 with
  |nil=>rw[Z9U,Z9U]
  |cons y b=>rw[ZCn,if_pos (hx y rfl)]
 rw[e2]at e
 have hs:=Z9g _ _ _ rfl ha hb
 rw[e,show mrg a1 b1++x::mrg a2 b2=(mrg a1 b1++[x])++mrg a2 b2 by simp]at hs
 refine⟨Z7y ?_ (Z9g _ _ _ rfl ?_ (Z9h hb).1) (Z9h hs).1,?_⟩
 ·refine List.perm_iff_count.mpr fun z=>?_
  have p1:=(Z7z _ (a1++[x]) b1 rfl).count_eq z
  have p2:=(Z7z _ a1 b1 rfl).count_eq z
  simp only[List.count_append]at p1 p2⊢
  omega
 ·have:a1++x::a2=(a1++[x])++a2:=by simp
  rw[this]at ha
  exact(Z9h ha).1
 ·rw[e,show mrg a1 b1++x::mrg a2 b2=(mrg a1 b1++[x])++mrg a2 b2 by simp]
  exact List.take_left' (by simp[Z8P];omega)
theorem ZGQ {a1 a2 b1 b2:List Rw} {y:Rw} (ha:Srt (a1++a2)) (hb:Srt (b1++y::b2)) (h:mrg a1 b1=(mrg (a1++a2) (b1++y::b2)).take (a1.length+b1.length)) (hy:∀x∈a2.head?,¬Rw.le x y):
  mrg a1 (b1++[y])=mrg a1 b1++[y]∧(mrg (a1++a2) (b1++y::b2)).take (a1.length+(b1.length+1))=mrg a1 b1++[y]:=by
 have e:=ZER ha hb h
 have e2:mrg a2 (y::b2)=y::mrg a2 b2:=by
  cases a2 with
  |nil=>rw[Z8x,Z8x]
  |cons x a=>rw[ZCn,if_neg (hy x rfl)]
 rw[e2]at e
 have hs:=Z9g _ _ _ rfl ha hb
 rw[e,show mrg a1 b1++y::mrg a2 b2=(mrg a1 b1++[y])++mrg a2 b2 by simp]at hs
 refine⟨Z7y ?_ (Z9g _ _ _ rfl (Z9h ha).1 ?_) (Z9h hs).1,?_⟩
 ·refine List.perm_iff_count.mpr fun z=>?_
  have p1:=(Z7z _ a1 (b1++[y]) rfl).count_eq z
  have p2:=(Z7z _ a1 b1 rfl).count_eq z
  simp only[List.count_append]at p1 p2⊢
  omega
 ·have:b1++y::b2=(b1++[y])++b2:=by simp
  rw[this]at hb
  exact(Z9h hb).1
 ·rw[e,show mrg a1 b1++y::mrg a2 b2=(mrg a1 b1++[y])++mrg a2 b2 by simp]
  exact List.take_left' (by simp[Z8P];omega)
def ZBS (s:So):Nat:=
 if s.ph=1 then 3*(s.inp.length-s.pos.toNat)+2*(s.heap.length+s.dfd.length)+(if s.out=[]then 0 else 1)+(s.inp.length*(s.inp.length+2)+s.inp.length+2)
 else if s.ph=2 then(s.runs.length-1)*(s.inp.length+2)+(s.inp.length+1)-(s.lp.toNat+s.rp.toNat)
 else if s.ph=3 then s.inp.length-s.lp.toNat
 else 0
def rest (s:So):List Rw:=if s.ph=3 then(ZAO s.inp).drop s.lp.toNat else if s.ph=4 then[]else ZAO s.inp
structure ZC1 (s s':So) (em:List Rw):Prop where
 ok:Z9u s'=true
 wr:s.wr≤s'.wr∧s'.wr≤s.wr+4
 inp:s'.inp=s.inp
 less:ZBS s'<ZBS s
 rest:rest s=em++rest s'
theorem ZDs:∀{l:List (List Rw)},(∀r∈l,ZAT r=true)→l.length≤l.flatten.length
 |[],_=>Nat.le_refl _
 |a::l,h=>by
  have ih:=ZDs (l:=l) (fun r hr=>h r (by simp[hr]))
  have:=h a (by simp)
  simp only[ZAT,Bool.and_eq_true,decide_eq_true_eq]at this
  simp only[List.length_cons,List.flatten_cons,List.length_append]
  omega
theorem ZCx {r:List Rw} (h:ZAT r=true):r≠[]∧Srt r∧aok r=true:=by
 simp only[ZAT,Bool.and_eq_true,decide_eq_true_eq,ZCm]at h
 exact⟨fun e=>by rw[e]at h;simp at h,h.2.1,h.2.2⟩
theorem ZDt {r:List Rw} (h1:r≠[]) (h2:Srt r) (h3:aok r=true):ZAT r=true:=by
 simp only[ZAT,Bool.and_eq_true,decide_eq_true_eq,ZCm]
 exact⟨by cases r with|nil=>exact absurd rfl h1|cons a l=>simp,h2,h3⟩
theorem ZEr {s:So} (h1:aok s.inp=true) (hp:s.pos=s.inp.length) (h3:∀r∈s.runs,ZAT r=true) (h4:0≤s.wr) (hh:s.heap=[]) (hd:s.dfd=[]) (ho:s.out=[]) (hpm:s.runs.flatten.Perm s.inp):
  Z9u (ZAo s)=true∧ZBS (ZAo s)≤s.runs.length*(s.inp.length+2)∧ZBS (ZAo s)<s.inp.length*(s.inp.length+2)+s.inp.length+2∧rest (ZAo s)=ZAO s.inp:=by
 have hlen:=hpm.length_eq
 have hrl:=ZDs h3
 have hmul:(s.runs.length-1)*(s.inp.length+2)≤s.inp.length*(s.inp.length+2):=Nat.mul_le_mul_right _ (by omega)
 obtain⟨inp,pos,heap,dfd,out,runs,lp,rp,ph,wr⟩:=s
 simp only at*
 subst hh;subst hd;subst ho
 unfold ZAo
 simp only
 rcases runs with _|⟨a,_|⟨b,r⟩⟩
 ·have hi:inp=[]:=List.length_eq_zero_iff.mp (by simpa using hlen.symm)
  subst hi
  refine⟨Z9I h1 (by simp only at*;simp at hp;omega) h3 h4 .nil (fun r hr=>by cases hr) (Z8z (by simp) hp rfl rfl hpm (ZDQ rfl (by simp) rfl rfl rfl)),by simp[ZBS],by simp[ZBS],by simp[rest,ZAO]⟩
 ·have ha:=(ZCx (h3 a (by simp))).1
  have hil:0<inp.length:=by
   cases a with
   |nil=>exact absurd rfl ha
   |cons x a=>simp at hlen;omega
  refine⟨Z9I h1 (by simp only;omega) h3 h4 .nil (fun r hr=>by cases hr) (Z8z (by simp) hp rfl rfl hpm (ZDP (by simp) (by simp) (by simp only;omega) rfl rfl)),by simp[ZBS]<;>omega,by simp[ZBS]<;>omega,by simp[rest]⟩
 ·have e0:¬(a::b::r).length=0:=by simp
  have e1:¬(a::b::r).length=1:=by simp
  simp only[if_neg e0,if_neg e1]
  refine⟨Z9I h1 (by simp only;omega) h3 h4 .nil (fun r hr=>by cases hr) (Z8z (by simp) hp rfl rfl hpm (ZBt rfl rfl (by simp) (by simp) (by simp[Z8x]) (by simp))),?_,?_,by simp[rest]⟩
  ·simp only[ZBS,List.length_cons,Nat.add_sub_cancel]at*
   have:(r.length+1+1)*(inp.length+2)=(r.length+1)*(inp.length+2)+(inp.length+2):=Nat.succ_mul _ _
   simp;omega
  ·simp only[ZBS,List.length_cons,Nat.add_sub_cancel]at*
   simp;omega
theorem ZFe {l:List Rw} {m:Rw} (hs:Srt l) (h:Z9A m l=false):Srt (l++[m]):=by
 rcases ZDj l with rfl|⟨u,x,rfl⟩
 ·exact List.pairwise_singleton _ _
 ·rw[Z9c,decide_eq_false_iff_not]at h
  refine List.pairwise_append.mpr ⟨hs,List.pairwise_singleton _ _,fun z hz y hy=>?_⟩
  rw[List.mem_singleton.mp hy]
  rcases List.mem_append.mp hz with hz|hz
  ·exact Rw.le_tr ((List.pairwise_append.mp hs).2.2 z hz x (by simp)) h
  ·rw[List.mem_singleton.mp hz];exact h
theorem ZES {l:List Rw} {k:Nat} {m:Rw} (h:l[k]?=some m):(m::ZCv l k).Perm l:=by
 obtain⟨hk,hm⟩:=List.getElem?_eq_some_iff.mp h
 have e:l=l.take k++m::l.drop (k+1):=by
  rw[←hm,←List.drop_eq_getElem_cons hk,List.take_append_drop]
 unfold ZCv
 refine List.perm_iff_count.mpr fun x=>?_
 have:=congrArg (List.count x) e
 simp only[List.count_cons,List.count_append]at this⊢
 omega
theorem ZFf {l m:List Rw} (h:l.Perm m):Z86 l=Z86 m:=by
 unfold Z86
 exact(h.map Rw.cost).sum_nat
theorem ZAF {s:So} (h:s.ph=1∨s.ph=2):rest s=ZAO s.inp:=by
 unfold rest
 rw[if_neg (by omega),if_neg (by omega)]
theorem ZBu {s s':So} (h:s.ph=1∨s.ph=2) (h':s'.ph=1∨s'.ph=2) (e:s'.inp=s.inp):rest s=[]++rest s':=by rw[ZAF h,ZAF h',e];rfl
theorem ZHa {s:So} {g:Int} {r:Rw} (hv:Z9u s=true) (h1:s.ph=1) (hg:g≤60) (hq:s.inp[s.pos.toNat]?=some r) (hf:ZFh s g r=true):ZC1 s (ZGM s r) []:=by
 obtain⟨o1,⟨o2,o2'⟩,o3,o4,o5,o6,o7⟩:=Z8R hv
 obtain⟨t1,t2,t3,t4,t5⟩:=ZAR o7 h1
 have hlt:=(List.getElem?_eq_some_iff.mp hq).1
 have hin:=Z85 o1
 have hw:w64 (s.pos+1)=s.pos+1:=Z5g ⟨by omega,by omega⟩
 have htk:s.inp.take (s.pos+1).toNat=s.inp.take s.pos.toNat++[r]:=by
  rw[show(s.pos+1).toNat=s.pos.toNat+1 by omega,List.take_add_one,hq];rfl
 have hm:(ZBp s:Int)+(r.cost:Nat)≤g:=by simpa[ZFh,leI]using hf
 have hms:ZBp s=Z86 s.heap+Z86 s.dfd:=if_pos h1
 unfold ZGM
 cases hb:Z9A r s.out with
 |true=>
  have hout:s.out≠[]:=fun e=>by rw[e,ZAj]at hb;cases hb
  simp only[if_true]
  refine⟨Z9I o1 ⟨by simp only[hw];omega,by simp only[hw];omega⟩ o3 o4 o5 o6 (ZAE h1 t1 t2 (.inl hout) ?_ ?_),⟨by simp,by simp;omega⟩,rfl,?_,?_⟩
  ·simp only[ZBp,h1,if_true,ZCZ,ZA8,ZA7];omega
  ·simp only[hw,htk]
   refine List.perm_iff_count.mpr fun x=>?_
   have:=t5.count_eq x
   simp only[List.count_append]at this⊢
   omega
  ·simp only[ZBS,h1,if_true,hw,List.length_append,List.length_singleton]
   have:(s.pos+1).toNat=s.pos.toNat+1:=by omega
   rw[this];omega
  ·exact ZBu (.inl h1) (.inl h1) rfl
 |false=>
  simp only[Bool.false_eq_true,if_false]
  refine⟨Z9I o1 ⟨by simp only[hw];omega,by simp only[hw];omega⟩ o3 o4 o5 (fun x hx=>?_) (ZAE h1 t1 t2 t3 ?_ ?_),⟨by simp,by simp;omega⟩,rfl,?_,?_⟩
  ·rcases List.mem_append.mp hx with hx|hx
   ·exact o6 x hx
   ·rw[List.mem_singleton.mp hx];exact hb
  ·simp only[ZBp,h1,if_true,ZCZ,ZA8,ZA7];omega
  ·simp only[hw,htk]
   refine List.perm_iff_count.mpr fun x=>?_
   have:=t5.count_eq x
   simp only[List.count_append]at this⊢
   omega
  ·simp only[ZBS,h1,if_true,hw,List.length_append,List.length_singleton]
   have:(s.pos+1).toNat=s.pos.toNat+1:=by omega
   rw[this];omega
  ·exact ZBu (.inl h1) (.inl h1) rfl
theorem ZIA {s:So} (hv:Z9u s=true) (h1:s.ph=1) (hh:s.heap≠[]) (hw:s.wr≤1000000000000):ZC1 s (ZIZ s) []:=by
 obtain⟨o1,⟨o2,o2'⟩,o3,o4,o5,o6,o7⟩:=Z8R hv
 obtain⟨t1,t2,t3,t4,t5⟩:=ZAR o7 h1
 obtain⟨m,hm,hmin⟩:=ZFH hh
 have hgd:s.heap.getD (ZBq s.heap) rwZ=m:=by simp[List.getD_eq_getElem?_getD,hm]
 have hp:=ZES hm
 have hml:=hp.length_eq
 simp only[List.length_cons]at hml
 have hmh:m∈s.heap:=List.mem_of_getElem? hm
 have hc:=ZAJ m
 have hww:w64 (s.wr+(m.cost:Nat))=s.wr+(m.cost:Nat):=Z5g ⟨by omega,by omega⟩
 have hms:ZBp s=Z86 s.heap+Z86 s.dfd:=if_pos h1
 have htc:=ZFf hp
 rw[ZA8]at htc
 unfold ZIZ
 rw[hgd,hww]
 refine⟨Z9I o1 ⟨o2,o2'⟩ o3 (by simp only;omega) (ZFe o5 (o6 m hmh)) (fun x hx=>?_) (ZAE h1 t1 t2 (.inl (by simp)) ?_ ?_),⟨by simp only;omega,by simp only;omega⟩,rfl,?_,?_⟩
 ·simp only at hx⊢
  rw[Z9c,decide_eq_false_iff_not]
  exact hmin x (hp.mem_iff.mp (by simp[hx]))
 ·simp only[ZBp,h1,if_true];omega
 ·refine List.perm_iff_count.mpr fun x=>?_
  have:=t5.count_eq x
  have e:=hp.count_eq x
  simp only[List.count_append,List.count_cons,List.count_nil]at this e⊢
  omega
 ·simp only[ZBS,h1,if_true]
  have e1:¬(s.out++[m]=[]):=by simp
  rw[if_neg e1]
  split<;>omega
 ·exact ZBu (.inl h1) (.inl h1) rfl
theorem ZHB {s:So} {g:Int} (hv:Z9u s=true) (h1:s.ph=1) (hg:8≤g) (hw:s.wr≤1000000000000) (hn:∀r,s.inp[s.pos.toNat]?=some r→ZFh s g r=false):ZC1 s (ZH9 s) []:=by
 unfold ZH9
 obtain⟨o1,⟨o2,o2'⟩,o3,o4,o5,o6,o7⟩:=Z8R hv
 obtain⟨t1,t2,t3,t4,t5⟩:=ZAR o7 h1
 obtain⟨r1,r2,r3⟩:=ZCs hv
 have hms:ZBp s=Z86 s.heap+Z86 s.dfd:=if_pos h1
 by_cases hh:s.heap=[]
 ·rw[if_pos hh]
  by_cases hd:s.dfd=[]
  ·rw[if_pos hd]
   have hpos:s.pos=s.inp.length:=by
    cases hq:s.inp[s.pos.toNat]? with
    |none=>have:=List.getElem?_eq_none_iff.mp hq;omega
    |some r=>
     have:=hn r hq
     rw[hh,hd]at hms
     have hc:=ZAJ r
     simp only[ZA7]at hms
     simp only[ZFh,leI,decide_eq_false_iff_not]at this
     omega
   have htk:s.inp.take s.pos.toNat=s.inp:=List.take_of_length_le (by omega)
   rw[htk,hh,hd]at t5
   simp only[List.append_nil]at t5
   by_cases ho:s.out=[]
   ·rw[if_pos ho]
    rw[ho,List.append_nil]at t5
    obtain⟨n1,n2,n3,n4⟩:=ZEr o1 hpos o3 o4 hh hd ho t5
    refine⟨n1,⟨Int.le_refl _,by show s.wr≤s.wr+4;omega⟩,rfl,?_,?_⟩
    ·simp only[ZBS,h1,if_true]at n3⊢;omega
    ·rw[ZAF (.inl h1),n4];rfl
   ·rw[if_neg ho]
    have hrun:=ZDt ho o5 r3
    obtain⟨n1,n2,n3,n4⟩:=ZEr (s:=ZDA s) o1 hpos (fun r hr=>by
     rcases List.mem_append.mp hr with hr|hr
     ·exact o3 r hr
     ·rw[List.mem_singleton.mp hr];exact hrun) o4 hh hd rfl (by simpa[ZDA]using t5)
    refine⟨n1,⟨Int.le_refl _,by show s.wr≤s.wr+4;omega⟩,rfl,?_,?_⟩
    ·have:(ZDA s).inp=s.inp:=rfl
     rw[this]at n3
     have e:ZBS s=3*(s.inp.length-s.pos.toNat)+2*(s.heap.length+s.dfd.length)+(if s.out=[]then 0 else 1)+(s.inp.length*(s.inp.length+2)+s.inp.length+2):=if_pos h1
     rw[e];omega
    ·rw[ZAF (.inl h1),n4];rfl
  ·rw[if_neg hd]
   have ho:s.out≠[]:=t3.resolve_right hd
   refine⟨Z9I o1 ⟨o2,o2'⟩ (fun r hr=>?_) o4 .nil (fun r _=>ZAj r) (ZAE h1 t1 t2 (.inr rfl) ?_ ?_),⟨Int.le_refl _,by show s.wr≤s.wr+4;omega⟩,rfl,?_,?_⟩
   ·rcases List.mem_append.mp hr with hr|hr
    ·exact o3 r hr
    ·rw[List.mem_singleton.mp hr];exact ZDt ho o5 r3
   ·rw[hh,ZA7]at hms
    simp only[ZBp,h1,if_true,ZA7]at*;omega
   ·rw[hh]at t5
    refine List.perm_iff_count.mpr fun x=>?_
    have:=t5.count_eq x
    simp only[List.flatten_append,List.flatten_cons,List.flatten_nil,List.count_append,List.count_nil]at this⊢
    omega
   ·simp only[ZBS,h1,if_true,if_neg ho,hh,List.length_nil];omega
   ·exact ZBu (.inl h1) (.inl h1) rfl
 ·rw[if_neg hh]
  exact ZIA hv h1 hh hw
theorem ZIB (x:Rw) {w:Int} (h0:0≤w) (h:w≤1000000000000):w64 (w+(x.cost:Nat))=w+(x.cost:Nat):=by have:=ZAJ x;exact Z5g ⟨by omega,by omega⟩
theorem ZAf {l:List Rw} {p:Nat} {x:Rw} (h:l[p]?=some x):l=l.take p++x::l.drop (p+1)∧l.take (p+1)=l.take p++[x]∧(l.take p).length=p∧l.drop p=x::l.drop (p+1):=by
 obtain⟨hk,hm⟩:=List.getElem?_eq_some_iff.mp h
 have e:l.drop p=x::l.drop (p+1):=by rw[←hm];exact List.drop_eq_getElem_cons hk
 exact⟨by rw[←e,List.take_append_drop],by rw[List.take_add_one,h];rfl,by simp;omega,e⟩
theorem ZGv {s:So} (hv:Z9u s=true) (h2:s.ph=2) (hw:s.wr≤1000000000000):ZC1 s (ZEo s) []:=by
 obtain⟨o1,⟨o2,o2'⟩,o3,o4,o5,o6,o7⟩:=Z8R hv
 obtain⟨t1,t2,t3,t4,t5⟩:=Z8G o7 (by omega)
 obtain⟨a,b,r,e,⟨l0,l1⟩,⟨r0,r1⟩,m1,m2⟩:=ZBQ t5 h2
 have hin:=Z85 o1
 have hlen:=t4.length_eq
 rw[e]at hlen
 simp only[List.flatten_cons,List.length_append]at hlen
 have hsa:=(ZCx (o3 a (by rw[e];simp))).2.1
 have hsb:=(ZCx (o3 b (by rw[e];simp))).2.1
 obtain⟨s1,s2,s3⟩:=ZCs hv
 obtain⟨inp,pos,heap,dfd,out,runs,lp,rp,ph,wr⟩:=s
 simp only at*
 subst e;subst h2;subst t2;subst t3
 obtain⟨p,rfl⟩:∃p:Nat,lp=p:=⟨lp.toNat,by omega⟩
 obtain⟨q,rfl⟩:∃q:Nat,rp=q:=⟨rp.toNat,by omega⟩
 simp only[Int.toNat_natCast]at*
 have hpw:w64 ((p:Int)+1)=((p+1:Nat):Int):=Z7k (by omega)
 have hqw:w64 ((q:Int)+1)=((q+1:Nat):Int):=Z7k (by omega)
 have lenA:(a.take p).length=p:=by simp;omega
 have lenB:(b.take q).length=q:=by simp;omega
 have eA:a.take p++a.drop p=a:=List.take_append_drop _ _
 have eB:b.take q++b.drop q=b:=List.take_append_drop _ _
 have inv:mrg (a.take p) (b.take q)=(mrg (a.take p++a.drop p) (b.take q++b.drop q)).take ((a.take p).length+(b.take q).length):=by rw[eA,eB,lenA,lenB,←m2,m1]
 have left:∀x,a[p]?=some x→(∀y∈(b.drop q).head?,Rw.le x y)→ZC1 ⟨inp,pos,[],[],out,a::b::r,p,q,2,wr⟩ (ZGt ⟨inp,pos,[],[],out,a::b::r,p,q,2,wr⟩ x) []:=fun x hx hy=>by
  obtain⟨g1,g2,g3,g4⟩:=ZAf hx
  have hplt:=(List.getElem?_eq_some_iff.mp hx).1
  have hc:=ZAJ x
  rw[g4]at inv
  obtain⟨k1,k2⟩:=ZGP (by rw[←g1];exact hsa) (by rw[eB];exact hsb) inv hy
  rw[←g2,←m1]at k1
  rw[←g1,eB,lenA,lenB,←m1]at k2
  unfold ZGt
  simp only[hpw,ZIB x o4 hw]
  have hs:Srt (out++[x]):=by
   rw[←k2]
   have:=Z9g _ _ _ rfl hsa hsb
   rw[←List.take_append_drop (p+1+q) (mrg a b)]at this
   exact(Z9h this).1
  refine⟨Z9I o1 ⟨o2,o2'⟩ o3 (by simp only;omega) hs (fun r hr=>by cases hr) (Z8z (by simp) t1 rfl rfl t4 (ZBt rfl rfl ⟨by simp only;omega,by simp only;omega⟩ ⟨r0,r1⟩ ?_ ?_)),⟨by simp only;omega,by simp only;omega⟩,rfl,?_,ZBu (.inr rfl) (.inr rfl) rfl⟩
  ·simp only[Int.toNat_natCast];exact k1.symm
  ·simp only[Int.toNat_natCast];exact k2.symm
  ·simp only[ZBS,List.length_cons,Int.toNat_natCast]
   simp;omega
 have right:∀y,b[q]?=some y→(∀x∈(a.drop p).head?,¬Rw.le x y)→ZC1 ⟨inp,pos,[],[],out,a::b::r,p,q,2,wr⟩ (ZGu ⟨inp,pos,[],[],out,a::b::r,p,q,2,wr⟩ y) []:=fun y hy hx=>by
  obtain⟨g1,g2,g3,g4⟩:=ZAf hy
  have hqlt:=(List.getElem?_eq_some_iff.mp hy).1
  have hc:=ZAJ y
  rw[g4]at inv
  obtain⟨k1,k2⟩:=ZGQ (by rw[eA];exact hsa) (by rw[←g1];exact hsb) inv hx
  rw[←g2,←m1]at k1
  rw[←g1,eA,lenA,lenB,←m1]at k2
  unfold ZGu
  simp only[hqw,ZIB y o4 hw]
  have hs:Srt (out++[y]):=by
   rw[←k2]
   have:=Z9g _ _ _ rfl hsa hsb
   rw[←List.take_append_drop (p+(q+1)) (mrg a b)]at this
   exact(Z9h this).1
  refine⟨Z9I o1 ⟨o2,o2'⟩ o3 (by simp only;omega) hs (fun r hr=>by cases hr) (Z8z (by simp) t1 rfl rfl t4 (ZBt rfl rfl ⟨l0,l1⟩ ⟨by simp only;omega,by simp only;omega⟩ ?_ ?_)),⟨by simp only;omega,by simp only;omega⟩,rfl,?_,ZBu (.inr rfl) (.inr rfl) rfl⟩
  ·simp only[Int.toNat_natCast];exact k1.symm
  ·simp only[Int.toNat_natCast];exact k2.symm
  ·simp only[ZBS,List.length_cons,Int.toNat_natCast]
   simp;omega
 unfold ZEo
 simp only[Int.toNat_natCast]
 cases ha:a[p]? with
 |none=>
  have hpe:p=a.length:=by have:=List.getElem?_eq_none_iff.mp ha;omega
  cases hb:b[q]? with
  |none=>
   have hqe:q=b.length:=by have:=List.getElem?_eq_none_iff.mp hb;omega
   simp only
   have hout:out=mrg a b:=by rw[m2,hpe,hqe,List.take_of_length_le (by rw[Z8P];omega)]
   have hane:=(ZCx (o3 a (by simp))).1
   have hone:out≠[]:=fun e0=>by
    have:=Z8P a b
    rw[←hout,e0]at this
    cases a with
    |nil=>exact hane rfl
    |cons x a=>simp at this;omega
   have hrun:=ZDt hone (hout▸Z9g _ _ _ rfl hsa hsb) s3
   obtain⟨n1,n2,n3,n4⟩:=ZEr (s:=ZDA ⟨inp,pos,[],[],out,r,p,q,2,wr⟩) o1 t1 (fun x hx=>by
    rcases List.mem_append.mp hx with hx|hx
    ·exact o3 x (by simp[hx])
    ·rw[List.mem_singleton.mp hx];exact hrun) o4 rfl rfl rfl (by
    refine List.perm_iff_count.mpr fun x=>?_
    have c1:=t4.count_eq x
    have c2:=(Z7z _ a b rfl).count_eq x
    rw[←hout]at c2
    simp only[ZDA,List.flatten_append,List.flatten_cons,List.flatten_nil,List.count_append,List.count_nil]at c1 c2⊢
    omega)
   refine⟨n1,⟨Int.le_refl _,by show wr≤wr+4;omega⟩,rfl,?_,?_⟩
   ·have e1:(ZDA ⟨inp,pos,[],[],out,r,p,q,2,wr⟩:So).runs.length=r.length+1:=by simp[ZDA]
    rw[e1]at n2
    have e2:(ZDA ⟨inp,pos,[],[],out,r,p,q,2,wr⟩:So).inp=inp:=rfl
    rw[e2]at n2
    have e3:ZBS ⟨inp,pos,[],[],out,a::b::r,p,q,2,wr⟩=(r.length+1)*(inp.length+2)+(inp.length+1)-(p+q):=by simp[ZBS]
    rw[e3];omega
   ·rw[ZAF (.inr rfl),n4];rfl
  |some y=>
   simp only
   exact right y hb (fun x hx=>by rw[List.drop_of_length_le (by omega)]at hx;cases hx)
 |some x=>
  cases hb:b[q]? with
  |none=>
   simp only
   have:=List.getElem?_eq_none_iff.mp hb
   exact left x ha (fun y hy=>by rw[List.drop_of_length_le (by omega)]at hy;cases hy)
  |some y=>
   simp only
   have g4:=(ZAf ha).2.2.2
   have g5:=(ZAf hb).2.2.2
   by_cases hle:Rw.le x y
   ·rw[if_pos hle]
    exact left x ha (fun z hz=>by rw[g5]at hz;simp at hz;rw[←hz];exact hle)
   ·rw[if_neg hle]
    exact right y hb (fun z hz=>by rw[g4]at hz;simp at hz;rw[←hz];exact hle)
theorem ZHb {s:So} (hv:Z9u s=true) (h3:s.ph=3):ZC1 s (ZCw s).1 (ZCw s).2:=by
 obtain⟨o1,⟨o2,o2'⟩,o3,o4,o5,o6,o7⟩:=Z8R hv
 obtain⟨t1,t2,t3,t4,t5⟩:=Z8G o7 (by omega)
 obtain⟨e,⟨l0,l1⟩,e2,e3⟩:=ZBR t5 h3
 have hin:=Z85 o1
 obtain⟨inp,pos,heap,dfd,out,runs,lp,rp,ph,wr⟩:=s
 simp only at*
 subst h3;subst t2;subst t3;subst e2;subst e3
 obtain⟨a,rfl⟩:=List.length_eq_one_iff.mp e
 obtain⟨p,rfl⟩:∃p:Nat,lp=p:=⟨lp.toNat,by omega⟩
 have t4:a.Perm inp:=by simpa using t4
 have hal:=t4.length_eq
 have hsa:=(ZCx (o3 a (by simp))).2.1
 have ha:a=ZAO inp:=Z7y (t4.trans (Z7T inp).symm) hsa (ZAC inp)
 obtain⟨x,hx⟩:∃x,a[p]?=some x:=⟨_,List.getElem?_eq_getElem (by omega)⟩
 have hpw:w64 ((p:Int)+1)=((p+1:Nat):Int):=Z7k (by omega)
 unfold ZCw
 simp only[Int.toNat_natCast,hx,hpw]
 have hdrop:=(ZAf hx).2.2.2
 rw[ha]at hdrop
 by_cases hl:p+1=inp.length
 ·rw[if_pos (by omega)]
  refine⟨Z9I o1 ⟨o2,o2'⟩ o3 o4 o5 (fun r hr=>by cases hr) (Z8z (by simp) t1 rfl rfl (by simpa using t4) (ZDQ rfl (by simp) (by simp only;omega) rfl rfl)),⟨Int.le_refl _,by show wr≤wr+4;omega⟩,rfl,?_,?_⟩
  ·simp[ZBS];omega
  ·simp only[rest,Int.toNat_natCast]
   simp
   rw[hdrop,List.drop_of_length_le (by rw[←ha];omega)]
 ·rw[if_neg (by omega)]
  refine⟨Z9I o1 ⟨o2,o2'⟩ o3 o4 o5 (fun r hr=>by cases hr) (Z8z (by simp) t1 rfl rfl (by simpa using t4) (ZDP rfl rfl ⟨by simp only;omega,by simp only;omega⟩ rfl rfl)),⟨Int.le_refl _,by show wr≤wr+4;omega⟩,rfl,?_,?_⟩
  ·simp[ZBS];omega
  ·simp only[rest,Int.toNat_natCast]
   simp
   exact hdrop
theorem ZHc {s:So} {g:Int} (h:ZEp s g=true) (hw:s.wr≤1000000000000):ZC1 s (ZAp s g).1 (ZAp s g).2.1∧(ZAp s g).2.2=true:=by
 have h':=h
 simp only[ZEp,Bool.and_eq_true,Z8J,Bool.not_eq_true',eqI,decide_eq_false_iff_not]at h'
 obtain⟨hv,⟨g0,g1⟩,h4⟩:=h'
 unfold ZAp
 rw[h,cond_true]
 by_cases h1:s.ph=1
 ·rw[if_pos h1]
  refine⟨?_,rfl⟩
  simp only
  unfold ZGs
  cases hq:s.inp[s.pos.toNat]? with
  |none=>exact ZHB hv h1 g0 hw (fun r hr=>by rw[hq]at hr;cases hr)
  |some r=>
   simp only
   cases hf:ZFh s g r with
   |true=>simp only[if_true];exact ZHa hv h1 g1 hq hf
   |false=>simp only[Bool.false_eq_true,if_false];exact ZHB hv h1 g0 hw (fun r' hr=>by rw[hq]at hr;cases hr;exact hf)
 ·rw[if_neg h1]
  by_cases h2:s.ph=2
  ·rw[if_pos h2];exact⟨ZGv hv h2 hw,rfl⟩
  ·rw[if_neg h2]
   obtain⟨_,_,_,_,hl⟩:=Z8G (Z8R hv).2.2.2.2.2.2 h1
   exact⟨ZHb hv (by rcases ZAe hl with e|e|e<;>first|exact absurd e h2|exact e|exact absurd e h4),rfl⟩
def ZHd (c:Ck):List UInt8:=Z8k [33] [ZEO c.so,Z9e c.em]
def ZAG (c:Ck):List UInt8:=if ZGn c then ZHd c else[]
theorem ZDu (c:Ck):ZHd c=ZEO c.so++[33]++Z9e c.em:=by simp[ZHd,Z8k]
theorem ZGR {c:Ck} (h:ZGn c=true):Z9u c.so=true∧aok c.em=true∧w64 ((c.em.length:Int)+ZG7 c.so)=c.so.inp.length∧c.em=(ZAO c.so.inp).take c.em.length:=by
 simp only[ZGn,Bool.and_eq_true,decide_eq_true_eq]at h
 exact h
theorem ZET (c:Ck) (h:c.B2) (hb:c.so.nb):callI tE Z6d [.sl (c.so.inp.map Rw.e),.int c.so.pos,.sl (c.so.heap.map Rw.e),.sl (c.so.dfd.map Rw.e),.sl (c.so.out.map Rw.e),.sl (c.so.runs.map rsE),.int c.so.lp,.int c.so.rp,.int c.so.ph,.int c.so.wr,.sl (c.em.map Rw.e)]=some [.str (S (ZAG c))]:=by
 have hso:c.so.B2:=by simp only[Ck.B2,Ck.sz,So.B2]at*;omega
 have hl:=ZEP c.so hb hso.b.p.2.2.2.2
 have hm:=Z66 c.em
 rw[ZAM,ZGo c h]
 simp only[gA]
 unfold ZAG
 by_cases hv:ZGn c=true
 ·have hs:=(ZGR hv).1
  have ht:ZFc c.so=ZEO c.so:=if_pos hs
  rw[hv,if_pos rfl,Bool.not_true,cond_false]
  simp only[ZGJ c.so hso hb,ZB6,gA,ht]
  rw[Z5j (by simp;omega),Z6L,cond_true,Z5j (by simp;omega),Z6L,cond_true,ZDu]
 ·rw[if_neg hv,(Bool.not_eq_true _).mp hv];rfl
theorem ZEU (c:Ck) (h:c.B2) (hb:c.so.nb):callI tE Z6e [.sl (c.so.inp.map Rw.e),.int c.so.pos,.sl (c.so.heap.map Rw.e),.sl (c.so.dfd.map Rw.e),.sl (c.so.out.map Rw.e),.sl (c.so.runs.map rsE),.int c.so.lp,.int c.so.rp,.int c.so.ph,.int c.so.wr,.sl (c.em.map Rw.e)]=some [.str (S (ZAG c))]:=by
 have hso:c.so.B2:=by simp only[Ck.B2,Ck.sz,So.B2]at*;omega
 have hem:c.em.length≤1073741824:=by simp only[Ck.B2,Ck.sz]at h;omega
 have hl:=ZEP c.so hb hso.b.p.2.2.2.2
 have hm:=Z66 c.em
 rw[ZAN,ZGp c h]
 simp only[gA]
 unfold ZAG
 by_cases hv:ZGn c=true
 ·have hs:=(ZGR hv).1
  have ht:ZFc c.so=ZEO c.so:=if_pos hs
  rw[hv,if_pos rfl,Bool.not_true,cond_false]
  simp only[ZGK c.so hso hb,Z8y c.em (show c.em.length<1099511627776 by omega),gA,ht]
  rw[Z5j (by simp;omega),Z6L,cond_true,Z5j (by simp;omega),Z6L,cond_true,ZDu]
 ·rw[if_neg hv,(Bool.not_eq_true _).mp hv];rfl
def Z8j (r:List UInt8):List UInt8:=fmt r.length++[58]++r++[44]++fmt (chk r:Nat)++[59]
theorem Z90 {n:Nat} (h:n<9223372036854775808):(fmt (n:Int)).length≤20:=Z6D ⟨by omega,by omega⟩
theorem ZDv {r:List UInt8} (h:r.length<4611686018427387904):r.length+3≤(Z8j r).length∧(Z8j r).length≤r.length+43:=by
 have h1:=Z90 (n:=r.length) (by omega)
 have h2:=Z90 (n:=chk r) (by have:=ZDL r;omega)
 unfold Z8j
 simp only[List.length_append,List.length_cons,List.length_nil]
 omega
theorem Z8B {b:UInt8} {x y u v:List UInt8} (hx:b∉x) (hu:b∉u) (h:x++b::y=u++b::v):x=u∧y=v:=by
 induction x generalizing u with
 |nil=>
  cases u with
  |nil=>simpa using h
  |cons c u=>
   simp only[List.nil_append,List.cons_append,List.cons.injEq]at h
   exact absurd (by rw[←h.1];simp) hu
 |cons a x ih=>
  cases u with
  |nil=>
   simp only[List.nil_append,List.cons_append,List.cons.injEq]at h
   exact absurd (by rw[h.1];simp) hx
  |cons c u=>
   simp only[List.cons_append,List.cons.injEq]at h
   simp only[List.mem_cons,not_or]at hx hu
   obtain⟨e1,e2⟩:=ih hx.2 hu.2 h.2
   exact⟨by rw[h.1,e1],e2⟩
theorem ZGw {a b x y:List UInt8} (h:Z8j a++x=Z8j b++y):a=b:=by
 unfold Z8j at h
 simp only[List.append_assoc,List.singleton_append]at h
 have h58:∀n:Int,(58:UInt8)∉fmt n:=fun n=>ZBN (by decide) (by decide) n
 obtain⟨e1,e2⟩:=Z8B (h58 _) (h58 _) h
 have hl:a.length=b.length:=by have:=ZA2 e1;omega
 exact(List.append_inj e2 hl).1
open Classical in
noncomputable def ZCy (t:List UInt8):Option (List UInt8):=if h:∃r y,t=Z8j r++y then some h.choose else none
theorem ZBv {t r:List UInt8}:ZCy t=some r↔∃y,t=Z8j r++y:=by
 unfold ZCy
 constructor
 ·intro h
  split at h
  ·rename_i hx;cases h;exact hx.choose_spec
  ·cases h
 ·rintro ⟨y,hy⟩
  have hx:∃r y,t=Z8j r++y:=⟨r,y,hy⟩
  rw[dif_pos hx]
  obtain⟨y',hy'⟩:=hx.choose_spec
  exact congrArg some (ZGw (hy'.symm.trans hy))
theorem Z7U {t:List UInt8}:ZCy t=none↔∀r y,t≠Z8j r++y:=by
 unfold ZCy
 constructor
 ·intro h r y e
  rw[dif_pos ⟨r,y,e⟩]at h;cases h
 ·intro h
  rw[dif_neg]
  rintro ⟨r,y,e⟩
  exact h r y e
noncomputable def Z9i (t:List UInt8):List (List UInt8)×Bool:=
 if _h:t=[]then([],true)else match ZCy t with
  |none=>([],false)
  |some r=>(r::(Z9i (t.drop (Z8j r).length)).1,(Z9i (t.drop (Z8j r).length)).2)
termination_by t.length
decreasing_by
 all_goals
  have:0<t.length:=List.length_pos_iff.mpr _h
  have:0<(Z8j r).length:=by unfold Z8j;(first|omega|(simp only[List.length_append,List.length_cons,List.length_nil,List.length_map,List.length_take,List.length_drop,List.length_replicate,Z6A]at* <;>omega))
  simp only[List.length_drop];omega
theorem ZBT:Z9i []=([],true):=by rw[Z9i,dif_pos rfl]
theorem ZEV {t:List UInt8} (h:t≠[]) (hf:ZCy t=none):Z9i t=([],false):=by rw[Z9i,dif_neg h,hf]
theorem ZFM (r y:List UInt8):Z9i (Z8j r++y)=(r::(Z9i y).1,(Z9i y).2):=by
 rw[Z9i,dif_neg (by unfold Z8j;simp),ZBv.mpr ⟨y,rfl⟩]
 simp only[List.drop_left]
theorem ZGS (e:UInt8) (p x y:List UInt8) (hx:e∉x) (hl:x.length≤11) (hb:(p++x++e::y).length<4611686018427387904):
  callI tE Z6W [.str (S (p++x++e::y)),.int (p.length:Int),.int (e.toNat:Int)]=some [.int (num x),.int ((p.length+x.length+1:Nat):Int),.bool (isN x&&leI 0 (num x))]:=by
 rw[ZAa]
 have key:∀(v u:List UInt8),x=u++v→Z7I (S (p++x++e::y)) ((p++u).length:Nat) (e.toNat:Int) (p.length:Int)=some [.int (num x),.int ((p.length+x.length+1:Nat):Int),.bool (isN x&&leI 0 (num x))]:=by
  intro v
  induction v with
  |nil=>
   intro u hu
   rw[List.append_nil]at hu
   subst hu
   have e1:ltI ((p++x).length:Nat) (szI (S (p++x++e::y)))=true:=ZH2 (p++x) y e
   have e2:inR ((p++x).length:Nat) (szI (S (p++x++e::y)))=true:=ZH3 (p++x) y e
   have e3:byteAt (S (p++x++e::y)) ((p++x).length:Nat)=(e.toNat:Int):=ZGd (p++x) y e
   have e4:leI (szI (S (p++x++e::y))) ((p++x).length:Nat)=false:=leF (by rw[Z6A];simp only[List.length_append,List.length_cons];omega)
   have e5:in3 (p.length:Int) ((p++x).length:Nat) (szI (S (p++x++e::y)))=true:=ZHs (by omega) (by(first|omega|(simp only[List.length_append,List.length_cons,List.length_nil,List.length_map,List.length_take,List.length_drop,List.length_replicate,Z6A]at* <;>omega))) (by(first|omega|(simp only[List.length_append,List.length_cons,List.length_nil,List.length_map,List.length_take,List.length_drop,List.length_replicate,Z6A]at* <;>omega)))
   have e6:w64 ((((p++x).length:Nat):Int)+1)=((p.length+x.length+1:Nat):Int):=by
    simp only[List.length_append,List.length_cons]at hb
    rw[Z5g ⟨by omega,by simp only[List.length_append];omega⟩];simp only[List.length_append];omega
   have e7:=ZGB x (by omega)
   rw[Z6c,e1,e2,e3,e4,e5,ZCG,Z84,Z84,ZEi,e7,e6,ZI5]
   simp only[gA]
   cases ltI (w64 (((p++x).length:Nat)-(p.length:Int))) 11<;>cases isN x<;>rfl
  |cons c v ih=>
   intro u hu
   have hs:p++x++e::y=(p++u)++c::(v++e::y):=by rw[hu];simp
   have hul:u.length<11:=by rw[hu]at hl;simp at hl;omega
   have hpl:(p++u).length<4611686018427387904:=by rw[hs]at hb;simp only[List.length_append]at hb⊢;omega
   have hc:c≠e:=fun h=>hx (by rw[hu,h];simp)
   have e0:w64 ((((p++u).length:Nat):Int)-(p.length:Int))=(u.length:Int):=by
    rw[Z5g ⟨by(first|omega|(simp only[List.length_append,List.length_cons,List.length_nil,List.length_map,List.length_take,List.length_drop,List.length_replicate,Z6A]at* <;>omega)),by(first|omega|(simp only[List.length_append,List.length_cons,List.length_nil,List.length_map,List.length_take,List.length_drop,List.length_replicate,Z6A]at* <;>omega))⟩];(first|omega|(simp only[List.length_append,List.length_cons,List.length_nil,List.length_map,List.length_take,List.length_drop,List.length_replicate,Z6A]at* <;>omega))
   have e1:=ZH2 (p++u) (v++e::y) c
   have e2:=ZH3 (p++u) (v++e::y) c
   have e3:=ZGd (p++u) (v++e::y) c
   rw[←hs]at e1 e2 e3
   have ih':=ih (u++[c]) (by rw[hu];simp)
   rw[Z6c,e1,e2,e3,e0,ltT (by omega),ZBz,decide_eq_false hc,Z7k (by omega)]
   simp only[cond_true,Bool.not_false]
   rw[←ih']
   congr 2
   simp
   omega
 have:=key x [] rfl
 rw[List.append_nil]at this
 exact this
theorem ZAs (e:UInt8) (p t:List UInt8) (hx:∀x y,t=x++e::y→e∉x→11<x.length) (hb:(p++t).length<4611686018427387904):
  ∃a b,callI tE Z6W [.str (S (p++t)),.int (p.length:Int),.int (e.toNat:Int)]=some [.int a,.int b,.bool false]:=by
 rw[ZAa]
 have key:∀(v u:List UInt8),t=u++v→e∉u→u.length≤11→∃a b,Z7I (S (p++t)) ((p++u).length:Nat) (e.toNat:Int) (p.length:Int)=some [.int a,.int b,.bool false]:=by
  intro v
  induction v with
  |nil=>
   intro u hu _ _
   rw[List.append_nil]at hu
   subst hu
   refine⟨0,0,?_⟩
   rw[Z6c,ZD7,leT (by rw[Z6A];omega)];rfl
  |cons c v ih=>
   intro u hu hne hul
   have hs:p++t=(p++u)++c::v:=by rw[hu];simp
   have hpl:(p++u).length<4611686018427387904:=by rw[hs]at hb;simp only[List.length_append]at hb⊢;omega
   have hc:c≠e:=fun h=>by have:=hx u v (by rw[hu,h]) hne;omega
   have e0:w64 ((((p++u).length:Nat):Int)-(p.length:Int))=(u.length:Int):=by
    rw[Z5g ⟨by(first|omega|(simp only[List.length_append,List.length_cons,List.length_nil,List.length_map,List.length_take,List.length_drop,List.length_replicate,Z6A]at* <;>omega)),by(first|omega|(simp only[List.length_append,List.length_cons,List.length_nil,List.length_map,List.length_take,List.length_drop,List.length_replicate,Z6A]at* <;>omega))⟩];(first|omega|(simp only[List.length_append,List.length_cons,List.length_nil,List.length_map,List.length_take,List.length_drop,List.length_replicate,Z6A]at* <;>omega))
   have e1:=ZH2 (p++u) v c
   have e2:=ZH3 (p++u) v c
   have e3:=ZGd (p++u) v c
   rw[←hs]at e1 e2 e3
   have e4:leI (szI (S (p++t))) ((p++u).length:Nat)=false:=leF (by rw[Z6A,hs];simp only[List.length_append,List.length_cons];omega)
   by_cases h11:u.length=11
   ·refine⟨0,0,?_⟩
    rw[Z6c,e1,e2,e3,e0,ltF (by omega),ZBz,decide_eq_false hc,e4];rfl
   ·obtain⟨a,b,ih'⟩:=ih (u++[c]) (by rw[hu];simp) (by simp only[List.mem_append,List.mem_singleton,not_or];exact⟨hne,fun h=>hc h.symm⟩) (by simp;omega)
    refine⟨a,b,?_⟩
    rw[Z6c,e1,e2,e3,e0,ltT (by omega),ZBz,decide_eq_false hc,Z7k (by omega)]
    simp only[cond_true,Bool.not_false]
    rw[←ih']
    congr 2
    simp
    omega
 have:=key t [] rfl (by simp) (by simp)
 rw[List.append_nil]at this
 exact this
theorem ZIC (b:UInt8) (t:List UInt8):(∃x y,t=x++b::y∧b∉x)∨b∉t:=by
 induction t with
 |nil=>exact .inr (by simp)
 |cons c t ih=>
  by_cases h:c=b
  ·exact .inl ⟨[],t,by rw[h];rfl,by simp⟩
  ·rcases ih with ⟨x,y,e,hx⟩|h2
   ·exact .inl ⟨c::x,y,by rw[e];rfl,by simp only[List.mem_cons,not_or];exact⟨fun e=>h e.symm,hx⟩⟩
   ·exact .inr (by simp only[List.mem_cons,not_or];exact⟨fun e=>h e.symm,h2⟩)
theorem ZIh (e:UInt8) (p t:List UInt8) (hb:(p++t).length<4611686018427387904):
  (∃x y,t=x++e::y∧e∉x∧isN x=true∧0≤num x∧callI tE Z6W [.str (S (p++t)),.int (p.length:Int),.int (e.toNat:Int)]=some [.int (num x),.int ((p++x++[e]).length:Nat),.bool true])∨
  ((∃a b,callI tE Z6W [.str (S (p++t)),.int (p.length:Int),.int (e.toNat:Int)]=some [.int a,.int b,.bool false])∧∀x y,t=x++e::y→e∉x→¬(isN x=true∧0≤num x)):=by
 have small:∀x:List UInt8,isN x=true→x.length≤11:=fun x hx=>by
  obtain⟨h1,h2⟩:=ZGE hx
  have:=(Z8K 9 (num x).natAbs (by omega)).mpr (by omega)
  rw[←h1]
  unfold fmt
  split
  ·simp;omega
  ·omega
 rcases ZIC e t with ⟨x,y,hxy,hx⟩|hno
 ·by_cases hl:x.length≤11
  ·subst hxy
   have hb':(p++x++e::y).length<4611686018427387904:=by simpa using hb
   have hr:=ZGS e p x y hx hl hb'
   rw[List.append_assoc]at hr
   by_cases hok:isN x=true∧0≤num x
   ·refine .inl ⟨x,y,rfl,hx,hok.1,hok.2,hr.trans ?_⟩
    rw[hok.1,leT hok.2]
    simp
    omega
   ·refine .inr ⟨⟨num x,((p.length+x.length+1:Nat):Int),hr.trans ?_⟩,fun x' y' h1 h2 h3=>?_⟩
    ·rw[show(isN x&&leI 0 (num x))=false from ?_]
     cases h1:isN x
     ·rfl
     ·exact leF (by have:¬0≤num x:=fun h2=>hok ⟨h1,h2⟩;omega)
    ·obtain⟨e1,_⟩:=Z8B hx h2 h1
     exact hok (e1▸h3)
  ·refine .inr ⟨ZAs e p t (fun x' y' h1 h2=>?_) hb,fun x' y' h1 h2 h3=>?_⟩
   ·obtain⟨e1,_⟩:=Z8B hx h2 (hxy.symm.trans h1)
    rw[←e1];omega
   ·obtain⟨e1,_⟩:=Z8B hx h2 (hxy.symm.trans h1)
    have:=small x' h3.1
    rw[←e1]at this;omega
 ·refine .inr ⟨ZAs e p t (fun x' y' h1 h2=>absurd (by rw[h1];simp) hno) hb,fun x' y' h1 h2 h3=>absurd (by rw[h1];simp) hno⟩
theorem ZEs {x:List UInt8} (h1:isN x=true) (h2:0≤num x):∃n:Nat,num x=(n:Int)∧n<1000000000∧x=fmt (n:Int):=by
 obtain⟨e1,e2⟩:=ZGE h1
 refine⟨(num x).natAbs,by omega,e2,?_⟩
 rw[show(((num x).natAbs:Nat):Int)=num x by omega,e1]
theorem Z9W {t r y:List UInt8} (h:t=Z8j r++y):t=fmt (r.length:Nat)++58::(r++44::(fmt (chk r:Nat)++59::y)):=by
 rw[h];unfold Z8j;simp
theorem ZAS {n:Nat} (h:n<1000000000):num (fmt (n:Int))=(n:Int)∧isN (fmt (n:Int))=true:=ZHT (by omega)
theorem ZEt {p x y:List UInt8} {k:Nat} (hk:k=p.length+x.length):ext (S (p++(x++y))) p.length k=S x:=by
 subst hk
 have:=ZEi p x y
 rw[List.append_assoc,List.length_append]at this
 exact this
theorem ZGT (p t:List UInt8) (hb:(p++t).length<1000000000):
  (∃r y,t=Z8j r++y∧callI tE Z8U [.str (S (p++t)),.int (p.length:Int)]=some [.str (S r),.int ((p++Z8j r).length:Nat),.bool true])∨
  (ZCy t=none∧∃a b,callI tE Z8U [.str (S (p++t)),.int (p.length:Int)]=some [.str a,.int b,.bool false]):=by
 rw[ZCi]
 have h58:∀n:Int,(58:UInt8)∉fmt n:=fun n=>ZBN (by decide) (by decide) n
 have h59:∀n:Int,(59:UInt8)∉fmt n:=fun n=>ZBN (by decide) (by decide) n
 have hlen:∀{r y:List UInt8},t=Z8j r++y→r.length<1000000000:=fun{r y} e=>by
  rw[e]at hb
  unfold Z8j at hb
  simp only[List.length_append]at hb
  omega
 rcases ZIh 58 p t (by omega)with ⟨x,y,hxy,hx,q1,q2,hr⟩|⟨⟨a,b,hr⟩,hno⟩
 ·rw[show(58:UInt8).toNat=58 from rfl]at hr
  rw[show((58:Nat):Int)=58 from rfl]at hr
  obtain⟨n,e1,e2,e3⟩:=ZEs q1 q2
  have hpl:(p++x++[58]).length+y.length=(p++t).length:=by rw[hxy];simp;omega
  have hs:p++t=(p++x++[58])++y:=by rw[hxy];simp
  simp only[hr,gA,e1,Bool.not_true,cond_false]
  rw[hs]
  generalize hP:p++x++[58]=P at*
  have ew:w64 ((P.length:Int)+(n:Int))=((P.length+n:Nat):Int):=by rw[Z5g ⟨by omega,by omega⟩];omega
  simp only[ew]
  by_cases hn:P.length+n<(P++y).length
  ·rw[leF (by rw[Z6A];omega),cond_false,ZDZ (by omega) (by rw[Z6A];omega),cond_true]
   have hny:n<y.length:=by rw[List.length_append]at hn;omega
   have hbyte:byteAt (S (P++y)) ((P.length+n:Nat):Int)=((y[n]'hny).toNat:Int):=by
    rw[ZF2 hn]
    congr 2
    rw[List.getElem_append_right (by omega)]
    congr 1;omega
   rw[hbyte,show eqI ((y[n]'hny).toNat:Int) 44=decide (y[n]'hny=44)from ZBz _ 44]
   by_cases h44:y[n]'hny=44
   ·rw[decide_eq_true h44]
    have hy:y=y.take n++44::y.drop (n+1):=by
     have:=List.take_append_drop n y
     rw[List.drop_eq_getElem_cons hny,h44]at this
     exact this.symm
    have htl:(y.take n).length=n:=by simp;omega
    generalize y.take n=r at*
    generalize y.drop (n+1)=z at*
    subst hy
    have hpl2:(P++r++[44]).length+z.length=(P++(r++44::z)).length:=by simp;omega
    have e5:w64 (((P.length+n:Nat):Int)+1)=((P++r++[44]).length:Nat):=by
     rw[Z5g ⟨by omega,by omega⟩];simp;omega
    have e6:in3 (P.length:Int) ((P.length+n:Nat):Int) (szI (S (P++(r++44::z))))=true:=ZHs (by omega) (by omega) (by rw[Z6A];omega)
    have e7:ext (S (P++(r++44::z))) P.length (P.length+n)=S r:=ZEt (by rw[htl])
    have hs2:P++(r++44::z)=(P++r++[44])++z:=by simp
    rw[e5,e6,Bool.not_true,cond_false,cond_true,Z84,Z84,e7]
    have hs3:S (P++(r++44::z))=S ((P++r++[44])++z):=by rw[hs2]
    rw[hs3]
    rcases ZIh 59 (P++r++[44]) z (by(first|omega|(simp only[List.length_append,List.length_cons,List.length_nil,List.length_map,List.length_take,List.length_drop,List.length_replicate,Z6A]at* <;>omega)))with ⟨x2,y2,hxy2,hx2,q12,q22,hr2⟩|⟨⟨a,b,hr2⟩,hno⟩
    ·rw[show(59:UInt8).toNat=59 from rfl]at hr2
     rw[show((59:Nat):Int)=59 from rfl]at hr2
     obtain⟨n2,f1,f2,f3⟩:=ZEs q12 q22
     simp only[hr2,gA,f1,cond_true,ZEK r (by simp at hb hpl2;omega)]
     by_cases hc:n2=chk r
     ·left
      rw[eqT (by rw[hc])]
      have ht:t=Z8j r++y2:=by
       rw[hxy,hxy2,e3,f3,hc]
       unfold Z8j
       rw[←htl]
       simp
      refine⟨r,y2,ht,?_⟩
      congr 4
      rw[←hP,f3,hc,e3,←htl]
      unfold Z8j
      (first|omega|(simp only[List.length_append,List.length_cons,List.length_nil,List.length_map,List.length_take,List.length_drop,List.length_replicate,Z6A]at* <;>omega))
     ·right
      rw[eqF (by omega)]
      refine⟨Z7U.mpr fun r' y' e=>?_,_,_,rfl⟩
      have ef:=Z9W e
      rw[hxy]at ef
      obtain⟨g1,g2⟩:=Z8B hx (h58 _) ef
      have hnr:n=r'.length:=by rw[e3]at g1;have:=ZA2 g1;omega
      obtain⟨g3,g4⟩:=List.append_inj g2 (by omega)
      simp only[List.cons.injEq,true_and]at g4
      rw[hxy2]at g4
      obtain⟨g5,_⟩:=Z8B hx2 (h59 _) g4
      rw[f3,←g3]at g5
      have:=ZA2 g5
      omega
    ·rw[show(59:UInt8).toNat=59 from rfl]at hr2
     rw[show((59:Nat):Int)=59 from rfl]at hr2
     right
     simp only[hr2,gA,cond_false]
     refine⟨Z7U.mpr fun r' y' e=>?_,_,_,rfl⟩
     have ef:=Z9W e
     rw[hxy]at ef
     obtain⟨g1,g2⟩:=Z8B hx (h58 _) ef
     have hnr:n=r'.length:=by rw[e3]at g1;have:=ZA2 g1;omega
     obtain⟨g3,g4⟩:=List.append_inj g2 (by omega)
     simp only[List.cons.injEq,true_and]at g4
     obtain⟨k1,k2⟩:=ZAS (n:=chk r') (by have:=ZDL r';omega)
     exact hno _ _ g4 (h59 _) ⟨k2,by rw[k1];omega⟩
   ·right
    rw[decide_eq_false h44]
    refine⟨Z7U.mpr fun r' y' e=>?_,_,_,rfl⟩
    have ef:=Z9W e
    rw[hxy]at ef
    obtain⟨g1,g2⟩:=Z8B hx (h58 _) ef
    have hnr:n=r'.length:=by rw[e3]at g1;have:=ZA2 g1;omega
    apply h44
    have:y[n]?=some 44:=by rw[g2,hnr];simp
    rw[List.getElem?_eq_getElem hny]at this
    exact Option.some.inj this
  ·right
   rw[leT (by rw[Z6A];omega)]
   refine⟨Z7U.mpr fun r' y' e=>?_,_,_,rfl⟩
   have ef:=Z9W e
   rw[hxy]at ef
   obtain⟨g1,g2⟩:=Z8B hx (h58 _) ef
   have hnr:n=r'.length:=by rw[e3]at g1;have:=ZA2 g1;omega
   apply hn
   rw[g2];simp;omega
 ·rw[show(58:UInt8).toNat=58 from rfl]at hr
  rw[show((58:Nat):Int)=58 from rfl]at hr
  right
  simp only[hr,gA,Bool.not_false,cond_true]
  refine⟨Z7U.mpr fun r y e=>?_,_,_,rfl⟩
  obtain⟨k1,k2⟩:=ZAS (n:=r.length) (hlen e)
  exact hno _ _ (Z9W e) (h58 _) ⟨k2,by rw[k1];omega⟩
theorem ZEW (s:List UInt8) (h:s.length<1000000000):callI tE Z7b [.str (S s)]=some [.sl ((Z9i s).1.map StE),.bool (Z9i s).2]:=by
 rw[ZBK]
 have key:∀(k:Nat) (p t:List UInt8) (acc:List (List UInt8)),t.length≤k→s=p++t→acc.length≤p.length→Z78 (S s) (p.length:Nat) (acc.map StE)=some [.sl ((acc++(Z9i t).1).map StE),.bool (Z9i t).2]:=by
  intro k
  induction k with
  |zero=>
   intro p t acc hk hs ha
   have:t=[]:=List.length_eq_zero_iff.mp (by omega)
   subst this
   rw[List.append_nil]at hs
   subst hs
   rw[Z7P,ZD7,ZBT];simp
  |succ k ih=>
   intro p t acc hk hs ha
   by_cases ht:t=[]
   ·subst ht
    rw[List.append_nil]at hs
    subst hs
    rw[Z7P,ZD7,ZBT];simp
   ·have htl:0<t.length:=List.length_pos_iff.mpr ht
    have hsl:s.length=p.length+t.length:=by rw[hs];simp
    rw[Z7P,ltT (by rw[Z6A];omega),cond_true,hs]
    rcases ZGT p t (by rw[←hs];omega)with ⟨r,y,e,hr⟩|⟨hf,a,b,hr⟩
    ·rw[hr]
     simp only[gA,Bool.not_true,cond_false]
     rw[Z5l,show fitM (Nat.succ acc.length) 16=true from Z9C (by omega),cond_true,ZDl,e,ZFM]
     have hrl:0<(Z8j r).length:=by unfold Z8j;(first|omega|(simp only[List.length_append,List.length_cons,List.length_nil,List.length_map,List.length_take,List.length_drop,List.length_replicate,Z6A]at* <;>omega))
     have:=ih (p++Z8j r) y (acc++[r]) (by rw[e]at hk;simp at hk;omega) (by rw[hs,e];simp) (by simp;omega)
     rw[hs,e]at this
     rw[this];simp
    ·rw[hr,ZEV ht hf]
     simp only[gA,Bool.not_false,cond_true,List.append_nil]
 exact key s.length [] s [] (by omega) rfl (by simp)
theorem ZIi (r:List UInt8) (h:r.length<4611686018427387904):callI tE Z7s [.str (S r)]=some [.str (S (Z8j r))]:=by
 have h1:=Z90 (n:=r.length) (by omega)
 have h2:=Z90 (n:=chk r) (by have:=ZDL r;omega)
 have hc:=ZDL r
 rw[ZDe,Z6A,Z6I ⟨by omega,by omega⟩]
 simp only[gA]
 rw[Z5j (by simp;omega),Z6L,Z5j (by simp;omega),Z6L,Z5j (by simp;omega),Z6L,ZGA r h]
 simp only[gA,cond_true]
 rw[Z6I ⟨by omega,by omega⟩]
 simp only[gA]
 rw[Z5j (by simp;omega),Z6L,Z5j (by simp;omega),Z6L]
 rfl
theorem ZIu (p t:List UInt8) (hb:(p++t).length<1000000000):callI tE Z9S [.str (S (p++t)),.int (p.length:Int)]=some (match ZCy t with
  |some r=>[Dat.str (S r),.int ((p++Z8j r).length:Nat)]
  |none=>[Dat.str (S []),.int (-1)]):=by
 rw[ZDf]
 have h58:∀n:Int,(58:UInt8)∉fmt n:=fun n=>ZBN (by decide) (by decide) n
 have fin:∀(x y:List UInt8),t=x++y→(58∉x)→(y=[]∨∃z,y=58::z)→(bif(in3 (p.length:Int) ((p++x).length:Nat) (szI (S (p++t))))then(((callI tE Z7E [(.str (ext (S (p++t)) (tn (p.length:Int)) (tn ((p++x).length:Nat))))])).bind (fun r0=>(bif(!(gb (tk 1 r0)))then(some [(.str (S [])),(.int (-1))])else(bif(ltI (gn r0) 0)then(some [(.str (S [])),(.int (-1))])else(bif(ltI (szI (S (p++t))) (w64 ((w64 (((p++x).length:Nat)+1))+(gn r0))))then(some [(.str (S [])),(.int (-1))])else(bif(in3 (w64 (((p++x).length:Nat)+1)) (w64 ((w64 (((p++x).length:Nat)+1))+(gn r0))) (szI (S (p++t))))then(((callI tE Z7s [(.str (ext (S (p++t)) (tn (w64 (((p++x).length:Nat)+1))) (tn (w64 ((w64 (((p++x).length:Nat)+1))+(gn r0))))))])).bind (fun r1=>(bif(ltI (szI (S (p++t))) (w64 ((p.length:Int)+(szI (gs r1)))))then(some [(.str (S [])),(.int (-1))])else(bif(in3 (p.length:Int) (w64 ((p.length:Int)+(szI (gs r1)))) (szI (S (p++t))))then(bif(!(eqS (ext (S (p++t)) (tn (p.length:Int)) (tn (w64 ((p.length:Int)+(szI (gs r1)))))) (gs r1)))then(some [(.str (S [])),(.int (-1))])else(some [(.str (ext (S (p++t)) (tn (w64 (((p++x).length:Nat)+1))) (tn (w64 ((w64 (((p++x).length:Nat)+1))+(gn r0)))))),(.int (w64 ((p.length:Int)+(szI (gs r1)))))]))else none))))else none))))))else none)=some (match ZCy t with
  |some r=>[Dat.str (S r),.int ((p++Z8j r).length:Nat)]
  |none=>[Dat.str (S []),.int (-1)]):=by
  intro x y hxy hx hy
  have hpl:(p++x).length+y.length=(p++t).length:=by rw[hxy];simp;omega
  have e1:in3 (p.length:Int) ((p++x).length:Nat) (szI (S (p++t)))=true:=ZHs (by omega) (by(first|omega|(simp only[List.length_append,List.length_cons,List.length_nil,List.length_map,List.length_take,List.length_drop,List.length_replicate,Z6A]at* <;>omega))) (by rw[Z6A];omega)
  have e2:ext (S (p++t)) p.length (p++x).length=S x:=by rw[hxy,←List.append_assoc];exact ZEi p x y
  rw[e1,Z84,Z84,e2,ZGD x (by(first|omega|(simp only[List.length_append,List.length_cons,List.length_nil,List.length_map,List.length_take,List.length_drop,List.length_replicate,Z6A]at* <;>omega))),ZI5]
  simp only[gA,cond_true]
  have back:∀r z,t=Z8j r++z→x=fmt (r.length:Nat)∧y=58::(r++44::(fmt (chk r:Nat)++59::z))∧r.length<1000000000:=fun r z e=>by
   have ef:=Z9W e
   have hl:r.length<1000000000:=by
    rw[e]at hb
    unfold Z8j at hb
    simp only[List.length_append]at hb
    omega
   rcases hy with rfl|⟨z',rfl⟩
   ·rw[List.append_nil]at hxy
    rw[hxy]at ef
    exact absurd (by rw[ef];simp) hx
   ·rw[hxy]at ef
    obtain⟨g1,g2⟩:=Z8B hx (h58 _) ef
    exact⟨g1,by rw[g2],hl⟩
  cases hn:isN x with
  |false=>
   rw[Z7U.mpr fun r z e=>?_]
   ·rfl
   ·obtain⟨g1,g2,g3⟩:=back r z e
    rw[g1,(ZAS g3).2]at hn
    cases hn
  |true=>
   rw[Bool.not_true,cond_false]
   by_cases h0:num x<0
   ·rw[ltT h0,cond_true,Z7U.mpr fun r z e=>?_]
    obtain⟨g1,g2,g3⟩:=back r z e
    rw[g1,(ZAS g3).1]at h0
    omega
   ·rw[ltF (by omega),cond_false]
    obtain⟨n,f1,f2,f3⟩:=ZEs hn (by omega)
    have e3:w64 (((p++x).length:Nat)+1)=((p++x).length+1:Nat):=Z7k (by omega)
    have e4:w64 ((((p++x).length+1:Nat):Int)+(n:Int))=((p++x).length+1+n:Nat):=by rw[Z5g ⟨by omega,by omega⟩];omega
    rw[f1,e3,e4,Z6A]
    by_cases hlt:(p++t).length<(p++x).length+1+n
    ·rw[ltT (by omega),cond_true,Z7U.mpr fun r z e=>?_]
     obtain⟨g1,g2,g3⟩:=back r z e
     have:n=r.length:=by rw[f3]at g1;have:=ZA2 g1;omega
     rw[g2]at hpl
     simp at hpl hlt
     omega
    ·rw[ltF (by omega),cond_false,ZHs (by omega) (by omega) (by omega),cond_true,Z84,Z84]
     obtain⟨z,rfl⟩:∃z,y=58::z:=by
      rcases hy with rfl|hy
      ·simp at hpl hlt;omega
      ·exact hy
     have hzl:n≤z.length:=by simp at hpl hlt;omega
     have hs2:p++t=(p++x++[58])++(z.take n++z.drop n):=by rw[hxy,List.take_append_drop];simp
     have e5:ext (S (p++t)) ((p++x).length+1) ((p++x).length+1+n)=S (z.take n):=by
      rw[hs2,show(p++x).length+1=(p++x++[58]).length by(first|omega|(simp only[List.length_append,List.length_cons,List.length_nil,List.length_map,List.length_take,List.length_drop,List.length_replicate,Z6A]at* <;>omega))]
      exact ZEt (by simp;omega)
     rw[e5,ZIi _ (by simp;omega)]
     simp only[gA]
     generalize hr:z.take n=r at*
     have hrl:r.length=n:=by rw[←hr];simp;omega
     obtain⟨_,l2⟩:=ZDv (r:=r) (by omega)
     have e6:w64 ((p.length:Int)+szI (S (Z8j r)))=((p++Z8j r).length:Nat):=by rw[Z6A,Z5g ⟨by omega,by simp at hb;omega⟩];simp
     rw[e6]
     by_cases hle:(p++Z8j r).length≤(p++t).length
     ·rw[ltF (by omega),cond_false,ZHs (by omega) (by(first|omega|(simp only[List.length_append,List.length_cons,List.length_nil,List.length_map,List.length_take,List.length_drop,List.length_replicate,Z6A]at* <;>omega))) (by omega),cond_true]
      simp only[Z84]
      have e7:ext (S (p++t)) p.length (p++Z8j r).length=S (t.take (Z8j r).length):=by
       have hts:p++t=p++(t.take (Z8j r).length++t.drop (Z8j r).length):=by rw[List.take_append_drop]
       rw[hts]
       exact ZEt (by simp at hle⊢;omega)
      rw[e7,ZHN]
      by_cases he:t.take (Z8j r).length=Z8j r
      ·rw[decide_eq_true he,ZBv.mpr ⟨t.drop (Z8j r).length,by
        have:=List.take_append_drop (Z8j r).length t
        rw[he]at this;exact this.symm⟩]
       rfl
      ·rw[decide_eq_false he,Z7U.mpr fun r' z' e=>he ?_]
       ·rfl
       ·obtain⟨g1,g2,g3⟩:=back r' z' e
        have hn':n=r'.length:=by rw[f3]at g1;have:=ZA2 g1;omega
        simp only[List.cons.injEq,true_and]at g2
        have:r=r':=by rw[←hr,g2,hn',List.take_left' rfl]
        rw[e,this,List.take_left' rfl]
     ·rw[ltT (by omega),cond_true,Z7U.mpr fun r' z' e=>hle ?_]
      obtain⟨g1,g2,g3⟩:=back r' z' e
      have hn':n=r'.length:=by rw[f3]at g1;have:=ZA2 g1;omega
      simp only[List.cons.injEq,true_and]at g2
      have:r=r':=by rw[←hr,g2,hn',List.take_left' rfl]
      rw[e,this];simp
 have key:∀(v u:List UInt8),t=u++v→58∉u→Z8f (S (p++t)) (p.length:Int) ((p++u).length:Nat)=some (match ZCy t with
  |some r=>[Dat.str (S r),.int ((p++Z8j r).length:Nat)]
  |none=>[Dat.str (S []),.int (-1)]):=by
  intro v
  induction v with
  |nil=>
   intro u hu hne
   have:=fin u [] hu hne (.inl rfl)
   rw[List.append_nil]at hu
   rw[←this,Z8g]
   subst hu
   rw[ZD7];rfl
  |cons c v ih=>
   intro u hu hne
   have hs:p++t=(p++u)++c::v:=by rw[hu];simp
   have hpl:(p++u).length<4611686018427387904:=by rw[hs]at hb;simp only[List.length_append]at hb⊢;omega
   have e1:=ZH2 (p++u) v c
   have e2:=ZH3 (p++u) v c
   have e3:=ZGd (p++u) v c
   rw[←hs]at e1 e2 e3
   by_cases hc:c=58
   ·have:=fin u (c::v) hu hne (.inr ⟨v,by rw[hc]⟩)
    rw[←this,Z8g,e1,e2,e3,show eqI (c.toNat:Int) 58=true from(ZBz c 58).trans (decide_eq_true hc)]
    rfl
   ·have ih':=ih (u++[c]) (by rw[hu];simp) (by simp only[List.mem_append,List.mem_singleton,not_or];exact⟨hne,fun h=>hc h.symm⟩)
    rw[←ih',Z8g,e1,e2,e3,show eqI (c.toNat:Int) 58=false from(ZBz c 58).trans (decide_eq_false hc),Z7k (by omega)]
    simp only[cond_true,Bool.not_false]
    congr 2
    simp
    omega
 have:=key t [] rfl (by simp)
 rw[List.append_nil]at this
 exact this
theorem ZEX (s:List UInt8) (h:s.length<1000000000):callI tE Z7a [.str (S s)]=some [.sl ((Z9i s).1.map StE),.bool (Z9i s).2]:=by
 rw[ZBJ]
 have key:∀(k:Nat) (p t:List UInt8) (acc:List (List UInt8)),t.length≤k→s=p++t→acc.length≤p.length→Z77 (S s) (p.length:Nat) (acc.map StE)=some [.sl ((acc++(Z9i t).1).map StE),.bool (Z9i t).2]:=by
  intro k
  induction k with
  |zero=>
   intro p t acc hk hs ha
   have:t=[]:=List.length_eq_zero_iff.mp (by omega)
   subst this
   rw[List.append_nil]at hs
   subst hs
   rw[Z7O,ZD7,ZBT];simp
  |succ k ih=>
   intro p t acc hk hs ha
   by_cases ht:t=[]
   ·subst ht
    rw[List.append_nil]at hs
    subst hs
    rw[Z7O,ZD7,ZBT];simp
   ·have htl:0<t.length:=List.length_pos_iff.mpr ht
    have hsl:s.length=p.length+t.length:=by rw[hs];simp
    rw[Z7O,ltT (by rw[Z6A];omega),cond_true,hs,ZIu p t (by rw[←hs];omega)]
    cases hf:ZCy t with
    |none=>
     rw[ZEV ht hf]
     simp only[gA,ltT (show(-1:Int)<0 by decide),cond_true,List.append_nil]
    |some r=>
     obtain⟨y,e⟩:=ZBv.mp hf
     simp only[gA]
     rw[ltF (by omega),cond_false,Z5l,show fitM (Nat.succ acc.length) 16=true from Z9C (by omega),cond_true,ZDl,e,ZFM]
     have hrl:0<(Z8j r).length:=by unfold Z8j;(first|omega|(simp only[List.length_append,List.length_cons,List.length_nil,List.length_map,List.length_take,List.length_drop,List.length_replicate,Z6A]at* <;>omega))
     have:=ih (p++Z8j r) y (acc++[r]) (by rw[e]at hk;simp at hk;omega) (by rw[hs,e];simp) (by simp;omega)
     rw[hs,e]at this
     rw[this];simp
 exact key s.length [] s [] (by omega) rfl (by simp)
noncomputable def ZHq (j r:List UInt8):List Dat:=bif(Z9i j).2&&leN (j++Z8j r).length 20000 then[.str (S (j++Z8j r)),.bool true]else[.str (S j),.bool false]
theorem ZBU (j r:List UInt8) (h:j.length<1000000000) (hr:r.length<1000000000):callI tE Z7M [.str (S j),.str (S r)]=some (ZHq j r):=by
 obtain⟨l1,l2⟩:=ZDv (r:=r) (by omega)
 simp only[ZB4,ZEX j h,ZIi r (by omega),gA]
 unfold ZHq
 cases hw:(Z9i j).2
 ·rfl
 ·rw[Z6A,Z6A,Z5g ⟨by omega,by omega⟩,Z5j (by omega),Z6L]
  by_cases hle:(j++Z8j r).length≤20000
  ·rw[ltF (by simp at hle;omega),ZIP hle];rfl
  ·rw[ltT (by simp at hle;omega),show leN (j++Z8j r).length 20000=false from decide_eq_false hle];rfl
theorem ZBV (j r:List UInt8) (h:j.length<1000000000) (hr:r.length<1000000000):callI tE Z7N [.str (S j),.str (S r)]=some (ZHq j r):=by
 obtain⟨l1,l2⟩:=ZDv (r:=r) (by omega)
 have h1:=Z90 (n:=r.length) (by omega)
 have h2:=Z90 (n:=chk r) (by have:=ZDL r;omega)
 have hc:=ZDL r
 have e:j++fmt (r.length:Nat)++[58]++r++[44]++fmt (chk r:Nat)++[59]=j++Z8j r:=by unfold Z8j;simp
 simp only[ZB5,ZEW j h,ZEK r (by omega),Z6A,Z67 (n:=(r.length:Int)) ⟨by omega,by omega⟩,Z67 (n:=((chk r:Nat):Int)) ⟨by omega,by omega⟩,gA]
 rw[Z5j (by omega),Z6L,Z5j (by simp;omega),Z6L,Z5j (by simp;omega),Z6L,Z5j (by simp;omega),Z6L,Z5j (by simp;omega),Z6L,Z5j (by simp;omega),Z6L,e,Z6A]
 simp only[cond_true]
 unfold ZHq
 cases hw:(Z9i j).2
 ·rfl
 ·by_cases hle:(j++Z8j r).length≤20000
  ·rw[ltF (by omega),ZIP hle];rfl
  ·rw[ltT (by omega),show leN (j++Z8j r).length 20000=false from decide_eq_false hle];rfl
def So.zero:So:=⟨[],0,[],[],[],[],0,0,0,0⟩
def Jn.zero:Jn:=⟨[],0,0⟩
def Ag.zero:Ag:=⟨[],0,false⟩
def Tk.zero:Tk:=⟨0,[],[],[],0⟩
def Opr.zero:Opr:=⟨0,So.zero,Jn.zero,Ag.zero⟩
def ZGU (l:List Rw):So×Bool:=if aok l then(⟨l,0,[],[],[],[],0,0,1,0⟩,true)else(So.zero,false)
def SoB (x:So×Bool):List Dat:=x.1.e++[.bool x.2]
theorem ZID (l:List Rw):callI tE Z9F [.sl (l.map Rw.e)]=some (SoB (ZGU l)):=by
 rw[ZCD,ZAX]
 simp only[gA]
 unfold ZGU
 cases h:aok l
 ·rfl
 ·have:=Z85 h
  rw[ZBx l (by omega)];rfl
theorem ZIE (l:List Rw) (hl:l.length≤1073741824):callI tE Z9D [.sl (l.map Rw.e)]=some (SoB (ZGU l)):=by
 rw[ZCC,ZA6 l (by omega)]
 simp only[gA]
 unfold ZGU
 cases h:aok l
 ·rfl
 ·rw[Z5l,show fitM (0+l.length) 24=true from Z9C (by omega)];rfl
theorem ZFN:∀{l:List (List Rw)},szL List.length l=l.length+l.flatten.length
 |[]=>rfl
 |a::l=>by
  have:=ZFN (l:=l)
  simp only[szL,List.length_cons,List.flatten_cons,List.length_append];omega
theorem ZCz {s:So} (hv:Z9u s=true):s.sz≤200∧s.runs.length≤24:=by
 obtain⟨o1,⟨o2,o2'⟩,o3,o4,o5,o6,o7⟩:=Z8R hv
 obtain⟨r1,r2,r3⟩:=ZCs hv
 have a1:=Z85 o1
 have a2:=Z85 r1
 have a3:=Z85 r2
 have a4:=Z85 r3
 have hr:=ZDs o3
 have hs:=ZFN (l:=s.runs)
 have hf:s.runs.flatten.length≤24:=by
  by_cases h1:s.ph=1
  ·have:=(ZAR o7 h1).2.2.2.2.length_eq
   simp only[List.length_append,List.length_take]at this
   omega
  ·have:=(Z8G o7 h1).2.2.2.1.length_eq
   omega
 simp only[So.sz]
 exact⟨by omega,by omega⟩
theorem ZGV {s:So} (hv:Z9u s=true):s.B2:=by have:=(ZCz hv).1;show s.sz≤1073741800;omega
theorem ZFO (s:So):(rest s).length≤s.inp.length:=by
 unfold rest
 have:=(Z7T s.inp).length_eq
 split
 ·simp;omega
 ·split
  ·simp
  ·omega
theorem ZGW {s:So} (hv:Z9u s=true):ZBS s≤1000:=by
 obtain⟨o1,⟨o2,o2'⟩,o3,o4,o5,o6,o7⟩:=Z8R hv
 obtain⟨r1,r2,r3⟩:=ZCs hv
 have a1:=Z85 o1
 have a2:=Z85 r1
 have a3:=Z85 r2
 have hr:=(ZCz hv).2
 have m1:s.inp.length*(s.inp.length+2)≤24*26:=Nat.mul_le_mul (by omega) (by omega)
 unfold ZBS
 split
 ·split<;>omega
 ·rename_i h1
  split
  ·have hl:=(Z8G o7 h1).2.2.2.1.length_eq
   have hrl:=ZDs o3
   have m2:(s.runs.length-1)*(s.inp.length+2)≤23*26:=Nat.mul_le_mul (by omega) (by omega)
   omega
  ·split<;>omega
def ZGX (l:List Int):Bool:=(l.all fun g=>win g 8 60)&&decide (0<l.length)
theorem ZIF {l:List Int} (h:ZGX l=true):(∀g∈l,win g 8 60=true)∧0<l.length:=by
 simp only[ZGX,Bool.and_eq_true,decide_eq_true_eq,List.all_eq_true]at h
 exact h
theorem ZGY (l:List Int):ltI 0 (lenI (l.map ZA4))=decide (0<l.length):=by
 rw[Z5L];unfold ltI;congr 1;apply propext;omega
theorem ZFP (l:List Int) (hl:l.length≤4611686018427387904):∀(v u:List Int),l=u++v→Z7f (l.map ZA4) (l.map ZA4) (lenI (l.map ZA4)) (u.length:Int)=some [.bool ((v.all fun g=>win g 8 60)&&decide (0<l.length))]
 |[],u,e=>by
  rw[List.append_nil]at e
  rw[Z9B,show ltI (u.length:Int) (lenI (l.map ZA4))=false by rw[e];exact ZDE u,cond_false,ZGY];rfl
 |c::v,u,e=>by
  have hul:u.length<l.length:=by rw[e];simp
  have ih:=ZFP l hl v (u++[c]) (by rw[e];simp)
  rw[List.length_append]at ih
  simp only[List.length_cons,List.length_nil,Nat.zero_add]at ih
  have h1:ltI (u.length:Int) (lenI (l.map ZA4))=true:=by rw[e];exact ZDD u v c
  have h2:at' (l.map ZA4) u.length=ZA4 c:=by rw[e];exact ZDC u v c
  have h3:inR (u.length:Int) (lenI (l.map ZA4))=true:=by rw[e];exact ZDz u v c
  rw[Z9B,h1,h3,Z84,h2,Z7k (i:=u.length) (by omega),ih]
  simp only[cond_true,ZA4,ZFK,gA,List.all_cons]
  cases win c 8 60<;>rfl
theorem ZHe (l:List Int) (hl:l.length≤4611686018427387904):callI tE Z8F [.sl (l.map ZA4)]=some [.bool (ZGX l)]:=by
 rw[ZCF];exact ZFP l hl l [] rfl
theorem ZFQ (l:List Int) (hl:l.length≤4611686018427387904):∀(v u:List Int),l=u++v→Z7e (l.map ZA4) (u.length:Int)=some [.bool ((v.all fun g=>win g 8 60)&&decide (0<l.length))]
 |[],u,e=>by
  rw[List.append_nil]at e
  rw[Z99,show ltI (u.length:Int) (lenI (l.map ZA4))=false by rw[e];exact ZDE u,cond_false,ZGY];rfl
 |c::v,u,e=>by
  have hul:u.length<l.length:=by rw[e];simp
  have ih:=ZFQ l hl v (u++[c]) (by rw[e];simp)
  rw[List.length_append]at ih
  simp only[List.length_cons,List.length_nil,Nat.zero_add]at ih
  have h1:ltI (u.length:Int) (lenI (l.map ZA4))=true:=by rw[e];exact ZDD u v c
  have h2:at' (l.map ZA4) u.length=ZA4 c:=by rw[e];exact ZDC u v c
  have h3:inR (u.length:Int) (lenI (l.map ZA4))=true:=by rw[e];exact ZDz u v c
  rw[Z99,h1,h3,Z84,h2,Z7k (i:=u.length) (by omega),ih]
  simp only[cond_true,ZA4,ZAw,gA,List.all_cons]
  cases win c 8 60<;>rfl
theorem ZHf (l:List Int) (hl:l.length≤4611686018427387904):callI tE Z8E [.sl (l.map ZA4)]=some [.bool (ZGX l)]:=by
 rw[ZCE];exact ZFQ l hl l [] rfl
def gAt (l:List Int) (n:Nat):Int:=l.getD (n%l.length) 0
theorem ZHg {l:List Int} (h:ZGX l=true) (n:Nat):eqI (lenI (l.map ZA4)) 0=false∧inR (Int.tmod (n:Int) (lenI (l.map ZA4))) (lenI (l.map ZA4))=true∧gn (at' (l.map ZA4) (tn (Int.tmod (n:Int) (lenI (l.map ZA4)))))=gAt l n∧win (gAt l n) 8 60=true:=by
 obtain⟨h1,h2⟩:=ZIF h
 have hk:n%l.length<l.length:=Nat.mod_lt _ h2
 have hx:l[n%l.length]?=some (l[n%l.length]):=List.getElem?_eq_getElem hk
 have e:Int.tmod (n:Int) (lenI (l.map ZA4))=((n%l.length:Nat):Int):=by rw[Z5L];rfl
 have hg:gAt l n=l[n%l.length]:=by unfold gAt;simp[List.getD_eq_getElem?_getD,hx]
 rw[e]
 refine⟨eqF (by rw[Z5L];omega),ZH8 hx,?_,?_⟩
 ·rw[Z84,ZH7 hx,hg];rfl
 ·rw[hg];exact h1 _ (List.getElem_mem hk)
theorem ZDw {s:So} {l:List Int} {n k:Nat} (hv:Z9u s=true) (hg:ZGX l=true) (h4:¬s.ph=4) (hk:ZBS s≤k) (hw:s.wr+4*(k:Int)≤1000000000000):∃(s':So) (em:List Rw),ZAp s (gAt l n)=(s',em,true)∧Z9u s'=true∧ZBS s'<ZBS s∧s'.wr≤s.wr+4∧s'.inp=s.inp∧rest s=em++rest s':=by
 have hb:ZEp s (gAt l n)=true:=by
  simp only[ZEp,Bool.and_eq_true,Bool.not_eq_true']
  exact⟨hv,(ZHg hg n).2.2.2,eqF h4⟩
 obtain⟨h1,h2⟩:=ZHc hb (by omega)
 generalize hst:ZAp s (gAt l n)=r at*
 obtain⟨s',em,b⟩:=r
 simp only at h1 h2
 subst h2
 exact⟨s',em,rfl,h1.ok,h1.less,h1.wr.2,h1.inp,h1.rest⟩
def Z8l (l:List Rw):So:=⟨l,0,[],[],[],[],0,0,1,0⟩
theorem ZFR {l:List Rw} (h:aok l=true):Z9u (Z8l l)=true∧rest (Z8l l)=ZAO l∧(Z8l l).wr=0:=
 ⟨Z9I h ⟨by simp[Z8l],by simp[Z8l]⟩ (fun r hr=>by cases hr) (by simp[Z8l]) .nil (fun r hr=>by cases hr) (ZAE rfl rfl rfl (.inr rfl) (by simp[ZBp,Z8l,Z86]) (by simp[Z8l])),rfl,rfl⟩
theorem ZFS (l:List Rw):ZGU l=if aok l then(Z8l l,true)else(So.zero,false):=rfl
noncomputable def apB (j r:List UInt8):List UInt8×Bool:=if((Z9i j).2&&leN (j++Z8j r).length 20000)=true then(j++Z8j r,true)else(j,false)
theorem ZDx (j r:List UInt8):ZHq j r=[.str (S (apB j r).1),.bool (apB j r).2]:=by
 unfold ZHq apB
 cases(Z9i j).2&&leN (j++Z8j r).length 20000<;>rfl
theorem ZDy {j r:List UInt8} (h:j.length≤20000):(apB j r).1.length≤20000:=by
 unfold apB
 split
 ·rename_i hh
  simp only[Bool.and_eq_true,leN,decide_eq_true_eq]at hh
  exact hh.2
 ·exact h
noncomputable def ZGZ (g:List Int) (k:Nat):Nat→So→Nat→List Rw→List UInt8→List UInt8×Bool
 |0,_,_,_,j=>(j,true)
 |f+1,s,n,acc,j=>
  if s.ph=4 then(j,true)
  else if n%k+1=k then
   (let r:=apB j (ZAG ⟨(ZAp s (gAt g n)).1,acc++(ZAp s (gAt g n)).2.1⟩)
       if r.2=true then ZGZ g k f (ZAp s (gAt g n)).1 (n+1) (acc++(ZAp s (gAt g n)).2.1) r.1 else r)
  else ZGZ g k f (ZAp s (gAt g n)).1 (n+1) (acc++(ZAp s (gAt g n)).2.1) j
theorem ZEY {s:So} (hv:Z9u s=true) (hw:s.wr≤1000000000000):s.nb:=by
 obtain⟨o1,⟨o2,o2'⟩,o3,o4,o5,o6,o7⟩:=Z8R hv
 have a1:=Z85 o1
 have hsz:=ZCz hv
 have key:(0≤s.lp∧s.lp≤1000)∧(0≤s.rp∧s.rp≤1000)∧(0≤s.ph∧s.ph≤4):=by
  by_cases h1:s.ph=1
  ·obtain⟨q1,q2,_⟩:=ZAR o7 h1
   omega
  ·obtain⟨q1,_,_,q4,q5⟩:=Z8G o7 h1
   rcases ZAe q5 with p|p|p
   ·obtain⟨a,b,r,e,h2,h3,_⟩:=ZBQ q5 p
    have hs:=hsz.1
    simp only[So.sz,e,szL]at hs
    omega
   ·obtain⟨h2,h3,h4,h5⟩:=ZBR q5 p
    omega
   ·obtain⟨h2,h3,h4,h5⟩:=ZFG q5 p
    omega
 obtain⟨k1,k2,k3⟩:=key
 exact⟨⟨by omega,by omega⟩,⟨by omega,by omega⟩,⟨by omega,by omega⟩,⟨by omega,by omega⟩,⟨by omega,by omega⟩⟩
theorem ZBW {c:Ck} (hw:c.so.wr≤1000000000000):(ZAG c).length≤1000000:=by
 unfold ZAG
 split
 ·rename_i h
  have hv:=(ZGR h).1
  obtain⟨b1,b2,b3,b4,b5⟩:=ZEY hv hw
  have hsz:=ZCz hv
  have hs:=hsz.1
  simp only[So.sz]at hs
  have a1:=Z6D b1
  have a2:=Z6D b2
  have a3:=Z6D b3
  have a4:=Z6D b4
  have a5:=Z6D b5
  have l1:=Z66 c.so.inp
  have l2:=Z66 c.so.heap
  have l3:=Z66 c.so.dfd
  have l4:=Z66 c.so.out
  have l5:=Z9f c.so.runs
  have l6:=Z66 c.em
  rw[ZDu,ZDp]
  simp only[List.length_append,List.length_cons,List.length_nil]
  omega
 ·simp
theorem ZFT {n k:Nat} (h:0<k):(n+1)%k=0↔n%k+1=k:=by
 have h1:=Nat.mod_lt n h
 rw[←Nat.mod_add_mod]
 constructor
 ·intro h2
  by_cases h3:n%k+1<k
  ·rw[Nat.mod_eq_of_lt h3]at h2;omega
  ·omega
 ·intro h2
  rw[h2,Nat.mod_self]
theorem ZFU (a b:Nat):Int.tmod (a:Int) (b:Int)=((a%b:Nat):Int):=rfl
theorem ZIR {s:So} {acc:List Rw} (hv:Z9u s=true) (hl:acc.length≤1000000):(⟨s,acc⟩:Ck).B2:=by
 have:=(ZCz hv).1
 show s.sz+acc.length≤1073741800
 omega
theorem ZGa (gs:List Int) (hg:ZGX gs=true) {k:Nat} (hk:0<k) {x1 x2 x3 x4 x5 y1 y2 y3 y4 y5:Int} {z1 z2 z3 z4 z5:Rows}:∀(f:Nat) (s:So) (n:Nat) (acc:List Rw) (j:List UInt8),ZBS s≤f→Z9u s=true→s.wr+4*(f:Int)≤1000000000→n+f≤1000000000→acc.length+24*f≤1000000→j.length≤20000→
  ∃(s':So) (acc':List Rw),Z8d (gs.map ZA4) x1 x2 x3 x4 x5 (n:Int) (k:Int) (S j) s.pos s.lp s.rp s.ph s.wr y1 y2 y3 y4 y5 (acc.map Rw.e) (s.inp.map Rw.e) (s.heap.map Rw.e) (s.dfd.map Rw.e) (s.out.map Rw.e) (s.runs.map rsE) z1 z2 z3 z4 z5=some (s'.e++[.bool (ZGZ gs k f s n acc j).2,.sl (acc'.map Rw.e),.int k,.str (S (ZGZ gs k f s n acc j).1)]):=by
 intro f
 induction f with
 |zero=>
  intro s n acc j hm hv hw hn hl hj
  have h4:s.ph=4:=by
   by_cases h:s.ph=4
   ·exact h
   ·obtain⟨s',em,_,_,h2,_⟩:=ZDw (n:=n) hv hg h (k:=0) hm (by omega)
    omega
  refine⟨s,acc,?_⟩
  rw[Z8e,eqT h4,Bool.not_true,cond_false];rfl
 |succ f ih=>
  intro s n acc j hm hv hw hn hl hj
  by_cases h4:s.ph=4
  ·refine⟨s,acc,?_⟩
   rw[Z8e,eqT h4,Bool.not_true,cond_false,ZGZ,if_pos h4];rfl
  ·obtain⟨s',em,e1,e2,e3,e4,e5,e6⟩:=ZDw (n:=n) hv hg h4 (k:=f+1) hm (by omega)
   obtain⟨q1,q2,q3,q4⟩:=ZHg hg n
   have hs:=ZHY s (gAt gs n) (ZGV hv)
   rw[e1]at hs
   have hem:em.length≤24:=by
    have:=congrArg List.length e6
    have r1:=ZFO s
    have r2:=Z85 (Z8R hv).1
    simp only[List.length_append]at this
    omega
   have hael:(acc++em).length≤1000000:=by simp only[List.length_append];omega
   have hF:=ZET ⟨s',acc++em⟩ (ZIR e2 hael) (ZEY (s:=s') e2 (by omega))
   have hA:=ZBV j (ZAG ⟨s',acc++em⟩) (by omega) (by have:=ZBW (c:=⟨s',acc++em⟩) (show s'.wr≤1000000000000 by omega);omega)
   simp only at hF
   have hmod:eqI (((n+1)%k:Nat):Int) 0=decide (n%k+1=k):=by
    by_cases h:(n+1)%k=0
    ·rw[eqT (by omega),decide_eq_true ((ZFT hk).mp h)]
    ·rw[eqF (by omega),decide_eq_false (fun h2=>h ((ZFT hk).mpr h2))]
   rw[Z8e,eqF h4,Bool.not_false,cond_true,q1,Bool.not_false,cond_true,q2,cond_true,q3,hs]
   simp only[StR,gA,Bool.not_true,cond_false,Z9a,Z5l]
   rw[Z9C (by omega),cond_true,Z7k (i:=n) (by omega),eqF (show(k:Int)≠0 by omega),Bool.not_false,cond_true,ZFU,hmod,Z9s,hF]
   rw[ZGZ,if_neg h4,e1]
   by_cases hc:n%k+1=k
   ·rw[decide_eq_true hc,if_pos hc]
    simp only[cond_true,gA,hA,ZDx]
    have hap:=ZDy (r:=ZAG ⟨s',acc++em⟩) hj
    generalize apB j (ZAG ⟨s',acc++em⟩)=r at*
    obtain⟨j2,b⟩:=r
    cases b with
    |false=>exact⟨s',acc++em,rfl⟩
    |true=>
     obtain⟨s2,acc2,ih2⟩:=ih s' (n+1) (acc++em) j2 (by omega) e2 (by omega) (by omega) (by simp only[List.length_append];omega) hap
     exact⟨s2,acc2,ih2⟩
   ·rw[decide_eq_false hc,if_neg hc]
    obtain⟨s2,acc2,ih2⟩:=ih s' (n+1) (acc++em) j (by omega) e2 (by omega) (by omega) (by simp only[List.length_append];omega) hj
    exact⟨s2,acc2,ih2⟩
theorem ZGb (gs:List Int) (hg:ZGX gs=true) {k:Nat} (hk:0<k) (hk2:k≤100) {x2:Int}:∀(f:Nat) (s:So) (n:Nat) (acc:List Rw) (j:List UInt8),ZBS s≤f→Z9u s=true→s.wr+4*(f:Int)≤1000000000→n+f≤1000000000→acc.length+24*f≤1000000→j.length≤20000→
  Z5u (gs.map ZA4) (k:Int) x2 (S j) true (n:Int) s.pos s.lp s.rp s.ph s.wr (s.inp.map Rw.e) (s.heap.map Rw.e) (s.dfd.map Rw.e) (s.out.map Rw.e) (s.runs.map rsE) (acc.map Rw.e)=some [.str (S (ZGZ gs k f s n acc j).1),.bool (ZGZ gs k f s n acc j).2]:=by
 intro f
 induction f with
 |zero=>
  intro s n acc j hm hv hw hn hl hj
  have h4:s.ph=4:=by
   by_cases h:s.ph=4
   ·exact h
   ·obtain⟨s',em,_,_,h2,_⟩:=ZDw (n:=n) hv hg h (k:=0) hm (by omega)
    omega
  rw[Z5k,eqT h4,Bool.not_true,cond_false];rfl
 |succ f ih=>
  intro s n acc j hm hv hw hn hl hj
  by_cases h4:s.ph=4
  ·rw[Z5k,eqT h4,Bool.not_true,cond_false,ZGZ,if_pos h4]
  ·obtain⟨s',em,e1,e2,e3,e4,e5,e6⟩:=ZDw (n:=n) hv hg h4 (k:=f+1) hm (by omega)
   obtain⟨q1,q2,q3,q4⟩:=ZHg hg n
   have hs:=ZHZ s (gAt gs n) (ZGV hv)
   rw[e1]at hs
   have hem:em.length≤24:=by
    have:=congrArg List.length e6
    have r1:=ZFO s
    have r2:=Z85 (Z8R hv).1
    simp only[List.length_append]at this
    omega
   have hael:(acc++em).length≤1000000:=by simp only[List.length_append];omega
   have hF:=ZEU ⟨s',acc++em⟩ (ZIR e2 hael) (ZEY (s:=s') e2 (by omega))
   have hA:=ZBU j (ZAG ⟨s',acc++em⟩) (by omega) (by have:=ZBW (c:=⟨s',acc++em⟩) (show s'.wr≤1000000000000 by omega);omega)
   simp only at hF
   have hmod:eqI ((n%k:Nat):Int) (w64 ((k:Int)-1))=decide (n%k+1=k):=by
    rw[Z5g ⟨by omega,by omega⟩]
    by_cases h:n%k+1=k
    ·rw[eqT (by omega),decide_eq_true h]
    ·rw[eqF (by omega),decide_eq_false h]
   rw[Z5k,eqF h4,Bool.not_false,cond_true,cond_true,q1,Bool.not_false,cond_true,q2,cond_true,q3,hs]
   simp only[StR,gA,Z5l]
   rw[Z9C (by omega),cond_true,eqF (show(k:Int)≠0 by omega),Bool.not_false,cond_true,ZFU,hmod,Z7k (i:=n) (by omega),Z9s,hF]
   rw[ZGZ,if_neg h4,e1]
   by_cases hc:n%k+1=k
   ·rw[decide_eq_true hc,if_pos hc]
    simp only[cond_true,gA,hA,ZDx]
    have hap:=ZDy (r:=ZAG ⟨s',acc++em⟩) hj
    generalize apB j (ZAG ⟨s',acc++em⟩)=r at*
    obtain⟨j2,b⟩:=r
    cases b with
    |false=>
     rw[Z5k]
     simp only[cond_false,Bool.false_eq_true,if_false]
     cases(!eqI s'.ph 4)<;>rfl
    |true=>exact ih s' (n+1) (acc++em) j2 (by omega) e2 (by omega) (by omega) (by simp only[List.length_append];omega) hap
   ·rw[decide_eq_false hc,if_neg hc]
    exact ih s' (n+1) (acc++em) j (by omega) e2 (by omega) (by omega) (by simp only[List.length_append];omega) hj
def ZGc:Nat:=1000
theorem Z9v:ZGc=1000:=rfl
attribute [irreducible] ZGc
noncomputable def ZHr (l:List Rw) (g:List Int) (k:Int):List UInt8×Bool:=
 if aok l=true∧ZGX g=true∧win k 1 100=true then
  (let r:=apB [] (ZAG ⟨Z8l l,[]⟩)
     if r.2=true then ZGZ g k.toNat ZGc (Z8l l) 0 [] r.1 else r)
 else([],false)
theorem ZIG (l:List Rw) (g:List Int) (k:Int) (hg:g.length≤1073741824):callI tE Z75 [.sl (l.map Rw.e),.sl (g.map ZA4),.int k]=some [.str (S (ZHr l g k).1),.bool (ZHr l g k).2]:=by
 rw[ZA0,ZID,ZFS]
 unfold ZHr
 cases ha:aok l with
 |false=>rw[if_neg (by simp),if_neg (by simp)];rfl
 |true=>
  rw[if_pos rfl]
  simp only[SoB,So.e,gA,List.cons_append,List.nil_append,ZHe g (by omega),ZA5]
  cases hgr:ZGX g with
  |false=>rw[if_neg (by simp)];rfl
  |true=>
   cases hk:win k 1 100 with
   |false=>rw[if_neg (by simp)];rfl
   |true=>
    rw[if_pos (by simp)]
    have hk':=Z8J.mp hk
    obtain⟨n1,n2,n3⟩:=ZFR ha
    have hF:=ZET ⟨Z8l l,[]⟩ (ZIR n1 (by simp)) (ZEY (s:=Z8l l) n1 (by omega))
    have hA:=ZBV [] (ZAG ⟨Z8l l,[]⟩) (by simp) (by have:=ZBW (c:=⟨Z8l l,[]⟩) (show(Z8l l).wr≤1000000000000 by omega);omega)
    simp only[List.map_nil]at hF
    simp only[Bool.not_true,cond_false,hF,gA,hA,ZDx]
    have hap:=ZDy (r:=ZAG ⟨Z8l l,[]⟩) (j:=[]) (by simp)
    generalize apB [] (ZAG ⟨Z8l l,[]⟩)=r at*
    obtain⟨j2,b⟩:=r
    cases b with
    |false=>rfl
    |true=>
     obtain⟨s2,acc2,h2⟩:=ZGa g hgr (k:=k.toNat) (by omega) (x1:=0) (x2:=0) (x3:=0) (x4:=0) (x5:=0) (y1:=0) (y2:=0) (y3:=0) (y4:=0) (y5:=0) (z1:=[]) (z2:=[]) (z3:=[]) (z4:=[]) (z5:=[]) ZGc (Z8l l) 0 [] j2 (by rw[Z9v];exact ZGW n1) n1 (by rw[Z9v];omega) (by rw[Z9v];omega) (by rw[Z9v];simp) hap
     rw[show((k.toNat:Nat):Int)=k by omega]at h2
     simp only[Bool.not_true,cond_false,ZCh,if_true]
     rw[List.map_nil]at h2
     have h3:=h2
     simp only[Int.natCast_zero,Int.ofNat_zero,Int.cast_ofNat_Int]at h3
     rw[h3]
     simp only[So.e,gA,List.cons_append,List.nil_append,List.drop_succ_cons,List.drop_zero]
theorem ZIH (l:List Rw) (g:List Int) (k:Int) (hg:g.length≤1073741824) (hl:l.length≤1073741824):callI tE Z6U [.sl (l.map Rw.e),.sl (g.map ZA4),.int k]=some [.str (S (ZHr l g k).1),.bool (ZHr l g k).2]:=by
 rw[Z9z,ZIE l hl,ZFS]
 unfold ZHr
 cases ha:aok l with
 |false=>rw[if_neg (by simp),if_neg (by simp)];rfl
 |true=>
  rw[if_pos rfl]
  simp only[SoB,So.e,gA,List.cons_append,List.nil_append,ZHf g (by omega),ZAw]
  cases hgr:ZGX g with
  |false=>rw[if_neg (by simp)];rfl
  |true=>
   cases hk:win k 1 100 with
   |false=>rw[if_neg (by simp)];rfl
   |true=>
    rw[if_pos (by simp)]
    have hk':=Z8J.mp hk
    obtain⟨n1,n2,n3⟩:=ZFR ha
    have hF:=ZEU ⟨Z8l l,[]⟩ (ZIR n1 (by simp)) (ZEY (s:=Z8l l) n1 (by omega))
    have hA:=ZBU [] (ZAG ⟨Z8l l,[]⟩) (by simp) (by have:=ZBW (c:=⟨Z8l l,[]⟩) (show(Z8l l).wr≤1000000000000 by omega);omega)
    simp only[List.map_nil]at hF
    simp only[Bool.not_true,cond_false,hF,gA,hA,ZDx]
    have hap:=ZDy (r:=ZAG ⟨Z8l l,[]⟩) (j:=[]) (by simp)
    generalize apB [] (ZAG ⟨Z8l l,[]⟩)=r at*
    obtain⟨j2,b⟩:=r
    cases b with
    |false=>
     rw[Z5k]
     simp only[cond_false,Bool.false_eq_true,if_false]
     cases(!eqI (Z8l l).ph 4)<;>simp only[cond_true,cond_false]
    |true=>
     have h2:=ZGb g hgr (k:=k.toNat) (by omega) (by omega) (x2:=0) ZGc (Z8l l) 0 [] j2 (by rw[Z9v];exact ZGW n1) n1 (by rw[Z9v];omega) (by rw[Z9v];omega) (by rw[Z9v];simp) hap
     rw[show((k.toNat:Nat):Int)=k by omega]at h2
     rw[List.map_nil]at h2
     simp only[Int.natCast_zero,Int.ofNat_zero,Int.cast_ofNat_Int]at h2
     simp only[if_true]
     exact h2
theorem ZII {n:Int} {s:Nat} (h:(s:Int)≤n):szv n s=n-s:=if_pos h
theorem ZIJ {n:Int} {s:Nat} (h:¬(s:Int)≤n):szv n s= -1:=if_neg h
theorem ZIK {α:Type} {e:α→List Dat} {p:α→Prop} {t:TypeId} {te:TI} (ht:tE.T t=some te) (hp:0<te.by_) (hE:∀{ds:List Dat},OkDs tE te.ls ds→∃x,ds=e x∧p x) {d:Dat} (h:OkD tE (.sl t) d):∃l:List α,d=.sl (l.map e)∧BdL p l:=by
 obtain⟨rows,rfl,hn,hr⟩:=h.sl' ht
 have key:∀rows:Rows,(∀r∈rows,OkDs tE te.ls r)→∃l:List α,rows=l.map e∧∀a∈l,p a:=by
  intro rows
  induction rows with
  |nil=>intro _;exact⟨[],rfl,fun a ha=>by cases ha⟩
  |cons r rows ih=>
   intro hr
   obtain⟨l,h1,h2⟩:=ih (fun q hq=>hr q (List.mem_cons_of_mem _ hq))
   obtain⟨x,h3,h4⟩:=hE (hr r (by simp))
   exact⟨x::l,by rw[h1,h3];rfl,fun a ha=>(List.mem_cons.mp ha).elim (fun e=>e▸h4) (h2 a)⟩
 obtain⟨l,h1,h2⟩:=key rows hr
 refine⟨l,by rw[h1],?_,h2⟩
 have:rows.length=l.length:=by rw[h1];simp
 have h3:rows.length≤reachBytes:=Nat.le_trans (Nat.le_mul_of_pos_right _ hp) hn
 have h4:reachBytes≤1152921504606846976:=by decide
 omega
theorem ZIL {ds:List Dat} (h:OkDs tE [.int .i64] ds):∃n,ds=ZA4 n∧I64 n:=by
 obtain⟨_,_,rfl,i,h⟩:=h.inv
 obtain rfl:=h.nil_inv
 obtain⟨n,rfl,j⟩:=i.i64
 exact⟨n,rfl,j⟩
theorem ZIM {ds:List Dat} (h:OkDs tE [.int .i64,.int .i64,.int .i64] ds):∃x:Rw,ds=Rw.e x∧Rw.bd x:=by
 obtain⟨_,_,rfl,i0,h⟩:=h.inv
 obtain⟨_,_,rfl,i1,h⟩:=h.inv
 obtain⟨_,_,rfl,i2,h⟩:=h.inv
 obtain rfl:=h.nil_inv
 obtain⟨n0,rfl,j0⟩:=i0.i64
 obtain⟨n1,rfl,j1⟩:=i1.i64
 obtain⟨n2,rfl,j2⟩:=i2.i64
 exact⟨⟨n0,n1,n2⟩,rfl,⟨j0,j1,j2⟩⟩
theorem ZIN (x:Rw):callI tE ZAU [.int x.k,.int x.v,.int x.w]=some [.int x.k,.int x.v,.int x.w]:=by
 simp only[ZE1,gA]
theorem ZHh (l:List Rw) (h:l.length≤1048576):callI tE Z7m [.sl (l.map Rw.e)]=some [.sl (l.map Rw.e)]:=by
 have hl:l.length≤1048576:=h
 rw[ZDT]
 have:=ZEb (L:=Z8X) (e:=Rw.e) (z:=[.int 0,.int 0,.int 0]) (P:=fun a=>(fun _=>0) a≤1048576) (fun p q p' q' a _ hpl hlt=>by
  rw[Z9n]
  simp only[ZCT,ZBw,Z84,ZBB,cond_true,cond_false,gA,ZAv hpl,ZEw hpl,Rw.e,ZIN a,setRange,List.set_cons_zero,List.set_cons_succ]) (fun p p' hpl=>by
  rw[Z9n,ZCU,cond_false]) l [] [] rfl (fun a ha=>Nat.zero_le _) (by simp;omega)
 simp only[List.nil_append,List.length_nil,Int.ofNat_zero,Int.natCast_zero]at this
 rw[ZFl,ZCG,Z9C (by show(l.map Rw.e).length*_≤_;rw[List.length_map];omega)]
 simp only[Bool.and_self,cond_true]
 rw[show tn (lenI (l.map Rw.e))=l.length by show(l.map Rw.e).length=_;simp]
 exact this
theorem ZHi (l:List Rw) (n:Int) (h0:0≤n) (h1:n≤1048576) (h:BdL Rw.bd l):callI tE ZAH [.sl (l.map Rw.e),.int n]=some [.int (szv n l.length)]:=by
 rw[ZDR]
 exact ZHE h0 h1 (by simp) h.1
theorem ZIO (x y:Rw):callI tE ZAV [.int x.k,.int x.v,.int x.w,.int y.k,.int y.v,.int y.w]=some [.bool (decide (x=y))]:=by
 have e:decide (x=y)=(decide (x.k=y.k)&&(decide (x.v=y.v)&&(decide (x.w=y.w)))):=by
  cases x;cases y
  simp only[Rw.mk.injEq,Bool.decide_and]
 simp only[gA,eqI,eqBo,e,ZHD,Bool.and_true,ZE5]
theorem ZHj (l l':List Rw) (h:l.length≤1152921504606846976):callI tE Z9Q [.sl (l.map Rw.e),.sl (l'.map Rw.e)]=some [.bool (decide (l=l'))]:=by
 have hl:l.length≤1152921504606846976:=h
 rw[ZDV]
 by_cases hll:l.length=l'.length
 ·rw[ZDF hll,Bool.not_true,cond_false]
  have:=ZBd (L:=Z8Y) (e:=Rw.e) (P:=fun a=>(fun _=>0) a≤1152921504606846976) (fun p q p' q' a b _ hpl hlt=>by
   rw[Z9o]
   simp only[ZCT,ZBw,Z84,ZBB,cond_true,cond_false,gA,ZAv hpl,ZCW hpl,Rw.e,ZIO a b,ZGx]) (fun p p' hpl=>by
   rw[Z9o,ZCU,cond_false]) l l' [] [] rfl hll (fun a ha=>Nat.zero_le _) (by simp;omega)
  simpa using this
 ·rw[ZDG hll,Bool.not_false,cond_true,decide_eq_false (fun e=>hll (by rw[e]))]
theorem ZHk (l:List Int) (h:l.length≤1048576):callI tE Z7t [.sl (l.map ZA4)]=some [.sl (l.map ZA4)]:=by
 have hl:l.length≤1048576:=h
 rw[ZDX]
 have:=ZEb (L:=Z8Z) (e:=ZA4) (z:=[.int 0]) (P:=fun a=>(fun _=>0) a≤1048576) (fun p q p' q' a _ hpl hlt=>by
  rw[Z9q]
  simp only[ZCT,ZBw,Z84,ZBB,cond_true,cond_false,gA,ZAv hpl,ZEw hpl,ZA4,setRange,List.set_cons_zero,List.set_cons_succ]) (fun p p' hpl=>by
  rw[Z9q,ZCU,cond_false]) l [] [] rfl (fun a ha=>Nat.zero_le _) (by simp;omega)
 simp only[List.nil_append,List.length_nil,Int.ofNat_zero,Int.natCast_zero]at this
 rw[ZFl,ZCG,Z9C (by show(l.map ZA4).length*_≤_;rw[List.length_map];omega)]
 simp only[Bool.and_self,cond_true]
 rw[show tn (lenI (l.map ZA4))=l.length by show(l.map ZA4).length=_;simp]
 exact this
theorem ZHl (l l':List Int) (h:l.length≤1152921504606846976):callI tE Z9T [.sl (l.map ZA4),.sl (l'.map ZA4)]=some [.bool (decide (l=l'))]:=by
 have hl:l.length≤1152921504606846976:=h
 rw[ZDY]
 by_cases hll:l.length=l'.length
 ·rw[ZDF hll,Bool.not_true,cond_false]
  have:=ZBd (L:=Z8a) (e:=ZA4) (P:=fun a=>(fun _=>0) a≤1152921504606846976) (fun p q p' q' a b _ hpl hlt=>by
   rw[Z9r]
   simp only[ZCT,ZBw,Z84,ZBB,cond_true,cond_false,gA,ZAv hpl,ZCW hpl,ZA4,eqI,ZGx]) (fun p p' hpl=>by
   rw[Z9r,ZCU,cond_false]) l l' [] [] rfl hll (fun a ha=>Nat.zero_le _) (by simp;omega)
  simpa using this
 ·rw[ZDG hll,Bool.not_false,cond_true,decide_eq_false (fun e=>hll (by rw[e]))]
set_option maxRecDepth 100000
theorem Z8m (a0 a1:Rows) (a2:Int):callI tE Z76 [.sl a0,.sl a1,.int a2]=(bif(ltI 1048576 (lenI a1))then(some [(.bool Bool.true)])else(((callI tE ZAH [(.sl a0),(.int 1048576)])).bind (fun r0=>(bif(ltI (gn r0) 0)then(some [(.bool Bool.true)])else(((callI tE Z7m [(.sl a0)])).bind (fun r1=>(((callI tE Z7t [(.sl a1)])).bind (fun r2=>(((callI tE Z6U [(.sl (gl r1)),(.sl (gl r2)),(.int a2)])).bind (fun r3=>(((callI tE Z7m [(.sl a0)])).bind (fun r4=>(((callI tE Z7t [(.sl a1)])).bind (fun r5=>(((callI tE Z75 [(.sl (gl r4)),(.sl (gl r5)),(.int a2)])).bind (fun r6=>(bif(!(eqS (gs r6) (gs r3)))then(some [(.bool Bool.false)])else(bif(!(eqBo (gb (tk 1 r6)) (gb (tk 1 r3))))then(some [(.bool Bool.false)])else(((callI tE Z7m [(.sl a0)])).bind (fun r7=>(((callI tE Z9Q [(.sl (gl r4)),(.sl (gl r7))])).bind (fun r8=>(bif(!(gb r8))then(some [(.bool Bool.false)])else(((callI tE Z7t [(.sl a1)])).bind (fun r9=>(((callI tE Z9T [(.sl (gl r5)),(.sl (gl r9))])).bind (fun r10=>(bif(!(gb r10))then(some [(.bool Bool.false)])else(some [(.bool Bool.true)]))))))))))))))))))))))))))))):=(callI_run rfl (by kernel_rfl)).trans (by kernel_rfl)
set_option maxRecDepth 10000
theorem pure_FnExactRunWithCheckpoints:∀ds,OkDs tE [.sl 242,.sl 3,.int .i64] ds→callI tE Z76 ds=some [.bool true]:=by
 intro ds h0
 obtain⟨_,_,rfl,i0,h1⟩:=h0.inv
 obtain⟨l0,rfl,hl0⟩:=ZIK (te:=⟨[.int .i64,.int .i64,.int .i64],24,true,[(0,3),(1,3),(2,3)]⟩) rfl (by decide) ZIM i0
 obtain⟨_,_,rfl,i1,h2⟩:=h1.inv
 obtain⟨l1,rfl,hl1⟩:=ZIK (te:=⟨[.int .i64],8,false,[]⟩) rfl (by decide) ZIL i1
 obtain⟨_,_,rfl,i2,h3⟩:=h2.inv
 obtain⟨n2,rfl,j2⟩:=i2.i64
 obtain rfl:=h3.nil_inv
 rw[Z8m,Z5L]
 by_cases hs1:l1.length≤1048576
 ·rw[ltF (by omega),cond_false,ZHi l0 1048576 (by omega) (by omega) hl0]
  simp only[gA]
  by_cases hs:(l0.length:Int)≤1048576
  ·rw[ZII hs,ltF (by omega),cond_false,ZHh l0 (by omega)]
   simp only[gA,ZHk l1 (by omega),ZIH l0 l1 n2 (by omega) (by omega),ZIG l0 l1 n2 (by omega)]
   have e5:=ZHj l0 l0 (by omega)
   have e6:=ZHl l1 l1 (by omega)
   simp only[gA,e5,e6,ZGe,decide_true,ZFi,ZCG,Bool.not_true,cond_false]
  ·rw[ZIJ hs];rfl
 ·rw[ltT (by omega)];rfl
end Go.Proofs.YtnihikajdbcoaaaGreat.Vai
