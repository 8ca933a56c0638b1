import Derived.Test.YtnihikajdbcoaaaGreatVaiB
import Derived.Orders
namespace Go.Proofs.YtnihikajdbcoaaaGreat.Vai
open Go
section
variable {P:Program} {E:Env} {base:Nat} {M:List Nat} {S0:Nat→Prop} {R0:Id→Value} {w0:World} {nt:Nat} {G:Gh} {st:St} {a:Act} {w:World} {look:Look}
theorem Rel.tmEq {st':St} (h:Rel E base M S0 R0 w0 nt st a w) (ht:∀t,getT st'.tm t=getT st.tm t) (ho:st'.ob=st.ob):Rel E base M S0 R0 w0 nt st' a w:=by
 obtain⟨G,h⟩:=h
 refine⟨G,?_⟩
 obtain⟨q1,q2,q3,q4,q5,q6,q7,q8,q9,q10,q11,q12,q13⟩:=h
 exact⟨q1,q2,ho▸q3,ho▸q4,ho▸q5,ho▸q6,ho▸q7,q8,fun t=>by rw[ht t,ho];exact q9 t,q10,q11,ho▸q12,ho▸q13⟩
theorem Z05 (st:St) (t:Nat) (d:Delta):getT (applyD st (some t) d).tm t=d.v:=by
 rw[Z8]
 simp only[putD,Zb,if_true]
theorem Z30 (touch:List Id) (ob:List (Id×Obj)):∀i x,(bif memId i touch then getO ob i else none)=some x→getO ob i=some x:=fun i x h=>by
 cases hm:memId i touch<;>rw[hm]at h
 ·cases h
 ·exact h
theorem Z17 (h:RelG E base M S0 R0 w0 nt G st a w) {ops:Array Oper} {i ti:Nat} (hi:(ops[i]?).bind (·.dst)=some ti) {x:Bool} (hx:getT st.tm ti=.b x):yielded ops a.tmps i=some x:=by
 have:=h.tmps ti
 rw[hx]at this
 generalize hv:a.tmps.getD ti undef=v at this
 cases this
 unfold yielded
 rw[hi]
 simp only[Option.bind_some]
 rw[Array.getD_eq_getD_getElem?]at hv
 cases he:a.tmps[ti]? with
 |none=>rw[he]at hv;simp[undef]at hv
 |some u=>rw[he]at hv;simp at hv;subst hv;rfl
theorem Z18 (h:RelG E base M S0 R0 w0 nt G st a w) {ops:Array Oper} {i ti:Nat} (hi:(ops[i]?).bind (·.dst)=some ti) (hx:getT st.tm ti=.tup []):yielded ops a.tmps i=none:=by
 have:=h.tmps ti
 rw[hx]at this
 generalize hv:a.tmps.getD ti undef=v at this
 cases this with
 |tup _ arr hl _=>
  unfold yielded
  rw[hi]
  simp only[Option.bind_some]
  rw[Array.getD_eq_getD_getElem?]at hv
  cases he:a.tmps[ti]? with
  |none=>rfl
  |some u=>rw[he]at hv;simp at hv;subst hv;rfl
theorem Z4I {ob:List (Id×Obj)}:VR E w S0 G ob (.tup []) undef:=.tup [] #[] rfl (fun i v x hv=>by simp at hv)
theorem Z3b (hE:EnvOk P E) (hnt:nt≤1000000) {call:FuncId→List Dat→Option (List Dat)} (hC:CallR P E base M S0 R0 w0 nt call) {ops:Array Oper} {fin:List Rec→St→Option (List Dat)} {o:Oper} {rest:List Oper} {j:Nat} {rs:List Rec}
  (h:RelG E base M S0 R0 w0 nt G st a w) {out:List Dat} (hr:runOps E nt call ops.toList fin (o::rest) j rs st=some out):
  ∃st' rc,runOps E nt call ops.toList fin rest (j+1) (rc::rs) st'=some out∧
   (if Region.wanted o (yielded ops a.tmps)then∀Q,o.wp P a w (fun a' w'=>Rel E base M S0 R0 w0 nt st' a' w') Q else Rel E base M S0 R0 w0 nt st' (a.put o.dst undef) w):=by
 have hops:∀i:Nat,ops.toList[i]?=ops[i]?:=fun i=>by simp
 have exec:(let touch:=touchOf st o
   let look:Look:=fun i=>bif memId i touch then getO st.ob i else none
   match iop E call look st.tm o with
   |none=>none
   |some r=>bif inB nt o.dst&&r.g then r.o.bind fun ds=>
     let d:=r.f ds
     let st':=applyD st o.dst d
     let rc:Rec:=recOf ops.toList j o st touch d
     bif guarded ops.toList j then match d.v,o.dst with
      |.b t,some dt=>bif t then runOps E nt call ops.toList fin rest (j+1) (rc::rs) {st' with tm:=putT st'.tm dt (.b true)}
        else runOps E nt call ops.toList fin rest (j+1) (rc::rs) {st' with tm:=putT st'.tm dt (.b false)}
      |_,_=>none
     else bif idxed E ops.toList o.dst then forkI d.v o.dst (fun dt v=>runOps E nt call ops.toList fin rest (j+1) (rc::rs) {st' with tm:=putT st'.tm dt v})
     else runOps E nt call ops.toList fin rest (j+1) (rc::rs) st'
    else none)=some out→∃st' rc,runOps E nt call ops.toList fin rest (j+1) (rc::rs) st'=some out∧∀Q,o.wp P a w (fun a' w'=>Rel E base M S0 R0 w0 nt st' a' w') Q:=fun hX=>by
  simp only at hX
  split at hX
  ·cases hX
  ·rename_i r hiop
   obtain⟨hg,hX2⟩:=Z0 hX
   simp only[Bool.and_eq_true]at hg
   simp only[Option.bind_eq_some_iff]at hX2
   obtain⟨ds,hds,hX3⟩:=hX2
   have hwp:=fun Q=>Z4H hE hnt hC h (Z30 _ _) hg.1 hiop hg.2 hds (Q:=Q)
   cases hgd:guarded ops.toList j<;>rw[hgd]at hX3
   ·simp only[cond_false]at hX3
    cases hix:idxed E ops.toList o.dst<;>rw[hix]at hX3
    ·exact⟨_,_,hX3,hwp⟩
    ·simp only[cond_true]at hX3
     obtain⟨dt,hdst,hrun,_⟩:=Z0D hX3
     refine⟨_,_,hrun,fun Q=>Oper.wp_mono (K:=Nx E base M S0 R0 w0 nt st o.dst (r.f ds)) (fun a' w' hr=>Rel.tmEq (st:=applyD st o.dst (r.f ds)) hr (fun t'=>?_) rfl) (hwp Q)⟩
     simp only[Zb]
     split
     ·rename_i e;subst e;rw[hdst,Z05]
     ·rfl
   ·simp only[cond_true]at hX3
    split at hX3
    ·rename_i t dt hdv hdst
     have key:∀b,b=t→runOps E nt call ops.toList fin rest (j+1) (recOf ops.toList j o st (touchOf st o) (r.f ds)::rs) {applyD st o.dst (r.f ds)with tm:=putT (applyD st o.dst (r.f ds)).tm dt (.b b)}=some out→
       ∃st' rc,runOps E nt call ops.toList fin rest (j+1) (rc::rs) st'=some out∧∀Q,o.wp P a w (fun a' w'=>Rel E base M S0 R0 w0 nt st' a' w') Q:=fun b hb hrun=>by
      subst hb
      refine⟨_,_,hrun,fun Q=>Oper.wp_mono (K:=Nx E base M S0 R0 w0 nt st o.dst (r.f ds)) (fun a' w' hr=>Rel.tmEq (st:=applyD st o.dst (r.f ds)) hr (fun t'=>?_) rfl) (hwp Q)⟩
      simp only[Zb]
      split
      ·rename_i e;subst e;rw[hdst,Z05,hdv]
      ·rfl
     cases ht:t<;>rw[ht]at hX3
     ·exact key false ht.symm hX3
     ·exact key true ht.symm hX3
    ·cases hX3
 simp only[runOps]at hr
 cases hgu:o.guard with
 |none=>
  rw[hgu]at hr
  obtain⟨st',rc,q1,q2⟩:=exec hr
  exact⟨st',rc,q1,by simp only[Region.wanted,hgu,if_true];exact q2⟩
 |some p=>
  obtain⟨i,want⟩:=p
  rw[hgu]at hr
  simp only[hops]at hr
  split at hr
  ·cases hr
  ·rename_i ti hti
   have pass:(bif !inB nt o.dst then none else runOps E nt call ops.toList fin rest (j+1) (⟨j,o.dst,guardT ops.toList o,[],[],[],[],false,false,true,false,[],[]⟩::rs) (applyD st o.dst {v:=.tup []}))=some out→
     ∃st' rc,runOps E nt call ops.toList fin rest (j+1) (rc::rs) st'=some out∧Rel E base M S0 R0 w0 nt st' (a.put o.dst undef) w:=fun hp=>by
    cases hb:inB nt o.dst<;>rw[hb]at hp
    ·cases hp
    ·exact⟨_,_,hp,G,h.done_pure hb Z4I⟩
   split at hr
   ·rename_i x hx
    have hy:=Z17 h hti hx
    cases hxw:(x==want)with
    |true=>
     rw[hxw]at hr
     obtain⟨st',rc,q1,q2⟩:=exec hr
     have:Region.wanted o (yielded ops a.tmps)=true:=by
      simp only[Region.wanted,hgu,hy]
      simpa using hxw
     exact⟨st',rc,q1,by rw[if_pos this];exact q2⟩
    |false=>
     rw[hxw]at hr
     obtain⟨st',rc,q1,q2⟩:=pass hr
     have:¬Region.wanted o (yielded ops a.tmps)=true:=by
      simp only[Region.wanted,hgu,hy]
      simpa using hxw
     exact⟨st',rc,q1,by rw[if_neg this];exact q2⟩
   ·rename_i hx
    have hy:=Z18 h hti hx
    obtain⟨st',rc,q1,q2⟩:=pass hr
    have:¬Region.wanted o (yielded ops a.tmps)=true:=by
     simp only[Region.wanted,hgu,hy]
     simp
    exact⟨st',rc,q1,by rw[if_neg this];exact q2⟩
   ·cases hr
theorem Z2U (hE:EnvOk P E) (hnt:nt≤1000000) {call:FuncId→List Dat→Option (List Dat)} (hC:CallR P E base M S0 R0 w0 nt call) {ops:Array Oper} {fin:List Rec→St→Option (List Dat)} {out:List Dat} {Q:Exit→Act→World→Prop}
  (hQ:∀rs st a w,Rel E base M S0 R0 w0 nt st a w→fin rs st=some out→Q .normal a w):∀(rest:List Oper) (j:Nat),ops.toList.drop j=rest→∀(rs:List Rec) (st:St) (a:Act) (w:World),Rel E base M S0 R0 w0 nt st a w→
  runOps E nt call ops.toList fin rest j rs st=some out→wpOps P ops Q (List.range' j rest.length) a w
 |[],j,_,rs,st,a,w,h,hr=>hQ rs st a w h hr
 |o::rest,j,hj,rs,st,a,w,h,hr=>by
  have ho:ops[j]?=some o:=by
   have:(ops.toList.drop j)[0]?=some o:=by rw[hj];rfl
   simpa using this
  have hj':ops.toList.drop (j+1)=rest:=by
   have:(ops.toList.drop j).drop 1=rest:=by rw[hj];rfl
   rw[List.drop_drop]at this
   exact this
  obtain⟨G,h⟩:=h
  obtain⟨st',rc,q1,q2⟩:=Z3b hE hnt hC h hr
  have ih:=Z2U hE hnt hC hQ rest (j+1) hj' (rc::rs) st'
  simp only[List.length_cons,List.range'_succ,wpOps,ho]
  split
  ·rename_i hw
   rw[if_pos hw]at q2
   exact .inl (Oper.wp_mono (fun a' w' hh=>ih a' w' hh q1) (q2 Q))
  ·rename_i hw
   rw[if_neg hw]at q2
   exact ih _ _ q2 q1
end
end Go.Proofs.YtnihikajdbcoaaaGreat.Vai
namespace Go.Proofs.YtnihikajdbcoaaaGreat.Vai
open Go
theorem Zv (cs:List AV) (i:Nat):(stripL cs)[i]?=(cs[i]?).map strip:=by
 induction cs generalizing i with
 |nil=>simp[stripL]
 |cons c cs ih=>
  cases i with
  |zero=>simp[stripL]
  |succ i=>simpa[stripL]using ih i
theorem Zn (cs:List AV):(stripL cs).length=cs.length:=by
 induction cs with
 |nil=>rfl
 |cons c cs ih=>simp[stripL,ih]
theorem Z2V (tm:List (Nat×AV)):∀(keep:List Nat) (t:Nat),getT (pickTm tm keep) t=strip (getT tm t)∨getT (pickTm tm keep) t=.dead
 |[],t=>.inr rfl
 |k::r,t=>by
  simp only[pickTm,getT]
  cases h:Nat.beq k t
  ·simpa using Z2V tm r t
  ·have:=Z3 h
   subst this
   exact .inl rfl
theorem Z19 (ob:List (Id×Obj)):∀(ids:List Id) (o:Id) (x:Obj),getO (pickObs ob ids) o=some x→∃y,getO ob o=some y∧x=freshO y
 |[],o,x,h=>by simp[pickObs,getO]at h
 |k::r,o,x,h=>by
  simp only[pickObs]at h
  cases hk:getO ob k with
  |none=>
   rw[hk]at h
   exact Z19 ob r o x (by simpa using h)
  |some y=>
   rw[hk]at h
   simp only[List.singleton_append,getO]at h
   cases hko:idEq k o
   ·rw[hko]at h
    exact Z19 ob r o x (by simpa using h)
   ·rw[hko]at h
    have:=Z5.mp hko
    subst this
    simp only[cond_true,Option.some.injEq]at h
    exact⟨y,hk,h.symm⟩
section
variable {P:Program} {E:Env} {base:Nat} {M:List Nat} {S0:Nat→Prop} {R0:Id→Value} {w0:World} {nt:Nat} {G:Gh} {st:St} {a:Act} {w:World} {look:Look}
theorem VR.strip {ob ob':List (Id×Obj)} (hob:∀o x,getO ob' o=some x→∃y,getO ob o=some y∧x=freshO y) {x:AV} {v:Value} (h:VR E w S0 G ob x v):VR E w S0 G ob' (strip x) v:=by
 have hrow:∀o e rows dp vr hh,getO ob' o=some (.row e rows dp vr hh)→∃vr0,getO ob o=some (.row e rows dp vr0 hh):=fun o e rows dp vr hh hg=>by
  obtain⟨y,hy,he⟩:=hob o _ hg
  cases y with
  |row e' r' d' v' h'=>simp only[freshO,Obj.row.injEq]at he;obtain⟨rfl,rfl,rfl,_,rfl⟩:=he;exact⟨v',hy⟩
  |box t cs=>cases he
  |mp kl el es=>cases he
 have hbox:∀o t cs,getO ob' o=some (.box t cs)→∃cs0,getO ob o=some (.box t cs0):=fun o t cs hg=>by
  obtain⟨y,hy,he⟩:=hob o _ hg
  cases y with
  |row e' r' d' v' h'=>cases he
  |box t' cs'=>simp only[freshO,Obj.box.injEq]at he;obtain⟨rfl,_⟩:=he;exact⟨cs',hy⟩
  |mp kl el es=>cases he
 have hmap:∀o kl el es,getO ob' o=some (.mp kl el es)→getO ob o=some (.mp kl el es):=fun o kl el es hg=>by
  obtain⟨y,hy,he⟩:=hob o _ hg
  cases y with
  |row e' r' d' v' h'=>cases he
  |box t' cs'=>cases he
  |mp kl' el' es'=>simp only[freshO]at he;rw[he];exact hy
 induction h with
 |dead v=>exact .dead v
 |i k n=>exact .i k n
 |b x=>exact .b x
 |s x=>exact .s x
 |nil=>exact .nil
 |agg cs arr hl h h1 ih=>
  refine .agg _ arr ((Zn cs).trans hl) (fun i v x hv hx=>?_) h1
  rw[Zv]at hv
  obtain⟨v0,h0,rfl⟩:=Option.map_eq_some_iff.mp hv
  exact ih i v0 x h0 hx
 |tup vs arr hl h ih=>
  refine .tup _ arr ((Zn vs).trans hl) (fun i v x hv hx=>?_)
  rw[Zv]at hv
  obtain⟨v0,h0,rfl⟩:=Option.map_eq_some_iff.mp hv
  exact ih i v0 x h0 hx
 |fn f vs arr hl h ih=>
  refine .fn f _ arr ((Zn vs).trans hl) (fun i v x hv hx=>?_)
  rw[Zv]at hv
  obtain⟨v0,h0,rfl⟩:=Option.map_eq_some_iff.mp hv
  exact ih i v0 x h0 hx
 |ro e al rows v h=>exact .ro e al rows v h
 |own o v h h1=>
  refine .own o v (fun e rows dp vr hh hg=>?_) h1
  obtain⟨vr0,h0⟩:=hrow o e rows dp vr hh hg
  exact h e rows dp vr0 hh h0
 |vw o lo n v h h1=>
  refine .vw o lo n v (fun e rows dp vr hh te hg ht=>?_) h1
  obtain⟨vr0,h0⟩:=hrow o e rows dp vr hh hg
  exact h e rows dp vr0 hh te h0 ht
 |nest o ver row col e whole rows v h hn=>exact .ro e true rows v (h.mono fun b hb=>hb.imp id fun hb=>⟨rfl,hb⟩)
 |ptr o row off v h h1=>
  refine .ptr o row off v ⟨fun t cells hg=>?_,fun e rows dp vr hh te hg ht=>?_,fun kl el es hg=>h.2.2 kl el es (hmap o kl el es hg)⟩ h1
  ·obtain⟨cs0,h0⟩:=hbox o t cells hg
   exact h.1 t cs0 h0
  ·obtain⟨vr0,h0⟩:=hrow o e rows dp vr hh hg
   exact h.2.1 e rows dp vr0 hh te h0 ht
 |pro e te al cells off g o0 u ht hl hm hr=>exact .pro e te al cells off g o0 u ht hl hm hr
theorem RelG.clean (h:RelG E base M S0 R0 w0 nt G st a w) (keep:List Nat):RelG E base M S0 R0 w0 nt G (clean keep st) a w:=by
 have hob:∀o x,getO (Vai.clean keep st).ob o=some x→∃y,getO st.ob o=some y∧x=freshO y:=fun o x hx=>Z19 _ _ o x hx
 refine⟨h.kept,h.old,fun o x hx=>?_,fun o x hx=>?_,fun o x o' x' hx hx'=>?_,fun o x hx=>?_,fun o x o' x' hx hx'=>?_,h.F,fun t=>?_,h.defers,h.size,fun o x hp hx=>?_,?_⟩
 ·obtain⟨y,hy,rfl⟩:=hob o x hx
  have:=h.objs o y hy
  cases y with
  |row e rows d v hh=>exact this
  |box t cs=>
   obtain⟨g,arr,et,h1,h2,h3,h4,h5,h6⟩:=(this:BoxR E w S0 G st.ob cs _ _ _)
   refine⟨g,arr,et,h1,h2,h3,h4,h5.trans (Zn cs).symm,fun i v x hv hxx=>?_⟩
   rw[Zv]at hv
   obtain⟨v0,h0,rfl⟩:=Option.map_eq_some_iff.mp hv
   obtain⟨h7,h8⟩:=h6 i v0 x h0 hxx
   exact⟨h7.strip hob,h8⟩
  |mp kl el es=>exact this
 ·obtain⟨y,hy,_⟩:=hob o x hx
  exact h.tops o y hy
 ·obtain⟨y,hy,_⟩:=hob o x hx
  obtain⟨y',hy',_⟩:=hob o' x' hx'
  exact h.tops2 o y o' y' hy hy'
 ·obtain⟨y,hy,_⟩:=hob o x hx
  exact h.ins o y hy
 ·obtain⟨y,hy,_⟩:=hob o x hx
  obtain⟨y',hy',_⟩:=hob o' x' hx'
  exact h.ins2 o y o' y' hy hy'
 ·rcases Z2V st.tm keep t with e|e
  ·simp only[Vai.clean]
   rw[e]
   exact(h.tmps t).strip hob
  ·simp only[Vai.clean]
   rw[e]
   exact .dead _
 ·obtain⟨y,hy,_⟩:=hob o x hx
  exact h.par o y hp hy
 ·refine h.fix.map (fun t cs ht=>?_) (fun _ _ _ _ _=>rfl)
  obtain⟨y,hy,hx⟩:=hob _ _ ht
  cases y with
  |row e rows d v hh=>cases hx
  |box t' cs'=>
   simp only[freshO,Obj.box.injEq]at hx
   obtain⟨rfl,rfl⟩:=hx
   refine⟨_,cs',hy,fun c e rows hc=>?_⟩
   rw[Zv]at hc
   obtain⟨v0,h0,h1⟩:=Option.map_eq_some_iff.mp hc
   rw[h0]
   cases v0<;>simp only[strip,reduceCtorEq]at h1
   ·exact h1▸rfl
   ·cases h1
  |mp kl el es=>cases hx
end
end Go.Proofs.YtnihikajdbcoaaaGreat.Vai
namespace Go.Proofs.YtnihikajdbcoaaaGreat.Vai
open Go
section
variable {P:Program} {E:Env} {base:Nat} {M:List Nat} {S0:Nat→Prop} {R0:Id→Value} {w0:World} {nt:Nat} {G:Gh} {st:St} {a:Act} {w:World} {look:Look}
theorem Z31 (hE:EnvOk P E) {call:FuncId→List Dat→Option (List Dat)} (hC:PlainOk P E call) (h:RelG E base M S0 R0 w0 nt G st a w) (hlook:∀i x,look i=some x→getO st.ob i=some x) {dst:Option Nat} (hd:inB nt dst=true) {t:Nat} (hti:t<1000000) {f:FuncId}
  (hm:E.mode f=.plain) {xs:List AV} {vs:List Value} (hl:xs.length=vs.length) (hv:∀(i:Nat) (x:AV) (v:Value),xs[i]?=some x→vs[i]?=some v→VR E w S0 G st.ob x v) {r:OpRes} (hr:opCall E call look t f xs=some r) {out:List Dat} (ho:r.o=some out):
  (∃fn,E.F f=some fn)∧Calls P f vs.toArray w fun
   |.returned v,w'=>Rel E base M S0 R0 w0 nt (applyD st dst (r.f out)) (a.put dst v) w'
   |_,_=>False:=by
 unfold opCall at hr
 split at hr
 ·cases hr
 ·rename_i fn hfn
  refine⟨⟨fn,hfn⟩,?_⟩
  rw[hm]at hr
  simp only at hr
  split at hr
  ·rename_i ps rs hps hrs
   split at hr
   ·cases hr
   ·rename_i ds hds
    cases hf:argsFit ps xs<;>rw[hf]at hr
    ·cases hr
    simp only[Bool.not_true,cond_false,Option.some.injEq]at hr
    subst hr
    simp only at ho
    obtain⟨cells,q1,q2⟩:=Z1Q h hlook (ZI hE hps) hl hv hds hf
    refine(hC f fn ps rs ds out hfn hm hps hrs ho w (LiveR S0 G st.ob) vs cells q1 q2 (fun b hb=>h.live_lt hb.live)).mono fun e w' hh=>?_
    cases e with
    |returned v=>
     obtain⟨hk,rvs,rcells,bs,rfl,p1,p2,p3,p4⟩:=hh
     exact h.call_end hd hti hk p1 p2 p3 p4
    |panicked c=>exact hh.elim
    |outgrown=>exact hh.elim
  ·cases hr
end
end Go.Proofs.YtnihikajdbcoaaaGreat.Vai
namespace Go.Proofs.YtnihikajdbcoaaaGreat.Vai
open Go
def InR (ρ:List (Id×Id)) (o o':Id):Prop:=(o,o')∈ρ
theorem Z0l {ρ:List (Id×Id)} {o o':Id} (h:newId ρ o=some o'):InR ρ o o':=by
 induction ρ with
 |nil=>cases h
 |cons p r ih=>
  obtain⟨k,v⟩:=p
  simp only[newId]at h
  cases hk:idEq k o<;>rw[hk]at h
  ·exact List.mem_cons_of_mem _ (ih h)
  ·simp only[cond_true,Option.some.injEq]at h
   rw[←Z5.mp hk,←h]
   exact List.mem_cons_self
theorem Z1n {ρ:List (Id×Id)} {o o':Id} (h:InR ρ o o'):o'∈snds ρ:=by
 induction ρ with
 |nil=>cases h
 |cons p r ih=>
  obtain⟨k,v⟩:=p
  simp only[snds,List.mem_cons]
  rcases List.mem_cons.mp h with h|h
  ·cases h;exact .inl rfl
  ·exact .inr (ih h)
theorem Z32 {ρ:List (Id×Id)} {o o':Id} (h:InR ρ o o'):o∈fsts ρ:=by
 induction ρ with
 |nil=>cases h
 |cons p r ih=>
  obtain⟨k,v⟩:=p
  simp only[fsts,List.mem_cons]
  rcases List.mem_cons.mp h with h|h
  ·cases h;exact .inl rfl
  ·exact .inr (ih h)
theorem Z1o {ρ:List (Id×Id)} (hn:(snds ρ).Nodup) {o p o':Id} (h1:InR ρ o o') (h2:InR ρ p o'):o=p:=by
 induction ρ with
 |nil=>cases h1
 |cons q r ih=>
  obtain⟨k,v⟩:=q
  simp only[snds,List.nodup_cons]at hn
  rcases List.mem_cons.mp h1 with a1|a1<;>rcases List.mem_cons.mp h2 with a2|a2
  ·cases a1;cases a2;rfl
  ·cases a1;exact absurd (Z1n (ρ:=r) a2) hn.1
  ·cases a2;exact absurd (Z1n (ρ:=r) a1) hn.1
  ·exact ih hn.2 a1 a2
theorem Z4q {ρ:List (Id×Id)} (hn:(fsts ρ).Nodup) {o p q:Id} (h1:InR ρ o p) (h2:InR ρ o q):p=q:=by
 induction ρ with
 |nil=>cases h1
 |cons x r ih=>
  obtain⟨k,v⟩:=x
  simp only[fsts,List.nodup_cons]at hn
  rcases List.mem_cons.mp h1 with a1|a1<;>rcases List.mem_cons.mp h2 with a2|a2
  ·cases a1;cases a2;rfl
  ·cases a1;exact absurd (Z32 (ρ:=r) a2) hn.1
  ·cases a2;exact absurd (Z32 (ρ:=r) a1) hn.1
  ·exact ih hn.2 a1 a2
theorem Z33 {ρ:List (Id×Id)} (h:parOk ρ=true) {o o':Id} (hi:InR ρ o o'):o=o'∨isPar o'=false:=by
 induction ρ with
 |nil=>cases hi
 |cons x r ih=>
  obtain⟨k,v⟩:=x
  simp only[parOk,Bool.and_eq_true,Bool.or_eq_true,Bool.not_eq_true']at h
  rcases List.mem_cons.mp hi with hi|hi
  ·cases hi
   rcases h.1 with h|h
   ·exact .inl (Z5.mp h)
   ·exact .inr h.2
  ·exact ih h.2 hi
theorem Z1p {nb:List (Id×Obj)} {ρ0:List (Id×Id)} {ob:List (Id×Obj)}:∀{ρ:List (Id×Id)} {o':Id} {x:Obj},getO (renOb nb ρ0 ob ρ) o'=some x→∃o y,InR ρ o o'∧getO ob o=some y∧x=renObj nb ρ0 y
 |[],o',x,h=>by simp[renOb,getO]at h
 |(k,v)::r,o',x,h=>by
  simp only[renOb]at h
  cases hk:getO ob k with
  |none=>
   rw[hk]at h
   obtain⟨o,y,h1,h2⟩:=Z1p h
   exact⟨o,y,List.mem_cons_of_mem _ h1,h2⟩
  |some y=>
   rw[hk]at h
   simp only[getO]at h
   cases hv:idEq v o'<;>rw[hv]at h
   ·obtain⟨o,y,h1,h2⟩:=Z1p h
    exact⟨o,y,List.mem_cons_of_mem _ h1,h2⟩
   ·simp only[cond_true,Option.some.injEq]at h
    have:=Z5.mp hv
    subst this
    exact⟨k,y,List.mem_cons_self,hk,h.symm⟩
def back:List (Id×Id)→Id→Id
 |[],o'=>o'
 |(o,p)::r,o'=>if p=o' then o else back r o'
theorem ZF {ρ:List (Id×Id)} (hn:(snds ρ).Nodup) {o o':Id} (h:InR ρ o o'):back ρ o'=o:=by
 induction ρ with
 |nil=>cases h
 |cons x r ih=>
  obtain⟨k,v⟩:=x
  simp only[snds,List.nodup_cons]at hn
  simp only[back]
  rcases List.mem_cons.mp h with a|a
  ·cases a;simp
  ·by_cases e:v=o'
   ·subst e;exact absurd (Z1n (ρ:=r) a) hn.1
   ·rw[if_neg e];exact ih hn.2 a
theorem Z0K (nb:List (Id×Obj)) (ρ:List (Id×Id)) (cs:List AV) (i:Nat):(renL nb ρ cs)[i]?=(cs[i]?).map (renA nb ρ):=by
 induction cs generalizing i with
 |nil=>simp[renL]
 |cons c cs ih=>
  cases i with
  |zero=>simp[renL]
  |succ i=>simpa[renL]using ih i
theorem Z06 (nb:List (Id×Obj)) (ρ:List (Id×Id)) (cs:List AV):(renL nb ρ cs).length=cs.length:=by
 induction cs with
 |nil=>rfl
 |cons c cs ih=>simp[renL,ih]
def Gh.ren (G:Gh) (ρ:List (Id×Id)):Gh where
 root:=fun o=>G.root (back ρ o)
 top:=fun o=>G.top (back ρ o)
 ins:=fun o=>G.ins (back ρ o)
 F:=G.F
section
variable {P:Program} {E:Env} {base:Nat} {M:List Nat} {S0:Nat→Prop} {R0:Id→Value} {w0:World} {nt:Nat} {G:Gh} {st:St} {a:Act} {w:World} {look:Look}
theorem VR.ren {ρ:List (Id×Id)} (hn:(snds ρ).Nodup) {nb ob ob':List (Id×Obj)} (hnb:∀o x,getO nb o=some x→getO ob o=some x) (hob:∀o' x,getO ob' o'=some x→∃o y,InR ρ o o'∧getO ob o=some y∧x=renObj nb ρ y) {x:AV} {v:Value} (h:VR E w S0 G ob x v):
  VR E w S0 (G.ren ρ) ob' (renA nb ρ x) v:=by
 have hrow:∀o o' e rows dp vr hh,InR ρ o o'→getO ob' o'=some (.row e rows dp vr hh)→∃vr0,getO ob o=some (.row e rows dp vr0 hh):=fun o o' e rows dp vr hh hi hg=>by
  obtain⟨o1,y,hi1,hy,he⟩:=hob o' _ hg
  have:=Z1o hn hi1 hi
  subst this
  cases y with
  |row e' r' d' v' h'=>simp only[renObj,Obj.row.injEq]at he;obtain⟨rfl,rfl,rfl,_,rfl⟩:=he;exact⟨v',hy⟩
  |box t cs=>cases he
  |mp kl el es=>cases he
 have hbox:∀o o' t cs,InR ρ o o'→getO ob' o'=some (.box t cs)→∃cs0,getO ob o=some (.box t cs0):=fun o o' t cs hi hg=>by
  obtain⟨o1,y,hi1,hy,he⟩:=hob o' _ hg
  have:=Z1o hn hi1 hi
  subst this
  cases y with
  |row e' r' d' v' h'=>cases he
  |box t' cs'=>simp only[renObj,Obj.box.injEq]at he;obtain⟨rfl,_⟩:=he;exact⟨cs',hy⟩
  |mp kl el es=>cases he
 have hmap:∀o o' kl el es,InR ρ o o'→getO ob' o'=some (.mp kl el es)→getO ob o=some (.mp kl el es):=fun o o' kl el es hi hg=>by
  obtain⟨o1,y,hi1,hy,he⟩:=hob o' _ hg
  have:=Z1o hn hi1 hi
  subst this
  cases y with
  |row e' r' d' v' h'=>cases he
  |box t' cs'=>cases he
  |mp kl' el' es'=>simp only[renObj]at he;rw[he];exact hy
 induction h with
 |dead v=>exact .dead v
 |i k n=>exact .i k n
 |b x=>exact .b x
 |s x=>exact .s x
 |nil=>exact .nil
 |agg cs arr hl h h1 ih=>
  refine .agg _ arr ((Z06 nb ρ cs).trans hl) (fun i v x hv hx=>?_) h1
  rw[Z0K]at hv
  obtain⟨v0,h0,rfl⟩:=Option.map_eq_some_iff.mp hv
  exact ih i v0 x h0 hx
 |tup vs arr hl h ih=>
  refine .tup _ arr ((Z06 nb ρ vs).trans hl) (fun i v x hv hx=>?_)
  rw[Z0K]at hv
  obtain⟨v0,h0,rfl⟩:=Option.map_eq_some_iff.mp hv
  exact ih i v0 x h0 hx
 |fn f vs arr hl h ih=>
  refine .fn f _ arr ((Z06 nb ρ vs).trans hl) (fun i v x hv hx=>?_)
  rw[Z0K]at hv
  obtain⟨v0,h0,rfl⟩:=Option.map_eq_some_iff.mp hv
  exact ih i v0 x h0 hx
 |ro e al rows v h=>exact .ro e al rows v h
 |nest o ver row col e whole rows v h hnn=>
  have hro:VR E w S0 (G.ren ρ) ob' (.ro e true rows) v:=.ro e true rows v (h.mono fun b hb=>hb.imp id fun hb=>⟨rfl,hb⟩)
  simp only[renA]
  split
  ·rename_i o' e1 r1 d1 vr1 h1 ho hg1
   have hi:=Z0l ho
   cases hv:Nat.beq vr1 ver
   ·exact hro
   ·have hv:=Z3 hv
    refine .nest o' 0 row col e whole rows v h ⟨fun _ _ _ _ _ _=>Nat.zero_le _,fun eo rows' vr hh te hg _ hhole ht=>?_⟩
    obtain⟨vr0,h0⟩:=hrow o o' eo rows' true vr hh hi hg
    have h2:=hnb o _ hg1
    rw[h0]at h2
    simp only[Option.some.injEq,Obj.row.injEq]at h2
    obtain⟨rfl,rfl,rfl,rfl,rfl⟩:=h2
    have:=hnn.2 eo rows' vr0 hh te h0 hv hhole ht
    simp only[Gh.ren,ZF hn hi]
    exact this
  ·exact hro
 |pro e te al cells off g o0 u ht hl hm hr=>exact .pro e te al cells off g o0 u ht hl hm hr
 |own o v h h1=>
  simp only[renA]
  split
  ·rename_i o' ho
   have hi:=Z0l ho
   refine .own o' v (fun e rows dp vr hh hg=>?_) h1
   obtain⟨vr0,h0⟩:=hrow o o' e rows dp vr hh hi hg
   rw[h e rows dp vr0 hh h0]
   simp only[Gh.ren,ZF hn hi]
  ·exact .dead v
 |vw o lo n v h h1=>
  simp only[renA]
  split
  ·rename_i o' ho
   have hi:=Z0l ho
   refine .vw o' lo n v (fun e rows dp vr hh te hg ht=>?_) h1
   obtain⟨vr0,h0⟩:=hrow o o' e rows dp vr hh hi hg
   have:=h e rows dp vr0 hh te h0 ht
   simp only[Gh.ren,ZF hn hi]
   exact this
  ·exact .dead v
 |ptr o row off v h h1=>
  simp only[renA]
  split
  ·rename_i o' ho
   have hi:=Z0l ho
   refine .ptr o' row off v ⟨fun t cells hg=>?_,fun e rows dp vr hh te hg ht=>?_,fun kl el es hg=>by simp only[Gh.ren,ZF hn hi];exact h.2.2 kl el es (hmap o o' kl el es hi hg)⟩ h1
   ·obtain⟨cs0,h0⟩:=hbox o o' t cells hi hg
    simp only[Gh.ren,ZF hn hi]
    exact h.1 t cs0 h0
   ·obtain⟨vr0,h0⟩:=hrow o o' e rows dp vr hh hi hg
    simp only[Gh.ren,ZF hn hi]
    exact h.2.1 e rows dp vr0 hh te h0 ht
  ·exact .dead v
theorem Z1x (nb:List (Id×Obj)) (ρ:List (Id×Id)) (tm:List (Nat×AV)):∀(keep:List Nat) (t:Nat),getT (renTm nb ρ tm keep) t=renA nb ρ (getT tm t)∨getT (renTm nb ρ tm keep) t=.dead
 |[],t=>.inr rfl
 |k::r,t=>by
  simp only[renTm,getT]
  cases h:Nat.beq k t
  ·simpa using Z1x nb ρ tm r t
  ·have:=Z3 h
   subst this
   exact .inl rfl
theorem Z5B {nb:List (Id×Obj)} {ρ:List (Id×Id)} {v:AV} {e:TypeId} {rows:List (List Dat)} (h:renA nb ρ v=.ro e false rows):v=.ro e false rows:=by
 cases v<;>simp only[renA,reduceCtorEq]at h
 ·exact h
 all_goals (split at h<;>first|(cases h;done)|skip)
 rename_i vr ver _ _ _ _ _ _ _ _ _ _ _
 cases hb:Nat.beq _ _<;>rw[hb]at h<;>cases h
theorem RelG.ren (h:RelG E base M S0 R0 w0 nt G st a w) {ρ:List (Id×Id)} {nb:List (Id×Obj)} (hnb:∀o x,getO nb o=some x→getO st.ob o=some x) (hn:(snds ρ).Nodup) (hf:(fsts ρ).Nodup) (hp:parOk ρ=true) (keep:List Nat):RelG E base M S0 R0 w0 nt (G.ren ρ) {tm:=renTm nb ρ st.tm keep,ob:=renOb nb ρ st.ob ρ} a w:=by
 have hob:∀o' x,getO (renOb nb ρ st.ob ρ) o'=some x→∃o y,InR ρ o o'∧getO st.ob o=some y∧x=renObj nb ρ y:=fun o' x hx=>Z1p hx
 have hne:∀{o1 o2 o1' o2'},InR ρ o1 o1'→InR ρ o2 o2'→o1'≠o2'→o1≠o2:=fun h1 h2 hne e=>hne (by subst e;exact Z4q hf h1 h2)
 refine⟨h.kept,h.old,fun o x hx=>?_,fun o x hx=>?_,fun o x o' x' hx hx' hno=>?_,fun o x hx=>?_,fun o x o' x' hx hx' hno=>?_,h.F,fun t=>?_,h.defers,h.size,fun o x hpar hx=>?_,?_⟩
 ·obtain⟨o1,y,hi,hy,rfl⟩:=hob o x hx
  have:=h.objs o1 y hy
  have hb:=ZF hn hi
  cases y with
  |row e rows d v hh=>simp only[renObj,ObjR,Gh.ren,hb];exact this
  |box t cs=>
   simp only[renObj,ObjR,Gh.ren,hb]
   obtain⟨g,arr,et,h1,h2,h3,h4,h5,h6⟩:=(this:BoxR E w S0 G st.ob cs _ _ _)
   refine⟨g,arr,et,h1,h2,h3,h4,h5.trans (Z06 nb ρ cs).symm,fun i v x hv hxx=>?_⟩
   rw[Z0K]at hv
   obtain⟨v0,h0,rfl⟩:=Option.map_eq_some_iff.mp hv
   obtain⟨h7,h8⟩:=h6 i v0 x h0 hxx
   exact⟨h7.ren hn hnb hob,h8⟩
  |mp kl el es=>simp only[renObj,ObjR,Gh.ren,hb];exact this
 ·obtain⟨o1,y,hi,hy,_⟩:=hob o x hx
  simp only[Gh.ren,ZF hn hi]
  exact h.tops o1 y hy
 ·obtain⟨o1,y,hi,hy,_⟩:=hob o x hx
  obtain⟨o2,y',hi',hy',_⟩:=hob o' x' hx'
  simp only[Gh.ren,ZF hn hi,ZF hn hi']
  exact h.tops2 o1 y o2 y' hy hy' (hne hi hi' hno)
 ·obtain⟨o1,y,hi,hy,_⟩:=hob o x hx
  simp only[Gh.ren,ZF hn hi]
  exact h.ins o1 y hy
 ·obtain⟨o1,y,hi,hy,_⟩:=hob o x hx
  obtain⟨o2,y',hi',hy',_⟩:=hob o' x' hx'
  simp only[Gh.ren,ZF hn hi,ZF hn hi']
  exact h.ins2 o1 y o2 y' hy hy' (hne hi hi' hno)
 ·rcases Z1x nb ρ st.tm keep t with e|e
  ·show VR _ _ _ _ _ (getT (renTm nb ρ st.tm keep) t) _
   rw[e]
   exact(h.tmps t).ren hn hnb hob
  ·show VR _ _ _ _ _ (getT (renTm nb ρ st.tm keep) t) _
   rw[e]
   exact .dead _
 ·obtain⟨o1,y,hi,hy,_⟩:=hob o x hx
  rcases Z33 hp hi with e|e
  ·subst e
   simp only[Gh.ren,ZF hn hi]
   exact h.par o1 y hpar hy
  ·rw[hpar]at e;cases e
 ·refine h.fix.map (fun t cs ht=>?_) (fun _ _ _ _ _=>rfl)
  obtain⟨o1,y,hi,hy,hx⟩:=hob _ _ ht
  rcases Z33 hp hi with e|e
  ·subst e
   cases y with
   |row e rows d v hh=>cases hx
   |box t' cs'=>
    simp only[renObj,Obj.box.injEq]at hx
    obtain⟨rfl,rfl⟩:=hx
    refine⟨_,cs',hy,fun c e rows hc=>?_⟩
    rw[Z0K]at hc
    obtain⟨v0,h0,h1⟩:=Option.map_eq_some_iff.mp hc
    rw[h0,Z5B h1]
   |mp kl el es=>cases hx
  ·rw[Z0H]at e;cases e
theorem RelG.clean2 (h:RelG E base M S0 R0 w0 nt G st a w) (keep:List Nat):Rel E base M S0 R0 w0 nt (Vai.clean2 keep st) a w:=by
 unfold Vai.clean2
 cases hb:(nodupId (fsts (renum 0 (keepIds keep st)))&&(nodupId (snds (renum 0 (keepIds keep st)))&&parOk (renum 0 (keepIds keep st))))
 ·simp only[hb,cond_false]
  exact⟨G,h.kept,h.old,(fun o x hx=>by cases hx),(fun o x hx=>by cases hx),(fun o x o' x' hx=>by cases hx),(fun o x hx=>by cases hx),(fun o x o' x' hx=>by cases hx),h.F,(fun t=>.dead _),h.defers,h.size,(fun o x _ hx=>by cases hx),.none fun _ _ h=>by cases h⟩
 ·simp only[hb,cond_true]
  simp only[Bool.and_eq_true]at hb
  exact⟨_,h.ren (fun o x hx=>by
   revert hx
   cases keep.any (Nat.beq 999999)
   ·intro hx;cases hx
   ·exact fun hx=>hx) (ZA.mp hb.2.1) (ZA.mp hb.1) hb.2.2 keep⟩
end
end Go.Proofs.YtnihikajdbcoaaaGreat.Vai
namespace Go.Proofs.YtnihikajdbcoaaaGreat.Vai
open Go
section
variable {P:Program} {E:Env} {base:Nat} {M:List Nat} {S0:Nat→Prop} {R0:Id→Value} {w0:World} {nt:Nat}
def RunTo (P:Program) (f:FuncId) (R:Value→World→Prop) (items:List Item) (a:Act) (w:World):Prop:=
 ∀(b:Frame),b.fn=f→b.kind=.normal→∀cs,∃v w' fr,R v w'∧Steps P (lone (b.at a items) cs w) (lone fr cs w')∧fr.fn=f∧fr.leaving P w' (.returned v)
theorem RunTo.step {f:FuncId} {R:Value→World→Prop} {items items':List Item} {a:Act} {w:World} (hs:∀(b:Frame) cs,step P (lone (b.at a items) cs w)=.next (lone (b.at a items') cs w)) (h:RunTo P f R items' a w):RunTo P f R items a w:=
 fun b hb hk cs=>by
  obtain⟨v,w',fr,h1,h2,h3⟩:=h b hb hk cs
  exact⟨v,w',fr,h1,.head (hs b cs) h2,h3⟩
theorem Z5C (hE:EnvOk P E) {f:FuncId} {fn:Func} (hf:P.funcs[f]?=some fn) (hnt:fn.ntmps≤1000000) {again:List Item→St→Option (List Dat)} {call:FuncId→List Dat→Option (List Dat)} (hC:CallR P E base M S0 R0 w0 fn.ntmps call) {out:List Dat} {R:Value→World→Prop}
  (hfin:∀st a w,Rel E base M S0 R0 w0 fn.ntmps st a w→finish E f fn st=some out→∃v,(results fn a.tmps).run P w=.ok v w∧R v w)
  (hagain:∀c r st a w,Rel E base M S0 R0 w0 fn.ntmps st a w→again (.inLoop c::r) st=some out→RunTo P f R (.code c::.inLoop c::r) a w)
  (hdraw:∀n id ops r st a w (K:Act→World→Prop),Rel E base M S0 R0 w0 fn.ntmps st a w→(∀st' a' w',Rel E base M S0 R0 w0 fn.ntmps st' a' w'→runN E f fn again call n r st'=some out→K a' w')→runOps E fn.ntmps call ops.toList (fun rs st'=>bif orderOk ops.toList st rs then runN E f fn again call n r st' else none) ops.toList 0 [] st=some out→
   (Code.region id ops true).wp P (fun e a' w'=>match e with|.normal=>K a' w'|_=>False) a w):
  ∀(n:Nat) (items:List Item) (st:St) (a:Act) (w:World),Rel E base M S0 R0 w0 fn.ntmps st a w→runN E f fn again call n items st=some out→RunTo P f R items a w:=by
 intro n
 induction n with
 |zero=>intro items st a w h hr;simp[runN]at hr
 |succ n ih=>
  intro items st a w h hr
  have leave:finish E f fn st=some out→∀(b:Frame),b.fn=f→b.kind=.normal→∀todo,∃v,R v w∧({b.at a todo with mode:=.returning}:Frame).fn=f∧({b.at a todo with mode:=.returning}:Frame).leaving P w (.returned v):=fun hfi b hb hk todo=>by
   obtain⟨v,h1,h2⟩:=hfin st a w h hfi
   obtain⟨G,hG⟩:=h
   exact⟨v,h2,hb,rfl,hG.defers,hk,fn,by simp only[Frame.at];rw[hb];exact hf,h1⟩
  simp only[runN]at hr
  split at hr
  ·intro b hb hk cs
   obtain⟨v,h1,h2,h3⟩:=leave hr b hb hk []
   exact⟨v,w,_,h1,.one step_end,h2,h3⟩
  ·rename_i r
   intro b hb hk cs
   obtain⟨v,h1,h2,h3⟩:=leave hr b hb hk (.code .ret::r)
   exact⟨v,w,_,h1,.one step_ret,h2,h3⟩
  ·exact .step (fun b cs=>step_skip) (ih _ _ _ _ h hr)
  ·exact .step (fun b cs=>step_inBlock) (ih _ _ _ _ h hr)
  ·exact .step (fun b cs=>step_seq) (ih _ _ _ _ h hr)
  ·rename_i c x y r
   split at hr
   ·rename_i t ht
    obtain⟨G,hG⟩:=h
    have hv:=hG.ev c
    rw[ht]at hv
    generalize hav:a.eval c=v at hv
    cases hv
    cases t
    ·exact .step (fun b cs=>step_cond hav) (ih _ _ _ _ ⟨G,hG⟩ hr)
    ·exact .step (fun b cs=>step_cond hav) (ih _ _ _ _ ⟨G,hG⟩ hr)
   ·cases hr
  ·exact .step (fun b cs=>step_block) (ih _ _ _ _ h hr)
  ·rename_i c r
   obtain⟨G,hG⟩:=h
   exact .step (fun b cs=>step_loop) (hagain c r _ _ _ (hG.clean2 _) hr)
  ·rename_i c r
   obtain⟨G,hG⟩:=h
   exact .step (fun b cs=>step_inLoop) (hagain c r _ _ _ (hG.clean2 _) hr)
  ·rename_i id r
   split at hr
   ·rename_i r' hx
    exact .step (fun b cs=>step_exit hx) (ih _ _ _ _ h hr)
   ·cases hr
  ·rename_i id ops draw r
   have conv:(Code.region id ops draw).wp P (fun e a' w'=>match e with|.normal=>RunTo P f R r a' w'|_=>False) a w→RunTo P f R (.code (.region id ops draw)::r) a w:=fun hw b hb hk cs=>by
    obtain⟨e,a',w',q1,q2⟩:=hw b r cs
    cases e with
    |normal=>
     obtain⟨v,w2,fr,h1,h2,h3⟩:=q1 b hb hk cs
     exact⟨v,w2,fr,h1,Steps.trans q2 h2,h3⟩
    |_=>exact q1.elim
   refine conv ?_
   cases draw with
   |true=>exact hdraw n id ops r st a w (RunTo P f R r) h (fun st' a' w' h' hm=>ih r st' a' w' h' hm) (by simpa using hr)
   |false=>
    refine wp_region ?_
    have:=Z2U hE hnt hC (ops:=ops) (out:=out) (Q:=fun e a' w'=>match e with|.normal=>RunTo P f R r a' w'|_=>False) (fin:=fun rs st'=>runN E f fn again call n r st') (fun rs st' a' w' h' hr'=>ih r st' a' w' h' hr') ops.toList 0 rfl [] st a w h (by simpa using hr)
    simpa[List.range_eq_range']using this
  ·cases hr
end
end Go.Proofs.YtnihikajdbcoaaaGreat.Vai
namespace Go.Proofs.YtnihikajdbcoaaaGreat.Vai
open Go
structure FS where
 t:Nat→AV
 o:Id→Option Obj
def fsOf (st:St):FS:=⟨getT st.tm,getO st.ob⟩
def ovO (d:Delta) (i:Id):Option (Option Obj):=
 match findN d.up2 i with
 |some x=>some (some x)
 |none=>match findN d.nw i with
  |some x=>some (some x)
  |none=>match findN d.up i with
   |some x=>some (some x)
   |none=>if i∈d.dl then some none else none
def numbIf (b:Bool) (v:AV):AV:=if b=true then numbA v else v
def numbIfO (b:Bool) (x:Option Obj):Option Obj:=if b=true then x.bind numbObj else x
def FS.app (s:FS) (p:Option Nat×Delta):FS:=
 ⟨fun t=>if p.1=some t then p.2.v else numbIf p.2.nm (s.t t),fun i=>(ovO p.2 i).getD (numbIfO p.2.nm (s.o i))⟩
theorem Z3c (a b:Bool) (v:AV):numbIf a (numbIf b v)=numbIf b (numbIf a v):=by
 cases a<;>cases b<;>simp[numbIf]
theorem Z34 (x:Option Obj):(x.bind numbObj).bind numbObj=x.bind numbObj:=by
 cases x with
 |none=>rfl
 |some x=>
  cases x with
  |row e rows d v h=>cases d<;>rfl
  |box t cs=>simp only[Option.bind_some,numbObj,numbL_idem]
  |mp kl el es=>rfl
theorem Z35 (a b:Bool) (x:Option Obj):numbIfO a (numbIfO b x)=numbIfO b (numbIfO a x):=by
 cases a<;>cases b<;>simp[numbIfO]
theorem Z0m (b:Bool) (v:AV):numbA (numbIf b v)=numbA v:=by
 cases b
 ·rfl
 ·exact numbA_idem v
theorem Z0n (b:Bool) (x:Option Obj):(numbIfO b x).bind numbObj=x.bind numbObj:=by
 cases b
 ·rfl
 ·exact Z34 x
mutual
theorem firm_numb:∀{u:AV},firmA (numbA u)=true→numbA u=u
 |.dead,h=>by cases h
 |.i _ _,_=>rfl
 |.b _,_=>rfl
 |.s _,_=>rfl
 |.nil,_=>rfl
 |.agg cs,h=>by simp only[numbA,firmA]at h⊢;rw[firmL_numb h]
 |.tup cs,h=>by simp only[numbA,firmA]at h⊢;rw[firmL_numb h]
 |.fn _ cs,h=>by simp only[numbA,firmA]at h⊢;rw[firmL_numb h]
 |.ro e al rows,h=>by
  cases al
  ·rfl
  ·cases h
 |.own _,_=>rfl
 |.vw _ _ _,_=>rfl
 |.nest _ _ _ _ _ _ _,h=>by cases h
 |.ptr _ _ _,_=>rfl
 |.pro e al cs f,h=>by
  cases al
  ·rfl
  ·cases h
theorem firmL_numb:∀{cs:List AV},firmL (numbL cs)=true→numbL cs=cs
 |[],_=>rfl
 |v::r,h=>by
  simp only[numbL,firmL,Bool.and_eq_true]at h
  simp only[numbL,firm_numb h.1,firmL_numb h.2]
end
mutual
theorem firm_self:∀{u:AV},firmA u=true→numbA u=u
 |.dead,h=>by cases h
 |.i _ _,_=>rfl
 |.b _,_=>rfl
 |.s _,_=>rfl
 |.nil,_=>rfl
 |.agg cs,h=>by simp only[firmA]at h;simp only[numbA,firmL_self h]
 |.tup cs,h=>by simp only[firmA]at h;simp only[numbA,firmL_self h]
 |.fn _ cs,h=>by simp only[firmA]at h;simp only[numbA,firmL_self h]
 |.ro e al rows,h=>by
  cases al
  ·rfl
  ·cases h
 |.own _,_=>rfl
 |.vw _ _ _,_=>rfl
 |.nest _ _ _ _ _ _ _,h=>by cases h
 |.ptr _ _ _,_=>rfl
 |.pro e al cs f,h=>by
  cases al
  ·rfl
  ·cases h
theorem firmL_self:∀{cs:List AV},firmL cs=true→numbL cs=cs
 |[],_=>rfl
 |v::r,h=>by
  simp only[firmL,Bool.and_eq_true]at h
  simp only[numbL,firm_self h.1,firmL_self h.2]
end
theorem Z5D {u v:AV} (hv:firmA v=true) (h:numbA u=numbA v):u=v:=by
 rw[firm_self hv]at h
 rw[←firm_numb (u:=u) (by rw[h];exact hv),h]
theorem Z1y {x:Obj} (h:firmO x=true):numbObj x=some x:=by
 cases x with
 |row e rows d v hh=>simp only[firmO]at h;subst h;rfl
 |box t cs=>simp only[firmO]at h;simp only[numbObj,firmL_self h]
 |mp kl el es=>rfl
theorem Z4r {u:Option Obj} {x:Obj} (hx:firmO x=true) (h:u.bind numbObj=(some x).bind numbObj):u=some x:=by
 simp only[Option.bind_some,Z1y hx]at h
 cases u with
 |none=>cases h
 |some y=>
  simp only[Option.bind_some]at h
  rcases ZE h with ⟨e,rows,v,hh,rfl,q⟩|⟨t,cs,rfl,q⟩|⟨kl,el,es,rfl,q⟩
  ·rw[q]
  ·subst q
   simp only[firmO]at hx
   rw[firmL_numb hx]
  ·rw[q]
mutual
theorem numbA_ids {k:Id}:∀{v:AV},k∉idsA v→k∉idsA (numbA v)
 |.dead,h=>h
 |.i _ _,h=>h
 |.b _,h=>h
 |.s _,h=>h
 |.nil,h=>h
 |.agg cs,h=>by simp only[idsA]at h;simp only[numbA,idsA];exact numbL_ids h
 |.tup cs,h=>by simp only[idsA]at h;simp only[numbA,idsA];exact numbL_ids h
 |.fn _ cs,h=>by simp only[idsA]at h;simp only[numbA,idsA];exact numbL_ids h
 |.ro e al rows,h=>by cases al<;>exact h
 |.own _,h=>h
 |.vw _ _ _,h=>h
 |.nest _ _ _ _ _ _ _,_=>by simp[numbA,idsA]
 |.ptr _ _ _,h=>h
 |.pro e al cs f,h=>by cases al<;>exact h
theorem numbL_ids {k:Id}:∀{cs:List AV},k∉idsL cs→k∉idsL (numbL cs)
 |[],h=>h
 |v::r,h=>by
  simp only[idsL,List.mem_append,not_or]at h
  simp only[numbL,idsL,List.mem_append,not_or]
  exact⟨numbA_ids h.1,numbL_ids h.2⟩
end
def fX (X:Nat→Bool):List (Option Nat×Delta)→Nat→FS→FS
 |[],_,s=>s
 |p::r,j,s=>fX X r (j+1) (if X j then s.app p else s)
theorem Z52 {X Y:Nat→Bool} {t:Nat}:∀{L:List (Option Nat×Delta)} {j:Nat} {s s':FS},(∀k p,L[k]?=some p→X (j+k)≠Y (j+k)→p.1≠some t)→numbA (s.t t)=numbA (s'.t t)→numbA ((fX X L j s).t t)=numbA ((fX Y L j s').t t)
 |[],_,_,_,_,h=>h
 |p::r,j,s,s',hp,h=>by
  simp only[fX]
  refine Z52 (fun k q hq hne=>hp (k+1) q (by simpa using hq) (by rw[show j+(k+1)=j+1+k by omega];exact hne)) ?_
  have h0:=hp 0 p rfl
  cases hx:X j<;>cases hy:Y j<;>simp only[if_true,FS.app,Bool.false_eq_true,if_false]
  ·exact h
  ·rw[if_neg (h0 (by simp[hx,hy])),Z0m];exact h
  ·rw[if_neg (h0 (by simp[hx,hy])),Z0m];exact h
  ·split
   ·rfl
   ·rw[Z0m,Z0m];exact h
theorem Z53 {X Y:Nat→Bool} {i:Id}:∀{L:List (Option Nat×Delta)} {j:Nat} {s s':FS},(∀k p,L[k]?=some p→X (j+k)≠Y (j+k)→ovO p.2 i=none)→(s.o i).bind numbObj=(s'.o i).bind numbObj→((fX X L j s).o i).bind numbObj=((fX Y L j s').o i).bind numbObj
 |[],_,_,_,_,h=>h
 |p::r,j,s,s',hp,h=>by
  simp only[fX]
  refine Z53 (fun k q hq hne=>hp (k+1) q (by simpa using hq) (by rw[show j+(k+1)=j+1+k by omega];exact hne)) ?_
  have h0:=hp 0 p rfl
  cases hx:X j<;>cases hy:Y j<;>simp only[if_true,FS.app,Bool.false_eq_true,if_false]
  ·exact h
  ·rw[h0 (by simp[hx,hy]),Option.getD_none,Z0n];exact h
  ·rw[h0 (by simp[hx,hy]),Option.getD_none,Z0n];exact h
  ·cases ovO p.2 i with
   |some x=>rfl
   |none=>rw[Option.getD_none,Option.getD_none,Z0n,Z0n];exact h
theorem Z5N {X Y:Nat→Bool} {t:Nat}:∀{L:List (Option Nat×Delta)} {j:Nat} {s s':FS},(∀k p,L[k]?=some p→X (j+k)≠Y (j+k)→p.1≠some t∧p.2.nm=false)→s.t t=s'.t t→(fX X L j s).t t=(fX Y L j s').t t
 |[],_,_,_,_,h=>h
 |p::r,j,s,s',hp,h=>by
  simp only[fX]
  refine Z5N (fun k q hq hne=>hp (k+1) q (by simpa using hq) (by rw[show j+(k+1)=j+1+k by omega];exact hne)) ?_
  have h0:=hp 0 p rfl
  cases hx:X j<;>cases hy:Y j<;>simp only[if_true,FS.app,Bool.false_eq_true,if_false]
  ·exact h
  ·rw[if_neg (h0 (by simp[hx,hy])).1,(h0 (by simp[hx,hy])).2];exact h
  ·rw[if_neg (h0 (by simp[hx,hy])).1,(h0 (by simp[hx,hy])).2];exact h
  ·rw[h]
theorem Z5O {X Y:Nat→Bool} {i:Id}:∀{L:List (Option Nat×Delta)} {j:Nat} {s s':FS},(∀k p,L[k]?=some p→X (j+k)≠Y (j+k)→ovO p.2 i=none∧p.2.nm=false)→s.o i=s'.o i→(fX X L j s).o i=(fX Y L j s').o i
 |[],_,_,_,_,h=>h
 |p::r,j,s,s',hp,h=>by
  simp only[fX]
  refine Z5O (fun k q hq hne=>hp (k+1) q (by simpa using hq) (by rw[show j+(k+1)=j+1+k by omega];exact hne)) ?_
  have h0:=hp 0 p rfl
  cases hx:X j<;>cases hy:Y j<;>simp only[if_true,FS.app,Bool.false_eq_true,if_false]
  ·exact h
  ·rw[(h0 (by simp[hx,hy])).1,(h0 (by simp[hx,hy])).2];exact h
  ·rw[(h0 (by simp[hx,hy])).1,(h0 (by simp[hx,hy])).2];exact h
  ·rw[h]
def FirmOut (p:Option Nat×Delta):Prop:=(∀t,p.1=some t→numbA p.2.v=p.2.v)∧∀i x,ovO p.2 i=some (some x)→numbObj x=some x
def Ap (p q:Option Nat×Delta):Prop:=(∀t,p.1=some t→q.1≠some t)∧(∀i,ovO p.2 i=none∨ovO q.2 i=none)∧(p.2.nm=true→FirmOut q)∧(q.2.nm=true→FirmOut p)
theorem FirmOut.t {p:Option Nat×Delta} {b:Bool} (h:b=true→FirmOut p) {t:Nat} (ht:p.1=some t):numbIf b p.2.v=p.2.v:=by
 cases b
 ·rfl
 ·exact(h rfl).1 t ht
theorem FirmOut.o {p:Option Nat×Delta} {b:Bool} (h:b=true→FirmOut p) {i:Id} {y:Option Obj} (ho:ovO p.2 i=some y):numbIfO b y=y:=by
 cases b
 ·rfl
 ·cases y with
  |none=>rfl
  |some x=>exact(h rfl).2 i x ho
theorem Ap.comm {p q:Option Nat×Delta} (h:Ap p q) (s:FS):(s.app p).app q=(s.app q).app p:=by
 simp only[FS.app,FS.mk.injEq]
 obtain⟨h1,h2,h3,h4⟩:=h
 refine⟨funext fun t=>?_,funext fun i=>?_⟩
 ·by_cases hq:q.1=some t
  ·rw[if_pos hq,if_neg (fun hp=>h1 t hp hq),if_pos hq,FirmOut.t h3 hq]
  ·rw[if_neg hq,if_neg hq]
   by_cases hp:p.1=some t
   ·rw[if_pos hp,if_pos hp,FirmOut.t h4 hp]
   ·rw[if_neg hp,if_neg hp,Z3c]
 ·cases hp:ovO p.2 i with
  |none=>
   cases hq:ovO q.2 i with
   |none=>simp only[Option.getD_none,Z35]
   |some y=>simp only[Option.getD_none,Option.getD_some,FirmOut.o h3 hq]
  |some y=>
   have hq:ovO q.2 i=none:=by
    rcases h2 i with h|h
    ·rw[hp]at h;cases h
    ·exact h
   simp only[hq,Option.getD_none,Option.getD_some,FirmOut.o h4 hp]
theorem Z3i {X:Nat→Bool} {q:Option Nat×Delta}:∀{L:List (Option Nat×Delta)} {j:Nat} {s:FS},(∀k p,L[k]?=some p→X (j+k)=true→Ap p q)→fX X L j (s.app q)=(fX X L j s).app q
 |[],_,_,_=>rfl
 |p::r,j,s,hp=>by
  simp only[fX]
  have ih:=fun s=>Z3i (X:=X) (q:=q) (L:=r) (j:=j+1) (s:=s) (fun k p' hp' hx=>hp (k+1) p' (by simpa using hp') (by rw[show j+(k+1)=j+1+k by omega];exact hx))
  cases hx:X j
  ·simpa using ih s
  ·simp only[if_true]
   rw[←ih,(hp 0 p rfl hx).comm]
def addX (X:Nat→Bool) (i:Nat):Nat→Bool:=fun k=>if k=i then true else X k
theorem Z4J {X:Nat→Bool} {i:Nat}:∀{L:List (Option Nat×Delta)} {j:Nat} {s:FS},i<j→fX (addX X i) L j s=fX X L j s
 |[],_,_,_=>rfl
 |p::r,j,s,h=>by
  simp only[fX]
  rw[Z4J (by omega)]
  simp only[addX,if_neg (show¬j=i by omega)]
theorem Z4K {X:Nat→Bool} {i:Nat} {q:Option Nat×Delta} (hX:X i=false):∀{L:List (Option Nat×Delta)} {j k:Nat} {s:FS},i=j+k→L[k]?=some q→(∀m p,L[m]?=some p→k<m→X (j+m)=true→Ap p q)→fX (addX X i) L j s=(fX X L j s).app q
 |[],_,_,_,_,h,_=>by simp at h
 |p::r,j,0,s,hi,hq,hp=>by
  simp only[List.getElem?_cons_zero,Option.some.injEq]at hq
  subst hq
  have hi:i=j:=hi
  subst hi
  simp only[fX]
  rw[Z4J (by omega)]
  simp only[addX,if_true,hX,Bool.false_eq_true,if_false]
  exact Z3i fun m p' hp' hx=>hp (m+1) p' (by simpa using hp') (by omega) (by rw[show i+(m+1)=i+1+m by omega];exact hx)
 |p::r,j,k+1,s,hi,hq,hp=>by
  simp only[fX]
  rw[Z4K hX (j:=j+1) (k:=k) (by omega) (by simpa using hq) (fun m p' hp' hk hx=>hp (m+1) p' (by simpa using hp') (by omega) (by rw[show j+(m+1)=j+1+m by omega];exact hx))]
  simp only[addX,if_neg (show¬j=i by omega)]
theorem Z2H:∀(L:List (Option Nat×Delta)) (j:Nat) (s:FS),fX (fun _=>false) L j s=s
 |[],_,_=>rfl
 |p::r,j,s=>by simp only[fX,Bool.false_eq_true,if_false];exact Z2H r (j+1) s
theorem Z3j {X Y:Nat→Bool}:∀{L:List (Option Nat×Delta)} {j:Nat} {s:FS},(∀k,k<L.length→X (j+k)=Y (j+k))→fX X L j s=fX Y L j s
 |[],_,_,_=>rfl
 |p::r,j,s,h=>by
  have h0:X j=Y j:=h 0 (by simp)
  simp only[fX,h0]
  exact Z3j fun k hk=>by
   have:=h (k+1) (by simpa using hk)
   rw[show j+(k+1)=j+1+k by omega]at this
   exact this
mutual
theorem killA_none {k:Id}:∀{v:AV},k∉idsA v→killA k v=v
 |.own o,h=>by simp only[idsA,List.mem_singleton]at h;simp only[killA,Z9.mpr h,cond_false]
 |.vw o _ _,h=>by simp only[idsA,List.mem_singleton]at h;simp only[killA,Z9.mpr h,cond_false]
 |.nest o _ _ _ _ _ _,h=>by simp only[idsA,List.mem_singleton]at h;simp only[killA,Z9.mpr h,cond_false]
 |.ptr o _ _,h=>by simp only[idsA,List.mem_singleton]at h;simp only[killA,Z9.mpr h,cond_false]
 |.agg cs,h=>by simp only[idsA]at h;simp only[killA,killL_none h]
 |.tup cs,h=>by simp only[idsA]at h;simp only[killA,killL_none h]
 |.fn _ cs,h=>by simp only[idsA]at h;simp only[killA,killL_none h]
 |.dead,_=>rfl
 |.i _ _,_=>rfl
 |.b _,_=>rfl
 |.s _,_=>rfl
 |.nil,_=>rfl
 |.ro _ _ _,_=>rfl
 |.pro _ _ _ _,_=>rfl
theorem killL_none {k:Id}:∀{vs:List AV},k∉idsL vs→killL k vs=vs
 |[],_=>rfl
 |v::r,h=>by
  simp only[idsL,List.mem_append,not_or]at h
  simp only[killL,killA_none h.1,killL_none h.2]
end
def NoR (k:Id) (s:FS):Prop:=(∀t,k∉idsA (s.t t))∧∀o t cells,s.o o=some (.box t cells)→k∉idsL cells
theorem Z4s (nw:List (Id×Obj)):∀{st:St},(∀k∈keys nw,NoR k (fsOf st))→(∀t,getT (clearAll nw st).tm t=getT st.tm t)∧∀i,getO (clearAll nw st).ob i=if i∈keys nw then none else getO st.ob i:=by
 induction nw with
 |nil=>exact fun{st} _=>⟨fun _=>rfl,fun i=>by simp[keys,clearAll]⟩
 |cons p nw ih=>
  intro st h
  obtain⟨k,x⟩:=p
  have hk:=h k (by simp[keys])
  have ht:∀t,getT (killT k st.tm) t=getT st.tm t:=fun t=>by rw[Z0E];exact killA_none (hk.1 t)
  have ho:∀i,getO (killO k (delO st.ob k)) i=if i=k then none else getO st.ob i:=fun i=>by
   rw[Zt,ZP]
   by_cases hi:i=k
   ·simp[hi]
   ·simp only[if_neg hi]
    cases hg:getO st.ob i with
    |none=>rfl
    |some y=>
     cases y with
     |row e rows d v h=>rfl
     |box t cs=>simp only[Option.map_some,killObj,killL_none (hk.2 i t cs hg)]
     |mp kl el es=>rfl
  obtain⟨i1,i2⟩:=ih (st:={tm:=killT k st.tm,ob:=killO k (delO st.ob k)}) (fun k' hk'=>by
   obtain⟨h1,h2⟩:=h k' (by simp[keys,hk'])
   refine⟨fun t=>?_,fun o t cells hc=>?_⟩
   ·show k'∉idsA (getT (killT k st.tm) t)
    rw[ht];exact h1 t
   ·have hc:getO (killO k (delO st.ob k)) o=some (.box t cells):=hc
    rw[ho]at hc
    split at hc
    ·cases hc
    ·exact h2 o t cells hc)
  refine⟨fun t=>(i1 t).trans (ht t),fun i=>(i2 i).trans ?_⟩
  simp only[keys,List.mem_cons]
  rw[ho]
  by_cases hi:i=k
  ·simp[hi]
  ·simp[hi]
theorem NoR.numb {k:Id} {s:FS} {b:Bool} (h:NoR k s):NoR k ⟨fun t=>numbIf b (s.t t),fun i=>numbIfO b (s.o i)⟩:=by
 cases b
 ·exact h
 ·refine⟨fun t=>numbA_ids (h.1 t),fun o t cells hc=>?_⟩
  have hc:(s.o o).bind numbObj=some (.box t cells):=hc
  cases hs:s.o o with
  |none=>rw[hs]at hc;cases hc
  |some x=>
   rw[hs]at hc
   rcases ZE hc with ⟨e,rows,v,hh,rfl,q⟩|⟨t',cs,rfl,q⟩|⟨kl,el,es,rfl,q⟩
   ·cases q
   ·cases q
    exact numbL_ids (h.2 o _ cs hs)
   ·cases q
theorem Z4L {st:St} {dst:Option Nat} {d:Delta} (hno:∀k∈keys d.nw,NoR k (fsOf st)) (hup:∀k∈keys d.nw,∀o t cells,findN d.up o=some (.box t cells)→k∉idsL cells):
  fsOf (applyD st dst d)=(fsOf st).app (dst,d):=by
 rw[Z8]
 generalize hst2:(bif d.nm then({tm:=numbT st.tm,ob:=numbO (delAll d.dl st.ob)}:St)else{st with ob:=delAll d.dl st.ob})=st2
 have h2t:∀t,getT st2.tm t=numbIf d.nm (getT st.tm t):=fun t=>by
  subst hst2
  cases d.nm
  ·rfl
  ·exact Z0i _ _
 have h2o:∀i,getO st2.ob i=if i∈d.dl then none else numbIfO d.nm (getO st.ob i):=fun i=>by
  subst hst2
  cases d.nm
  ·show getO (delAll d.dl st.ob) i=_
   rw[ZC];rfl
  ·show getO (numbO (delAll d.dl st.ob)) i=_
   rw[ZG,ZC]
   split<;>rfl
 have hno2:∀k∈keys d.nw,NoR k ⟨fun t=>numbIf d.nm (getT st.tm t),fun i=>numbIfO d.nm (getO st.ob i)⟩:=fun k hk=>(hno k hk).numb
 have hob:∀i,getO (upAll d.up st2.ob) i=match findN d.up i with
   |some x=>some x
   |none=>if i∈d.dl then none else numbIfO d.nm (getO st.ob i):=fun i=>by
  rw[ZT,h2o]
  cases findN d.up i<;>rfl
 obtain⟨h1,h2⟩:=Z4s d.nw (st:={st2 with ob:=upAll d.up st2.ob}) (fun k hk=>⟨fun t=>by
  show k∉idsA (getT st2.tm t)
  rw[h2t];exact(hno2 k hk).1 t,fun o t cells hc=>by
  have hc:getO (upAll d.up st2.ob) o=some (.box t cells):=hc
  rw[hob]at hc
  split at hc
  ·rename_i x hx
   cases hc
   exact hup k hk o t cells hx
  ·split at hc
   ·cases hc
   ·exact(hno2 k hk).2 o t cells hc⟩)
 have h1:∀t,getT (clearAll d.nw {st2 with ob:=upAll d.up st2.ob}).tm t=numbIf d.nm (getT st.tm t):=fun t=>(h1 t).trans (h2t t)
 have hO:∀i,getO (upAll d.up2 (upAll d.nw (clearAll d.nw {st2 with ob:=upAll d.up st2.ob}).ob)) i=(ovO d i).getD (numbIfO d.nm (getO st.ob i)):=fun i=>by
  rw[ZT,ZT,h2,hob]
  unfold ovO
  cases findN d.up2 i with
  |some x=>rfl
  |none=>
   cases hn:findN d.nw i with
   |some x=>rfl
   |none=>
    have:i∉keys d.nw:=fun hh=>by
     obtain⟨x,hx⟩:=ZS.mpr hh
     rw[hx]at hn;cases hn
    simp only[if_neg this]
    cases findN d.up i with
    |some x=>rfl
    |none=>
     by_cases hd:i∈d.dl
     ·simp[hd]
     ·simp[hd]
 cases dst with
 |none=>
  simp only[putD,fsOf,FS.app,FS.mk.injEq]
  refine⟨funext fun t=>?_,funext hO⟩
  rw[if_neg (by simp)]
  exact h1 t
 |some dt=>
  simp only[putD,fsOf,FS.app,FS.mk.injEq]
  refine⟨funext fun t=>?_,funext hO⟩
  rw[Zb]
  by_cases ht:t=dt
  ·simp[ht]
  ·rw[if_neg ht,if_neg (fun e=>ht (Option.some.inj e).symm)]
   exact h1 t
end Go.Proofs.YtnihikajdbcoaaaGreat.Vai
namespace Go.Proofs.YtnihikajdbcoaaaGreat.Vai
open Go
theorem Z54 {tm tm':List (Nat×AV)} {l:List Operand} (h:∀t∈tmpsOf l,getT tm t=getT tm' t):∀x∈l,ev tm x=ev tm' x:=by
 induction l with
 |nil=>intro x hx;cases hx
 |cons y l ih=>
  intro x hx
  rcases List.mem_cons.mp hx with rfl|hx
  ·cases x with
   |tmp t=>exact h t (by simp[tmpsOf])
   |_=>rfl
  ·refine ih (fun t ht=>h t ?_) x hx
   cases y<;>simp[tmpsOf,ht]
theorem Z1A {tm tm':List (Nat×AV)}:∀{l:List Operand},(∀x∈l,ev tm x=ev tm' x)→evs tm l=evs tm' l
 |[],_=>rfl
 |x::l,h=>by simp only[evs,h x (by simp),Z1A (l:=l) (fun y hy=>h y (by simp[hy]))]
theorem Z36 {tm tm':List (Nat×AV)}:∀{l:List (Nat×Operand)},(∀x∈l.map (·.2),ev tm x=ev tm' x)→evp tm l=evp tm' l∧evpV tm l=evpV tm' l
 |[],_=>⟨rfl,rfl⟩
 |(i,x)::l,h=>by
  obtain⟨h1,h2⟩:=Z36 (l:=l) (fun y hy=>h y (by simp only[List.map_cons,List.mem_cons];exact .inr hy))
  simp only[evp,evpV,h x (by simp),h1,h2,and_self]
theorem Z4M {E:Env} {call:FuncId→List Dat→Option (List Dat)} {look:Look} {tm tm':List (Nat×AV)} {o:Oper} (h:∀x∈o.op.operands.toList,ev tm x=ev tm' x):iop E call look tm o=iop E call look tm' o:=by
 unfold iop
 cases hop:o.op<;>rw[hop]at h<;>simp only[Op.operands,List.mem_cons,List.not_mem_nil,or_false,forall_eq_or_imp,forall_eq,Array.toList_append]at h⊢
 all_goals first
  |rfl
  |(simp only[h];done)
  |skip
 case build ty ps=>
  obtain⟨h1,h2⟩:=Z36 (l:=ps.toList) (by simpa using h)
  rw[h1,h2]
 case buildSlice ty n ps=>
  obtain⟨h1,h2⟩:=Z36 (l:=ps.toList) (by simpa using h)
  rw[h1]
 case slice ty x lo hi mx=>
  cases mx with
  |some m=>rfl
  |none=>
   have hx:=h x (by simp)
   have hlo:evo tm lo=evo tm' lo:=by
    cases lo with
    |none=>rfl
    |some l=>simp only[evo,h l (by simp)]
   have hhi:evo tm hi=evo tm' hi:=by
    cases hi with
    |none=>rfl
    |some l=>simp only[evo,h l (by simp)]
   simp only[hx,hlo,hhi]
 case call c=>
  obtain⟨cal,args,tys⟩:=c
  have ha:evs tm args.toList=evs tm' args.toList:=Z1A fun x hx=>h x (by
   simp only[Call.operands]
   cases cal<;>simp[hx])
  cases cal with
  |builtin b=>simp only[ha]
  |value f=>
   cases f with
   |func f=>simp only[ha]
   |tmp c=>
    have hc:getT tm c=getT tm' c:=h (.tmp c) (by simp[Call.operands])
    simp only[ha,hc]
   |_=>rfl
  |_=>rfl
 case makeMap ty res=>cases res<;>rfl
 case makeFunc fn first captured=>
  have ha:evs tm captured.toList=evs tm' captured.toList:=Z1A fun x hx=>h x (by simp only[List.mem_append];exact .inr hx)
  cases fn with
  |func f=>simp only[ha]
  |_=>rfl
theorem Z2W {ob ob':List (Id×Obj)}:∀{l:List Id},(∀i∈l,getO ob i=getO ob' i)→boxIds l ob=boxIds l ob'
 |[],_=>rfl
 |i::l,h=>by simp only[boxIds,h i (by simp),Z2W (l:=l) (fun j hj=>h j (by simp[hj]))]
def SameL (x y:Option Obj):Prop:=x=y∨∃e rows v h rows' v' h',x=some (.row e rows true v h)∧y=some (.row e rows' true v' h')∧rows.length=rows'.length
theorem Z1c {ob ob':List (Id×Obj)}:∀{l:List Id},(∀i∈l,SameL (getO ob i) (getO ob' i))→boxIds l ob=boxIds l ob'
 |[],_=>rfl
 |i::l,h=>by
  simp only[boxIds,Z1c (l:=l) (fun j hj=>h j (by simp[hj]))]
  rcases h i (by simp)with h|⟨e,rows,v,hh,rows',v',h',h1,h2,_⟩
  ·rw[h]
  ·rw[h1,h2]
def lookOf (st:St) (o:Oper):Look:=fun i=>bif memId i (touchOf st o)then getO st.ob i else none
theorem Z4N {E:Env} {call:FuncId→List Dat→Option (List Dat)} {st st':St} {o:Oper} (ht:∀t∈tmpsOf o.op.operands.toList,getT st'.tm t=getT st.tm t) (ho:∀i∈touchOf st o,getO st'.ob i=getO st.ob i):
  iop E call (lookOf st' o) st'.tm o=iop E call (lookOf st o) st.tm o:=by
 have he:=Z54 ht
 have hto:touchOf st' o=touchOf st o:=by
  unfold touchOf
  cases hbl:blindOp o
  ·rw[Z1A he]
   cases hc:isCall o
   ·rfl
   ·rw[cond_true,cond_true,Z2W (fun i hi=>ho i (by unfold touchOf;simp[hi,hc,hbl]))]
  ·rfl
 have hl:lookOf st' o=lookOf st o:=funext fun i=>by
  unfold lookOf
  rw[hto]
  cases hm:memId i (touchOf st o)with
  |false=>rfl
  |true=>exact ho i (ZQ.mp hm)
 rw[hl]
 exact Z4M he
theorem Z4O {E:Env} {call:FuncId→List Dat→Option (List Dat)} {st st':St} {o:Oper} (hl:lightOp o=true) (ht:∀t∈tmpsOf o.op.operands.toList,getT st'.tm t=getT st.tm t) (ho:∀i∈touchOf st o,SameL (getO st'.ob i) (getO st.ob i)):
  iop E call (lookOf st' o) st'.tm o=iop E call (lookOf st o) st.tm o:=by
 have he:=Z54 ht
 have hto:touchOf st' o=touchOf st o:=by
  unfold touchOf
  cases hbl:blindOp o
  ·rw[Z1A he]
   cases hc:isCall o
   ·rfl
   ·rw[cond_true,cond_true,Z1c (fun i hi=>ho i (by unfold touchOf;simp[hi,hc,hbl]))]
  ·rfl
 have hL:∀i,SameL (lookOf st' o i) (lookOf st o i):=fun i=>by
  unfold lookOf
  rw[hto]
  cases hm:memId i (touchOf st o)with
  |false=>exact .inl rfl
  |true=>exact ho i (ZQ.mp hm)
 rw[Z4M (look:=lookOf st' o) he]
 unfold lightOp at hl
 unfold iop
 cases hop:o.op<;>rw[hop]at hl<;>simp only[Bool.false_eq_true]at hl
 simp only
 split
 ·rename_i e b fs k n _ _
  generalize lookOf st' o=l' at hL⊢
  generalize lookOf st o=l at hL⊢
  unfold opIndexAddr
  split
  ·rename_i x oo _
   rcases hL oo with h|⟨e1,rows,v,hh,rows',v',h',h1,h2,h3⟩
   ·rw[h]
   ·rw[h1,h2];simp only[h3]
  ·rename_i x oo lo m _
   rcases hL oo with h|⟨e1,rows,v,hh,rows',v',h',h1,h2,h3⟩
   ·rw[h]
   ·rw[h1,h2]
  ·rfl
  ·rfl
  ·rfl
 ·split
  ·split
   ·generalize lookOf st' o=l' at hL⊢
    generalize lookOf st o=l at hL⊢
    unfold opIndexA
    split
    ·rename_i x oo row off _
     rcases hL oo with h|⟨e1,rows,v,hh,rows',v',h',h1,h2,h3⟩
     ·rw[h]
     ·rw[h1,h2]
    ·rfl
   ·rfl
  ·rfl
 ·rfl
structure RecOk (rc:Rec) (p:Option Nat×Delta):Prop where
 dst:rc.dst=p.1
 wr:∀i,i∉rc.writes→ovO p.2 i=none
 v:∀k∈idsA p.2.v,k∈rc.vids
 box:∀i t cells,ovO p.2 i=some (some (.box t cells))→∀k∈idsL cells,k∈rc.vids
 nws:rc.nws=keys p.2.nw
 nm:rc.nm=p.2.nm
 bad:rc.bad=false→∀k∈keys p.2.nw,∀o t cells,findN p.2.up o=some (.box t cells)→k∉idsL cells
 firm:rc.firm=true→FirmOut p
 heavy:∀k,k∉rc.hv→ovO p.2 k=(lastO rc.ups k).map some
theorem Z37:∀(l:List (Id×Obj)) (i:Id),lastO l i=findN l i
 |[],_=>rfl
 |(k,x)::r,i=>by
  simp only[lastO,findN,Z37 r i]
  cases findN r i with
  |some y=>rfl
  |none=>
   by_cases h:i=k
   ·subst h;simp[Z5.mpr rfl]
   ·simp[Z9.mpr h,h]
theorem Z0L {nw:List (Id×Obj)} {o:Id} {x:Obj} (hf:firmObs nw=true) (h:findN nw o=some x):numbObj x=some x:=by
 induction nw with
 |nil=>simp[findN]at h
 |cons p nw ih=>
  obtain⟨k0,y⟩:=p
  simp only[firmObs,Bool.and_eq_true]at hf
  simp only[findN]at h
  split at h
  ·rename_i z hz
   cases h
   exact ih hf.2 hz
  ·split at h
   ·cases h;exact Z1y hf.1
   ·cases h
theorem Z0T {nw:List (Id×Obj)} {o:Id} {t:TypeId} {cells:List AV} (h:findN nw o=some (.box t cells)):∀k∈idsL cells,k∈obIds nw:=by
 induction nw with
 |nil=>simp[findN]at h
 |cons p nw ih=>
  obtain⟨k0,x⟩:=p
  simp only[findN]at h
  intro k hk
  split at h
  ·rename_i y hy
   have:=ih (by rw[hy];exact h) k hk
   cases x<;>simp[obIds,this]
  ·split at h
   ·cases h;simp[obIds,hk]
   ·cases h
theorem Z4t {ops:List Oper} {j:Nat} {o:Oper} {st:St} {tc:List Id} {d:Delta}:RecOk (recOf ops j o st tc d) (o.dst,d) where
 dst:=rfl
 wr:=fun i hi=>by
  simp only[recOf,List.mem_append,not_or]at hi
  have f:∀{nw:List (Id×Obj)},i∉keys nw→findN nw i=none:=fun{nw} hk=>by
   cases hf:findN nw i with
   |none=>rfl
   |some x=>exact absurd (ZS.mp ⟨x,hf⟩) hk
  simp only[ovO,f hi.1,f hi.2.1,f hi.2.2.1,if_neg hi.2.2.2]
 v:=fun k hk=>by simp[recOf,hk]
 box:=fun i t cells h k hk=>by
  simp only[ovO]at h
  simp only[recOf,List.mem_append]
  split at h
  ·rename_i x hx;cases h;exact .inr (.inr (.inr (Z0T hx k hk)))
  ·split at h
   ·rename_i x hx;cases h;exact .inr (.inl (Z0T hx k hk))
   ·split at h
    ·rename_i x hx;cases h;exact .inr (.inr (.inl (Z0T hx k hk)))
    ·split at h<;>cases h
 nws:=rfl
 nm:=rfl
 heavy:=fun k hk=>by
  simp only[recOf,List.mem_append,not_or]at hk
  have f:∀{nw:List (Id×Obj)},k∉keys nw→findN nw k=none:=fun{nw} hk=>by
   cases hf:findN nw k with
   |none=>rfl
   |some x=>exact absurd (ZS.mp ⟨x,hf⟩) hk
  simp only[ovO,f hk.1,f hk.2.1,if_neg hk.2.2,recOf,Z37]
  cases findN d.up k<;>rfl
 bad:=fun h=>by
  simp only[recOf,Bool.not_eq_false']at h
  exact fun k hk o t cells hf hc=>ZL.mp h k hk (Z0T hf k hc)
 firm:=fun h=>by
  simp only[recOf,Bool.and_eq_true]at h
  obtain⟨_,_,h1,h2,h3,h4⟩:=h
  refine⟨fun t ht=>?_,fun i x hx=>?_⟩
  ·have ht:o.dst=some t:=ht
   rw[ht]at h1
   exact firm_self h1
  ·simp only[ovO]at hx
   split at hx
   ·rename_i y hy;cases hx;exact Z0L h4 hy
   ·split at hx
    ·rename_i y hy;cases hx;exact Z0L h2 hy
    ·split at hx
     ·rename_i y hy;cases hx;exact Z0L h3 hy
     ·split at hx<;>cases hx
theorem Z5E {j:Nat} {dst:Option Nat} {rd:List Nat}:RecOk ⟨j,dst,rd,[],[],[],[],false,false,true,false,[],[]⟩ (dst,{v:=.tup []}) where
 dst:=rfl
 wr:=fun i _=>by simp[ovO,findN]
 v:=fun k hk=>by simp[idsA,idsL]at hk
 box:=fun i t cells h=>by simp[ovO,findN]at h
 nws:=rfl
 nm:=rfl
 heavy:=fun k _=>by simp[ovO,findN,lastO]
 bad:=fun _ k hk=>by simp[keys]at hk
 firm:=fun _=>⟨fun _ _=>by simp[numbA,numbL],fun i x h=>by simp[ovO,findN]at h⟩
theorem Z4P {X:Nat→Bool} {k:Id}:∀{L:List (Option Nat×Delta)} {j:Nat} {s:FS},NoR k s→(∀m p,L[m]?=some p→X (j+m)=true→k∉idsA p.2.v∧∀i t cells,ovO p.2 i=some (some (.box t cells))→k∉idsL cells)→NoR k (fX X L j s)
 |[],_,_,h,_=>h
 |p::r,j,s,h,hp=>by
  simp only[fX]
  refine Z4P ?_ (fun m q hq hx=>hp (m+1) q (by simpa using hq) (by rw[show j+(m+1)=j+1+m by omega];exact hx))
  cases hx:X j
  ·simpa using h
  ·simp only[if_true]
   obtain⟨h1,h2⟩:=hp 0 p rfl hx
   have hn:=h.numb (b:=p.2.nm)
   refine⟨fun t=>?_,fun o t cells hc=>?_⟩
   ·simp only[FS.app]
    split
    ·exact h1
    ·exact hn.1 t
   ·simp only[FS.app]at hc
    cases ho:ovO p.2 o with
    |none=>rw[ho]at hc;exact hn.2 o t cells hc
    |some x=>
     rw[ho]at hc
     simp only[Option.getD_some]at hc
     subst hc
     exact h2 o t cells ho
theorem Z3y {acc:List (List Nat)} {o:Oper} {i:Nat} (h:i∈after1 acc o):∃e∈o.after.toList,Region.binds .any e=true∧(i=e.on∨i∈acc.getD e.on []):=by
 unfold after1 at h
 have key:∀(l:List Edge) (s:List Nat),i∈l.foldl (fun s e=>bif Region.binds .any e then e.on::(acc.getD e.on []++s)else s) s→i∈s∨∃e∈l,Region.binds .any e=true∧(i=e.on∨i∈acc.getD e.on []):=by
  intro l
  induction l with
  |nil=>intro s h;exact .inl h
  |cons e l ih=>
   intro s h
   rcases ih _ h with h|⟨e',h1,h2,h3⟩
   ·simp only at h
    cases hb:Region.binds .any e
    ·rw[hb]at h;exact .inl h
    ·rw[hb]at h
     simp only[cond_true,List.mem_cons,List.mem_append]at h
     rcases h with h|h|h
     ·exact .inr ⟨e,by simp,hb,.inl h⟩
     ·exact .inr ⟨e,by simp,hb,.inr h⟩
     ·exact .inl h
   ·exact .inr ⟨e',by simp[h1],h2,h3⟩
 rcases key _ _ h with h|h
 ·cases h
 ·exact h
theorem Z0Z:∀(r:List Oper) (acc:List (List Nat)) (m:Nat),m<acc.length→(befores r acc).getD m []=acc.getD m []
 |[],_,_,_=>rfl
 |o::r,acc,m,h=>by
  simp only[befores]
  rw[Z0Z r _ m (by simp;omega)]
  simp only[List.getD_eq_getElem?_getD]
  rw[List.getElem?_append_left h]
theorem Z0a:∀(r:List Oper) (acc:List (List Nat)) (k:Nat) (o:Oper),r[k]?=some o→∀i∈(befores r acc).getD (acc.length+k) [],∃e∈o.after.toList,Region.binds .any e=true∧(i=e.on∨i∈(befores r acc).getD e.on [])
 |[],_,_,_,h=>by simp at h
 |q::r,acc,0,o,h=>by
  simp only[List.getElem?_cons_zero,Option.some.injEq]at h
  subst h
  intro i hi
  simp only[befores,Nat.add_zero]at hi⊢
  rw[Z0Z r _ _ (by simp)]at hi
  simp only[List.getD_eq_getElem?_getD]at hi
  rw[List.getElem?_append_right (Nat.le_refl _)]at hi
  simp only[Nat.sub_self,List.getElem?_cons_zero,Option.getD_some]at hi
  obtain⟨e,h1,h2,h3⟩:=Z3y hi
  refine⟨e,h1,h2,h3.imp id fun h3=>?_⟩
  by_cases hlt:e.on<acc.length
  ·rw[Z0Z r _ _ (by simp;omega)]
   simp only[List.getD_eq_getElem?_getD]at h3⊢
   rw[List.getElem?_append_left hlt]
   exact h3
  ·simp only[List.getD_eq_getElem?_getD,List.getElem?_eq_none (by omega:acc.length≤e.on)]at h3
   simp at h3
 |q::r,acc,k+1,o,h=>by
  simp only[befores]
  have:=Z0a r (acc++[after1 acc q]) k o (by simpa using h)
  simpa[Nat.add_assoc,Nat.add_comm 1 k]using this
theorem Z3z {n:Nat} {am:List Nat} {al:List (List Nat)} (h:∀i,∀j,(maskAt n am i).testBit j=true→j∈al.getD i []) {o:Oper} {j:Nat} (hj:(afterM n am o).testBit j=true):j∈after1 al o:=by
 unfold afterM at hj
 unfold after1
 have key:∀(l:List Edge) (s:Nat) (q:List Nat),(s.testBit j=true→j∈q)→(l.foldl (fun s e=>bif Region.binds .any e then Nat.lor (Nat.shiftLeft 1 e.on) (Nat.lor (maskAt n am e.on) s)else s) s).testBit j=true→
   j∈l.foldl (fun s e=>bif Region.binds .any e then e.on::(al.getD e.on []++s)else s) q:=by
  intro l
  induction l with
  |nil=>exact fun s q hs hj=>hs hj
  |cons e l ih=>
   intro s q hs hj
   refine ih _ _ (fun hb=>?_) hj
   simp only at hb⊢
   cases hbi:Region.binds .any e
   ·rw[hbi]at hb;exact hs hb
   ·rw[hbi]at hb
    simp only[cond_true,List.mem_cons,List.mem_append]at hb⊢
    have hb:((1<<<e.on)|||(maskAt n am e.on|||s)).testBit j=true:=hb
    rw[Nat.testBit_or,Nat.testBit_or,Bool.or_eq_true,Bool.or_eq_true]at hb
    rcases hb with hb|hb|hb
    ·rw[Nat.testBit_shiftLeft]at hb
     simp only[Bool.and_eq_true,decide_eq_true_eq]at hb
     have h1:=hb.2
     rw[Nat.testBit_one_eq_true_iff_self_eq_zero]at h1
     exact .inl (by omega)
    ·exact .inr (.inl (h _ _ hb))
    ·exact .inr (.inr (hs hb))
 exact key _ 0 [] (fun h=>by simp at h) hj
theorem Z2X:∀(r:List Oper) (n:Nat) (am:List Nat) (al:List (List Nat)),al.length=n→(∀i,∀j,(maskAt n am i).testBit j=true→j∈al.getD i [])→
  ∀i,∀j,(maskAt (n+r.length) (masks r n am) i).testBit j=true→j∈(befores r al).getD i []
 |[],_,_,_,_,h=>h
 |o::r,n,am,al,hl,h=>by
  intro i j hj
  have:=Z2X r (n+1) (afterM n am o::am) (al++[after1 al o]) (by simp[hl]) (fun i j hj=>by
   unfold maskAt at hj
   cases hb:Nat.blt i (n+1)
   ·rw[hb]at hj;simp at hj
   ·rw[hb]at hj
    have hi:i<n+1:=Nat.le_of_ble_eq_true hb
    simp only[cond_true]at hj
    by_cases he:i=n
    ·subst he
     simp only[Nat.add_sub_cancel,Nat.sub_self,List.getD_cons_zero]at hj
     simp only[List.getD_eq_getElem?_getD]
     rw[List.getElem?_append_right (by omega),hl]
     simp only[Nat.sub_self,List.getElem?_cons_zero,Option.getD_some]
     exact Z3z h hj
    ·have hb2:Nat.blt i n=true:=Nat.ble_eq_true_of_le (by omega:i+1≤n)
     have e:n+1-1-i=(n-1-i)+1:=by omega
     rw[e,List.getD_cons_succ]at hj
     have:=h i j (by unfold maskAt;rw[hb2];exact hj)
     simp only[List.getD_eq_getElem?_getD]at this⊢
     rw[List.getElem?_append_left (by omega)]
     exact this) i j (by rw[show n+1+r.length=n+(o::r).length by simp;omega];exact hj)
  exact this
theorem Z1d:∀{r:List Oper} {j k:Nat} {o:Oper},edgesOk r j=true→r[k]?=some o→∀e∈o.after.toList,Region.binds .any e=true→e.on<j+k
 |[],_,_,_,_,h=>by simp at h
 |q::r,j,k,o,h,hk=>by
  simp only[edgesOk,Bool.and_eq_true,List.all_eq_true]at h
  intro e he hb
  cases k with
  |zero=>
   simp only[List.getElem?_cons_zero,Option.some.injEq]at hk
   subst hk
   have:=h.1 e he
   rw[hb]at this
   have h2:Nat.blt e.on j=true:=by simpa using this
   exact Nat.le_of_ble_eq_true h2
  |succ k=>
   have:=Z1d h.2 (by simpa using hk) e he hb
   omega
end Go.Proofs.YtnihikajdbcoaaaGreat.Vai
namespace Go.Proofs.YtnihikajdbcoaaaGreat.Vai
open Go
section
variable {P:Program} {E:Env} {base:Nat} {M:List Nat} {S0:Nat→Prop} {R0:Id→Value} {w0:World} {nt:Nat} {G:Gh} {st:St} {a:Act} {w:World}
theorem Rel.fs {st st':St} (h:Rel E base M S0 R0 w0 nt st a w) (hs:fsOf st'=fsOf st):Rel E base M S0 R0 w0 nt st' a w:=by
 obtain⟨G,h⟩:=h
 simp only[fsOf,FS.mk.injEq]at hs
 obtain⟨ht,ho⟩:=hs
 have hc:Comp (fun _=>False) E w S0 G st.ob w G st'.ob:=Comp.less fun o x hx=>⟨x,by rw[←ho];exact hx,.inl rfl⟩
 have hob:∀o x,getO st'.ob o=some x→getO st.ob o=some x:=fun o x hx=>by rw[←ho];exact hx
 refine⟨G,⟨h.kept,h.old,fun o x hx=>?_,fun o x hx=>h.tops o x (hob o x hx),fun o x o' x' hx hx'=>h.tops2 o x o' x' (hob o x hx) (hob o' x' hx'),fun o x hx=>h.ins o x (hob o x hx),fun o x o' x' hx hx'=>h.ins2 o x o' x' (hob o x hx) (hob o' x' hx'),h.F,fun t=>?_,h.defers,h.size,fun o x hp hx=>h.par o x hp (hob o x hx),h.fix.sub fun x hx=>hob _ x hx⟩⟩
 ·have:=h.objs o x (hob o x hx)
  cases x with
  |row e rows d v hh=>exact this
  |box t cs=>
   obtain⟨g,arr,et,h1,h2,h3,h4,h5,h6⟩:=this
   exact⟨g,arr,et,h1,h2,h3,h4,h5,fun i v x hv hxx=>⟨(h6 i v x hv hxx).1.map hc Zz,(h6 i v x hv hxx).2⟩⟩
  |mp kl el es=>exact this
 ·rw[ht]
  exact(h.tmps t).map hc Zz
theorem Rel.drew (h:Rel E base M S0 R0 w0 nt st a w) {n:Nat}:Rel E base M S0 R0 w0 nt st a {w with drawn:=n}:=by
 obtain⟨G,h⟩:=h
 exact⟨G,h.world (w':={w with drawn:=n}) ⟨h.kept.size,h.kept.heap,h.kept.os,h.kept.tape,h.kept.output⟩ (Nat.le_refl _) (fun _ _=>rfl) (fun _ _=>rfl) (fun _ _ _ _ _=>rfl)⟩
theorem Z1B {tm:List (Nat×AV)}:∀{l:List Operand},firmL (evs tm l)=true→∀t∈tmpsOf l,firmA (getT tm t)=true
 |[],_,t,ht=>by cases ht
 |x::l,h,t,ht=>by
  simp only[evs,firmL,Bool.and_eq_true]at h
  cases x with
  |tmp t'=>
   simp only[tmpsOf,List.mem_cons]at ht
   rcases ht with rfl|ht
   ·exact h.1
   ·exact Z1B h.2 t ht
  |_=>exact Z1B h.2 t ht
theorem Z1e {ob:List (Id×Obj)}:∀{l:List Id},firmIds l ob=true→∀i∈l,∃x,getO ob i=some x∧firmO x=true
 |[],_,i,hi=>by cases hi
 |k::l,h,i,hi=>by
  simp only[firmIds,Bool.and_eq_true]at h
  rcases List.mem_cons.mp hi with rfl|hi
  ·have h1:=h.1
   split at h1
   ·rename_i x hx;exact⟨x,hx,h1⟩
   ·cases h1
  ·exact Z1e h.2 i hi
def Ent (E:Env) (nt:Nat) (call:FuncId→List Dat→Option (List Dat)) (ops:List Oper) (j:Nat) (st:St) (o:Oper) (d:Delta) (rc:Rec):Prop:=
 inB nt o.dst=true∧RecOk rc (o.dst,d)∧rc.idx=j∧
 ((∃r ds,iop E call (lookOf st o) st.tm o=some r∧r.g=true∧r.o=some ds∧r.f ds=d∧rc.reads=tmpsOf o.op.operands.toList++guardT ops o∧rc.touch=touchOf st o∧
   (o.guard=none∨∃i want ti,o.guard=some (i,want)∧(ops[i]?).bind (·.dst)=some ti∧getT st.tm ti=.b want)∧
   (rc.firm=true→(∀t∈tmpsOf o.op.operands.toList,firmA (getT st.tm t)=true)∧∀i∈touchOf st o,∃x,getO st.ob i=some x∧firmO x=true)∧(rc.light=true→lightOp o=true))∨
   (d={v:=.tup []}∧(rc.reads=guardT ops o∧rc.touch=[])∧∃i want ti,o.guard=some (i,want)∧(ops[i]?).bind (·.dst)=some ti∧(getT st.tm ti=.b (!want)∨getT st.tm ti=.tup [])))
inductive Tr (E:Env) (nt:Nat) (call:FuncId→List Dat→Option (List Dat)) (ops:List Oper):List Oper→Nat→St→List (Option Nat×Delta)→List Rec→St→Prop
 |nil (j:Nat) (st:St):Tr E nt call ops [] j st [] [] st
 |cons (o:Oper) (rest:List Oper) (j:Nat) (st st' stf:St) (d:Delta) (rc:Rec) (L:List (Option Nat×Delta)) (rs:List Rec) (h:Ent E nt call ops j st o d rc) (hs:fsOf st'=fsOf (applyD st o.dst d))
   (ht:Tr E nt call ops rest (j+1) st' L rs stf):Tr E nt call ops (o::rest) j st ((o.dst,d)::L) (rc::rs) stf
theorem Z2Y {call:FuncId→List Dat→Option (List Dat)} {ops:List Oper} {fin:List Rec→St→Option (List Dat)} {out:List Dat}:∀{rest:List Oper} {j:Nat} {rs:List Rec} {st:St},runOps E nt call ops fin rest j rs st=some out→
  ∃L rs' stf,Tr E nt call ops rest j st L rs' stf∧fin (rs'.reverse++rs) stf=some out
 |[],j,rs,st,h=>⟨[],[],st,.nil j st,h⟩
 |o::rest,j,rs,st,h=>by
  have fin':∀{d:Delta} {rc:Rec} {st':St},Ent E nt call ops j st o d rc→fsOf st'=fsOf (applyD st o.dst d)→runOps E nt call ops fin rest (j+1) (rc::rs) st'=some out→
    ∃L rs' stf,Tr E nt call ops (o::rest) j st L rs' stf∧fin (rs'.reverse++rs) stf=some out:=fun he hs hr=>by
   obtain⟨L,rs',stf,h1,h2⟩:=Z2Y hr
   exact⟨_,_,stf,.cons _ _ _ _ _ _ _ _ _ _ he hs h1,by simpa using h2⟩
  have exec:(o.guard=none∨∃i want ti,o.guard=some (i,want)∧(ops[i]?).bind (·.dst)=some ti∧getT st.tm ti=.b want)→(let touch:=touchOf st o
   let look:Look:=fun i=>bif memId i touch then getO st.ob i else none
   match iop E call look st.tm o with
   |none=>none
   |some r=>bif inB nt o.dst&&r.g then r.o.bind fun ds=>
     let d:=r.f ds
     let st':=applyD st o.dst d
     let rc:Rec:=recOf ops j o st touch d
     bif guarded ops j then match d.v,o.dst with
      |.b t,some dt=>bif t then runOps E nt call ops fin rest (j+1) (rc::rs) {st' with tm:=putT st'.tm dt (.b true)}
        else runOps E nt call ops fin rest (j+1) (rc::rs) {st' with tm:=putT st'.tm dt (.b false)}
      |_,_=>none
     else bif idxed E ops o.dst then forkI d.v o.dst (fun dt v=>runOps E nt call ops fin rest (j+1) (rc::rs) {st' with tm:=putT st'.tm dt v})
     else runOps E nt call ops fin rest (j+1) (rc::rs) st'
    else none)=some out→∃L rs' stf,Tr E nt call ops (o::rest) j st L rs' stf∧fin (rs'.reverse++rs) stf=some out:=fun hgd hX=>by
   simp only at hX
   split at hX
   ·cases hX
   ·rename_i r hiop
    obtain⟨hg,hX2⟩:=Z0 hX
    simp only[Bool.and_eq_true]at hg
    simp only[Option.bind_eq_some_iff]at hX2
    obtain⟨ds,hds,hX3⟩:=hX2
    have he:Ent E nt call ops j st o (r.f ds) (recOf ops j o st (touchOf st o) (r.f ds)):=⟨hg.1,Z4t,rfl,.inl ⟨r,ds,hiop,hg.2,hds,rfl,rfl,rfl,hgd,fun hf=>by
     simp only[recOf,Bool.and_eq_true]at hf
     exact⟨Z1B hf.1,Z1e hf.2.1⟩,id⟩⟩
    cases hgu:guarded ops j<;>rw[hgu]at hX3
    ·simp only[cond_false]at hX3
     cases hix:idxed E ops o.dst<;>rw[hix]at hX3
     ·exact fin' he rfl hX3
     ·simp only[cond_true]at hX3
      obtain⟨dt,hdst,hrun,_⟩:=Z0D hX3
      refine fin' he ?_ hrun
      simp only[fsOf,FS.mk.injEq,and_true]
      funext t'
      rw[Zb]
      split
      ·rename_i e;subst e;rw[hdst,Z05]
      ·rfl
    ·simp only[cond_true]at hX3
     split at hX3
     ·rename_i t dt hdv hdst
      have key:∀b,b=t→fsOf {applyD st o.dst (r.f ds)with tm:=putT (applyD st o.dst (r.f ds)).tm dt (.b b)}=fsOf (applyD st o.dst (r.f ds)):=fun b hb=>by
       subst hb
       simp only[fsOf,FS.mk.injEq,and_true]
       funext t'
       rw[Zb]
       split
       ·rename_i e;subst e;rw[hdst,Z05,hdv]
       ·rfl
      cases ht:t<;>rw[ht]at hX3
      ·exact fin' he (key false ht.symm) hX3
      ·exact fin' he (key true ht.symm) hX3
     ·cases hX3
  simp only[runOps]at h
  cases hgu:o.guard with
  |none=>
   rw[hgu]at h
   exact exec (.inl hgu) h
  |some p=>
   obtain⟨i,want⟩:=p
   rw[hgu]at h
   simp only at h
   split at h
   ·cases h
   ·rename_i ti hti
    have pass:(getT st.tm ti=.b (!want)∨getT st.tm ti=.tup [])→(bif !inB nt o.dst then none else runOps E nt call ops fin rest (j+1) (⟨j,o.dst,guardT ops o,[],[],[],[],false,false,true,false,[],[]⟩::rs) (applyD st o.dst {v:=.tup []}))=some out→
      ∃L rs' stf,Tr E nt call ops (o::rest) j st L rs' stf∧fin (rs'.reverse++rs) stf=some out:=fun hv hp=>by
     cases hb:inB nt o.dst<;>rw[hb]at hp
     ·cases hp
     ·exact fin' ⟨hb,Z5E,rfl,.inr ⟨rfl,⟨rfl,rfl⟩,i,want,ti,hgu,hti,hv⟩⟩ rfl hp
    split at h
    ·rename_i x hx
     cases hxw:(x==want)with
     |true=>
      rw[hxw]at h
      have:x=want:=by simpa using hxw
      exact exec (.inr ⟨i,want,ti,hgu,hti,by rw[hx,this]⟩) h
     |false=>
      rw[hxw]at h
      have:x= !want:=by cases x<;>cases want<;>simp at hxw⊢
      exact pass (.inl (by rw[hx,this])) h
    ·rename_i hx;exact pass (.inr hx) h
    ·cases h
def Apt (sd:Id→Bool) (x y:Rec):Prop:=apart sd x y=true∧(x.nm=true→y.firm=true)∧(y.nm=true→x.firm=true)
structure Chk (sd:Id→Bool) (ops:List Oper) (L:List (Option Nat×Delta)) (rs:List Rec) (s0:FS):Prop where
 std:∀k,sd k=true→∃e n,(∃rows v h,s0.o k=some (.row e rows true v h)∧rows.length=n)∧∀p∈L,ovO p.2 k=none∨∃rows v h,ovO p.2 k=some (some (.row e rows true v h))∧rows.length=n
 rc:∀(i:Nat) p rc,L[i]?=some p→rs[i]?=some rc→RecOk rc p∧rc.bad=false∧∀k∈rc.nws,NoR k s0
 pair:∀(i j:Nat) x y,j<i→rs[i]?=some x→rs[j]?=some y→disjI x.nws (y.vids++y.writes)=true∧(j∈(befores ops []).getD i []∨Apt sd x y)
 edge:∀(i:Nat) o,ops[i]?=some o→∀e∈o.after.toList,Region.binds .any e=true→e.on<i
 len:L.length=ops.length∧rs.length=ops.length
def Closed (B:List (List Nat)) (X:Nat→Bool):Prop:=∀j,X j=true→∀i∈B.getD j [],X i=true
variable {sd:Id→Bool} {ops:List Oper} {L:List (Option Nat×Delta)} {rs:List Rec} {s0:FS}
theorem Chk.before_lt (c:Chk sd ops L rs s0):∀(n j:Nat),j<n→∀i∈(befores ops []).getD j [],i<j
 |0,_,h=>by omega
 |n+1,j,h=>by
  intro i hi
  cases ho:ops[j]? with
  |none=>
   exfalso
   have hlen:∀(r:List Oper) (acc:List (List Nat)),(befores r acc).length=acc.length+r.length:=by
    intro r
    induction r with
    |nil=>intro acc;rfl
    |cons o r ih=>intro acc;simp only[befores,ih,List.length_append,List.length_cons,List.length_nil];omega
   have:ops.length≤j:=by simpa using ho
   rw[List.getD_eq_getElem?_getD,List.getElem?_eq_none (by rw[hlen];simpa using this)]at hi
   simp at hi
  |some o=>
   have:=Z0a ops [] j o ho i (by simpa using hi)
   obtain⟨e,h1,h2,h3⟩:=this
   have hlt:=c.edge j o ho e h1 h2
   rcases h3 with rfl|h3
   ·exact hlt
   ·have:=c.before_lt n e.on (by omega) i h3
    omega
theorem Chk.closed_lt (c:Chk sd ops L rs s0) (j:Nat):Closed (befores ops []) (fun k=>decide (k<j)):=fun k hk i hi=>by
 have:=c.before_lt (k+1) k (by omega) i hi
 simp only[decide_eq_true_eq]at hk⊢
 omega
theorem Z1z {ws:List Id} {y:Rec} (h:disjW sd ws y=true):∀i∈ws,i∉y.touch∨(y.light=true∧sd i=true):=fun i hi=>by
 simp only[disjW,Bool.or_eq_true,Bool.and_eq_true,List.all_eq_true]at h
 rcases h with h|⟨h1,h2⟩
 ·exact .inl (ZL.mp h i hi)
 ·rcases h2 i hi with h|h
  ·refine .inl fun hm=>?_
   rw[ZQ.mpr hm]at h;cases h
  ·exact .inr ⟨h1,h⟩
theorem Zi {x y:Rec} (h:apart sd x y=true):(∀d,x.dst=some d→d∉y.reads∧y.dst≠some d)∧(∀d,y.dst=some d→d∉x.reads)∧(∀i∈x.writes,(i∉y.touch∨(y.light=true∧sd i=true))∧i∉y.writes)∧(∀i∈y.writes,i∉x.touch∨(x.light=true∧sd i=true))∧∀i∈y.nws,i∉x.vids:=by
 simp only[apart,Bool.and_eq_true]at h
 obtain⟨h1,h2,h3,h4,h5,h6⟩:=h
 have nb:∀{l:List Nat} {d:Nat},(!(l.any (Nat.beq d)))=true→d∉l:=fun{l d} hh hm=>by
  have:l.any (Nat.beq d)=true:=List.any_eq_true.mpr ⟨d,hm,Nat.beq_refl d⟩
  rw[this]at hh
  cases hh
 refine⟨fun d hd=>?_,fun d hd=>?_,fun i hi=>⟨Z1z h4 i hi,ZL.mp h3 i hi⟩,Z1z h5,fun i hi=>ZL.mp h6 i hi⟩
 ·rw[hd]at h1
  simp only[Bool.and_eq_true]at h1
  refine⟨nb h1.1,fun hy=>?_⟩
  have h12:=h1.2
  rw[hy]at h12
  simp only[Nat.beq_refl,Bool.not_true]at h12
  cases h12
 ·rw[hd]at h2
  exact nb h2
theorem Z1C {k:Id} {e:TypeId} {n:Nat} {X:Nat→Bool}:∀{L:List (Option Nat×Delta)} {j:Nat} {s:FS},(∃rows v h,s.o k=some (.row e rows true v h)∧rows.length=n)→(∀p∈L,ovO p.2 k=none∨∃rows v h,ovO p.2 k=some (some (.row e rows true v h))∧rows.length=n)→
  ∃rows v h,(fX X L j s).o k=some (.row e rows true v h)∧rows.length=n
 |[],_,_,h,_=>h
 |p::r,j,s,h,hp=>by
  simp only[fX]
  refine Z1C ?_ (fun q hq=>hp q (by simp[hq]))
  cases hx:X j
  ·simpa using h
  ·simp only[if_true,FS.app]
   rcases hp p (by simp)with h0|⟨rows,v,hh,h0,hl⟩
   ·rw[h0,Option.getD_none]
    obtain⟨rows,v,hh,h1,hl⟩:=h
    refine⟨rows,v,hh,?_,hl⟩
    rw[h1]
    cases p.2.nm<;>rfl
   ·rw[h0]
    exact⟨rows,v,hh,rfl,hl⟩
theorem Chk.same (c:Chk sd ops L rs s0) {k:Id} (hk:sd k=true) (X Y:Nat→Bool):SameL ((fX X L 0 s0).o k) ((fX Y L 0 s0).o k):=by
 obtain⟨e,n,h1,h2⟩:=c.std k hk
 obtain⟨rows,v,h,q1,q2⟩:=Z1C (X:=X) (j:=0) h1 h2
 obtain⟨rows',v',h',q3,q4⟩:=Z1C (X:=Y) (j:=0) h1 h2
 exact .inr ⟨e,rows,v,h,rows',v',h',q1,q3,by rw[q2,q4]⟩
section
variable {X:Nat→Bool} {i:Nat}
theorem Chk.later (c:Chk sd ops L rs s0) (hcl:Closed (befores ops []) X) (hi:X i=false) {x:Rec} (hx:rs[i]?=some x) {m:Nat} {y:Rec} (hy:rs[m]?=some y) (hm:i<m) (hX:X m=true):Apt sd y x:=by
 rcases(c.pair m i y x hm hy hx).2 with h|h
 ·have:=hcl m hX i h
  rw[hi]at this;cases this
 ·exact h
theorem Chk.earlier (c:Chk sd ops L rs s0) (hb:∀k∈(befores ops []).getD i [],X k=true) {x:Rec} (hx:rs[i]?=some x) {m:Nat} {y:Rec} (hy:rs[m]?=some y) (hm:m<i) (hX:X m=false):Apt sd x y:=by
 rcases(c.pair i m x y hm hx hy).2 with h|h
 ·have:=hb m h
  rw[hX]at this;cases this
 ·exact h
theorem Chk.recAt (c:Chk sd ops L rs s0) {m:Nat} {p:Option Nat×Delta} (hp:L[m]?=some p):∃y,rs[m]?=some y∧RecOk y p∧y.bad=false∧∀k∈y.nws,NoR k s0:=by
 have hlt:m<rs.length:=by
  have:=(List.getElem?_eq_some_iff.mp hp).1
  have:=c.len
  omega
 obtain⟨h1,h2,h3⟩:=c.rc m p rs[m] hp (List.getElem?_eq_getElem hlt)
 exact⟨rs[m],List.getElem?_eq_getElem hlt,h1,h2,h3⟩
theorem Chk.noR (c:Chk sd ops L rs s0) (hcl:Closed (befores ops []) X) (hi:X i=false) {x:Rec} {p:Option Nat×Delta} (hx:rs[i]?=some x) (hp:L[i]?=some p):∀k∈x.nws,NoR k (fX X L 0 s0):=by
 intro k hk
 obtain⟨x',hx',h1,h2,h3⟩:=c.recAt hp
 rw[hx]at hx'
 cases hx'
 refine Z4P (h3 k hk) fun m q hq hX=>?_
 have hX:X m=true:=by simpa using hX
 obtain⟨y,hy,r1,r2,r3⟩:=c.recAt hq
 have hk':k∉y.vids:=by
  rcases Nat.lt_trichotomy m i with hlt|heq|hgt
  ·intro hv
   exact ZL.mp (c.pair i m x y hlt hx hy).1 k hk (by simp[hv])
  ·subst heq;rw[hi]at hX;cases hX
  ·exact(Zi (c.later hcl hi hx hy hgt hX).1).2.2.2.2 k hk
 exact⟨fun h=>hk' (r1.v k h),fun o t cells ho h=>hk' (r1.box o t cells ho k h)⟩
theorem Chk.step (c:Chk sd ops L rs s0) (hcl:Closed (befores ops []) X) (hi:X i=false) {o:Oper} {d:Delta} (hp:L[i]?=some (o.dst,d)) {st1:St} (hs:fsOf st1=fX X L 0 s0):fsOf (applyD st1 o.dst d)=fX (addX X i) L 0 s0:=by
 obtain⟨x,hx,h1,h2,h3⟩:=c.recAt hp
 have n2:=h1.bad h2
 rw[Z4L (fun k hk=>by rw[hs];exact c.noR hcl hi hx hp k (by rw[h1.nws];exact hk)) n2,hs]
 refine(Z4K hi (by omega) hp fun m q hq hm hX=>?_).symm
 have hX:X m=true:=by simpa using hX
 obtain⟨y,hy,r1,r2,r3⟩:=c.recAt hq
 have hl:=c.later hcl hi hx hy hm hX
 have ha:=Zi hl.1
 refine⟨fun t ht hd=>?_,fun k=>?_,fun hn=>h1.firm (hl.2.1 (by rw[r1.nm];exact hn)),fun hn=>r1.firm (hl.2.2 (by rw[h1.nm];exact hn))⟩
 ·exact(ha.1 t (by rw[r1.dst];exact ht)).2 (by rw[h1.dst];exact hd)
 ·by_cases hw:k∈y.writes
  ·exact .inr (h1.wr k (ha.2.2.1 k hw).2)
  ·exact .inl (r1.wr k hw)
theorem Z5F (j:Nat):addX (fun k=>decide (k<j)) j=fun k=>decide (k<j+1):=by
 funext k
 simp only[addX]
 by_cases h:k=j
 ·subst h;simp
 ·rw[if_neg h]
  by_cases h2:k<j
  ·simp[h2];omega
  ·simp[h2];omega
end
theorem Tr.at {call:FuncId→List Dat→Option (List Dat)} (c:Chk sd ops L rs s0):∀{rest:List Oper} {j:Nat} {st stf:St} {L':List (Option Nat×Delta)} {rs':List Rec},Tr E nt call ops rest j st L' rs' stf→L.drop j=L'→rs.drop j=rs'→fsOf st=fX (fun k=>decide (k<j)) L 0 s0→
  (∀(k:Nat) o,rest[k]?=some o→∃st1 d rc,L[j+k]?=some (o.dst,d)∧rs[j+k]?=some rc∧Ent E nt call ops (j+k) st1 o d rc∧fsOf st1=fX (fun m=>decide (m<j+k)) L 0 s0)∧fsOf stf=fX (fun k=>decide (k<j+rest.length)) L 0 s0:=by
 intro rest j st stf L' rs' h
 induction h with
 |nil j st=>exact fun _ _ hs=>⟨fun k o h=>by simp at h,hs⟩
 |cons o rest j st st' stf d rc L' rs' he hst ht ih=>
  intro hL hR hs
  have hp:L[j]?=some (o.dst,d):=by
   have:(L.drop j)[0]?=some (o.dst,d):=by rw[hL];rfl
   simpa using this
  have hr:rs[j]?=some rc:=by
   have:(rs.drop j)[0]?=some rc:=by rw[hR];rfl
   simpa using this
  have hs':fsOf st'=fX (fun k=>decide (k<j+1)) L 0 s0:=by
   rw[hst,c.step (c.closed_lt j) (by simp) hp hs,Z5F]
  obtain⟨i1,i2⟩:=ih (by rw[←List.drop_drop,hL];rfl) (by rw[←List.drop_drop,hR];rfl) hs'
  refine⟨fun k q hq=>?_,by rw[i2];simp only[List.length_cons];rw[show j+1+rest.length=j+(rest.length+1)by omega]⟩
  cases k with
  |zero=>
   simp only[List.getElem?_cons_zero,Option.some.injEq]at hq
   subst hq
   exact⟨st,d,rc,hp,hr,he,hs⟩
  |succ k=>
   have:=i1 k q (by simpa using hq)
   rw[show j+1+k=j+(k+1)by omega]at this
   exact this
theorem Tr.len {call:FuncId→List Dat→Option (List Dat)} {rest:List Oper} {j:Nat} {st stf:St} (h:Tr E nt call ops rest j st L rs stf):L.length=rest.length∧rs.length=rest.length:=by
 induction h with
 |nil=>exact⟨rfl,rfl⟩
 |cons o rest j st st' stf d rc L rs he hs ht ih=>simp[ih]
theorem Tr.recs {call:FuncId→List Dat→Option (List Dat)} {rest:List Oper} {j:Nat} {st stf:St} (h:Tr E nt call ops rest j st L rs stf):∀(i:Nat) p rc,L[i]?=some p→rs[i]?=some rc→RecOk rc p∧rc.idx=j+i:=by
 induction h with
 |nil=>intro i p rc h;simp at h
 |cons o rest j st st' stf d rc L rs he hs ht ih=>
  intro i p rc' hp hr
  cases i with
  |zero=>
   simp only[List.getElem?_cons_zero,Option.some.injEq]at hp hr
   subst hp;subst hr
   exact⟨he.2.1,he.2.2.1⟩
  |succ i=>
   obtain⟨h1,h2⟩:=ih i p rc' (by simpa using hp) (by simpa using hr)
   exact⟨h1,by omega⟩
theorem Z4Q {ob:List (Id×Obj)} {o:Id} {t:TypeId} {cells:List AV} (h:getO ob o=some (.box t cells)):∀k∈idsL cells,k∈obIds ob:=by
 induction ob with
 |nil=>simp[getO]at h
 |cons p ob ih=>
  obtain⟨k0,x⟩:=p
  intro k hk
  simp only[getO]at h
  cases he:idEq k0 o<;>rw[he]at h
  ·have:=ih h k hk
   cases x<;>simp[obIds,this]
  ·cases h;simp[obIds,hk]
theorem Z5G {tm:List (Nat×AV)} {t:Nat}:∀k∈idsA (getT tm t),k∈idsL (avsOf tm):=by
 induction tm with
 |nil=>intro k hk;simp[getT,idsA]at hk
 |cons p tm ih=>
  obtain⟨t0,v⟩:=p
  intro k hk
  simp only[getT]at hk
  simp only[avsOf,idsL,List.mem_append]
  cases hb:Nat.beq t0 t<;>rw[hb]at hk
  ·exact .inr (ih k hk)
  ·exact .inl hk
theorem Z2Z {n:Nat} {bs:List Nat}:∀{l:List Rec},indepAll sd n bs l=true→∀(i j:Nat) x y,i<j→l[i]?=some x→l[j]?=some y→disjI x.nws (y.vids++y.writes)=true∧((maskAt n bs x.idx).testBit y.idx=true∨Apt sd x y)
 |[],_,_,_,_,_,_,h,_=>by simp at h
 |z::r,h,i,j,x,y,hij,hx,hy=>by
  simp only[indepAll,Bool.and_eq_true,List.all_eq_true]at h
  cases i with
  |zero=>
   simp only[List.getElem?_cons_zero,Option.some.injEq]at hx
   subst hx
   obtain⟨j',rfl⟩:∃j',j=j'+1:=⟨j-1,by omega⟩
   have hm:y∈r:=List.mem_of_getElem? (by simpa using hy)
   obtain⟨h1,h2⟩:=h.1 y hm
   refine⟨h1,?_⟩
   simp only[Bool.or_eq_true,Bool.and_eq_true,Bool.not_eq_true']at h2
   refine h2.imp id fun⟨q1,q2,q3⟩=>⟨q1,fun hn=>?_,fun hn=>?_⟩
   ·rcases q2 with q2|q2
    ·rw[hn]at q2;cases q2
    ·exact q2
   ·rcases q3 with q3|q3
    ·rw[hn]at q3;cases q3
    ·exact q3
  |succ i=>
   obtain⟨j',rfl⟩:∃j',j=j'+1:=⟨j-1,by omega⟩
   exact Z2Z h.2 i j' x y (by omega) (by simpa using hx) (by simpa using hy)
theorem Tr.chk {call:FuncId→List Dat→Option (List Dat)} {st stf:St} (h:Tr E nt call ops ops 0 st L rs stf) (ho:orderOk ops st rs.reverse=true):Chk (steady st rs.reverse) ops L rs (fsOf st) where
 std:=fun k hk=>by
  unfold steady at hk
  split at hk
  ·rename_i e rows v hh hg
   refine⟨e,rows.length,⟨rows,v,hh,hg,rfl⟩,fun p hp=>?_⟩
   obtain⟨i,hi⟩:=List.getElem?_of_mem hp
   have hlt:i<rs.length:=by
    have:=(List.getElem?_eq_some_iff.mp hi).1
    have:=h.len
    omega
   obtain⟨r1,_⟩:=h.recs i p rs[i] hi (List.getElem?_eq_getElem hlt)
   have:=List.all_eq_true.mp hk rs[i] (by simp)
   simp only[Bool.and_eq_true,Bool.not_eq_true']at this
   obtain⟨a1,a2⟩:=this
   rw[r1.heavy k (fun hm=>by rw[ZQ.mpr hm]at a1;cases a1)]
   cases hl:lastO rs[i].ups k with
   |none=>exact .inl rfl
   |some x=>
    rw[hl]at a2
    cases x with
    |box t cs=>cases a2
    |mp kl el es=>cases a2
    |row e' rows' dp v' h'=>
     cases dp with
     |false=>cases a2
     |true=>
      simp only[sameLen,Bool.and_eq_true]at a2
      have:=Z3 a2.1
      subst this
      exact .inr ⟨rows',v',h',rfl,Z3 a2.2⟩
  ·cases hk
 rc:=fun i p rc hp hr=>by
  simp only[orderOk,Bool.and_eq_true,List.all_eq_true]at ho
  have hm:rc∈rs.reverse:=by simp[List.mem_of_getElem? hr]
  obtain⟨h1,h2⟩:=ho.2.1 rc hm
  refine⟨(h.recs i p rc hp hr).1,by simpa using h1,fun k hk=>?_⟩
  have:=ZL.mp h2 k hk
  simp only[List.mem_append,not_or]at this
  exact⟨fun t ht=>this.1 (Z5G k ht),fun o t cells hc hh=>this.2.1 (Z4Q hc k hh)⟩
 pair:=fun i j x y hij hx hy=>by
  simp only[orderOk,Bool.and_eq_true]at ho
  have hli:=(List.getElem?_eq_some_iff.mp hx).1
  have hlj:=(List.getElem?_eq_some_iff.mp hy).1
  have:=Z2Z ho.2.2 (rs.length-1-i) (rs.length-1-j) x y (by omega) (by rw[List.getElem?_reverse (by omega)];rw[show rs.length-1-(rs.length-1-i)=i by omega];exact hx) (by rw[List.getElem?_reverse (by omega)];rw[show rs.length-1-(rs.length-1-j)=j by omega];exact hy)
  have hL:=h.len
  have e1:=(h.recs i L[i] x (List.getElem?_eq_getElem (by omega)) hx).2
  have e2:=(h.recs j L[j] y (List.getElem?_eq_getElem (by omega)) hy).2
  rw[e1,e2]at this
  refine⟨this.1,this.2.imp (fun hb=>?_) id⟩
  have:=Z2X ops 0 [] [] rfl (fun i j hj=>by simp[maskAt]at hj) (0+i) (0+j) (by simpa using hb)
  simpa using this
 edge:=fun i o ho' e he hb=>by
  simp only[orderOk,Bool.and_eq_true]at ho
  have:=Z1d ho.1 ho' e he hb
  omega
 len:=h.len
end
end Go.Proofs.YtnihikajdbcoaaaGreat.Vai
namespace Go.Proofs.YtnihikajdbcoaaaGreat.Vai
open Go
section
variable {P:Program} {E:Env} {base:Nat} {M:List Nat} {S0:Nat→Prop} {R0:Id→Value} {w0:World} {nt:Nat}
variable {L:List (Option Nat×Delta)} {rs:List Rec} {s0:FS}
theorem Z5P (hE:EnvOk P E) (hnt:nt≤1000000) {call:FuncId→List Dat→Option (List Dat)} (hC:CallR P E base M S0 R0 w0 nt call) {ops:Array Oper} {st stf:St} {Q:Exit→Act→World→Prop}
  (hT:Tr E nt call ops.toList ops.toList 0 st L rs stf) {sd:Id→Bool} (c:Chk sd ops.toList L rs (fsOf st)) (hQ:∀a w,Rel E base M S0 R0 w0 nt stf a w→Q .normal a w):
  ∀(fuel:Nat) (listed:Array Bool) (st1:St) (a:Act) (w:World),listed.size=ops.size→listed.toList.count false≤fuel→Closed (befores ops.toList []) (fun k=>listed.getD k false)→fsOf st1=fX (fun k=>listed.getD k false) L 0 (fsOf st)→
   Rel E base M S0 R0 w0 nt st1 a w→wpAny P .any ops Q fuel listed a w:=by
 have hops:∀i:Nat,ops.toList[i]?=ops[i]?:=fun i=>by simp
 obtain⟨hA,hZ⟩:=hT.at c rfl rfl (by simp only[Nat.not_lt_zero,decide_false];exact(Z2H _ _ _).symm)
 have hall:∀(listed:Array Bool),listed.size=ops.size→Region.ready .any ops listed=[]→∀k,k<ops.size→listed.getD k false=true:=by
  intro listed hsz hr k
  induction k using Nat.strongRecOn with
  |ind k ih=>
   intro hk
   cases hl:listed.getD k false with
   |true=>rfl
   |false=>
    exfalso
    have hmem:k∈Region.ready .any ops listed:=by
     unfold Region.ready
     simp only[List.mem_filter,List.mem_range,Bool.and_eq_true,Bool.not_eq_true']
     refine⟨hk,?_,?_⟩
     ·rw[Array.getD_eq_getD_getElem?]at hl⊢
      rw[Array.getElem?_eq_getElem (by omega)]at hl⊢
      exact hl
     ·rw[Array.getElem?_eq_getElem hk]
      simp only[Option.map_some,Option.getD_some,Array.all_eq_true']
      intro e he
      cases hb:Region.binds .any e with
      |false=>simp
      |true=>
       simp only[Bool.not_true,Bool.false_or]
       have hlt:=c.edge k ops[k] (by simp[hk]) e (by simpa using he) hb
       exact ih e.on hlt (by omega)
    rw[hr]at hmem
    cases hmem
 have hend:∀(listed:Array Bool) (st1:St) (a:Act) (w:World),listed.size=ops.size→fsOf st1=fX (fun k=>listed.getD k false) L 0 (fsOf st)→Rel E base M S0 R0 w0 nt st1 a w→Region.ready .any ops listed=[]→Q .normal a w:=by
  intro listed st1 a w hsz hs h hr
  have ha:=hall listed hsz hr
  refine hQ a w (h.fs ?_)
  rw[hZ,hs]
  have hlen:L.length=ops.size:=by rw[c.len.1];simp
  refine Z3j fun k hk=>?_
  have:k<ops.size:=by omega
  rw[Nat.zero_add,ha k this]
  simpa using this
 intro fuel
 induction fuel with
 |zero=>
  intro listed st1 a w hsz hc hcl hs h
  have hr:Region.ready .any ops listed=[]:=by
   unfold Region.ready
   rw[List.filter_eq_nil_iff]
   intro k hk
   have hk:=List.mem_range.mp hk
   have h0:listed.toList.count false=0:=by omega
   have hne:=List.count_eq_zero.mp h0
   have hkl:k<listed.size:=by omega
   have:listed[k]=true:=by
    cases hb:listed[k]with
    |true=>rfl
    |false=>exact absurd (by rw[←hb];simp) hne
   rw[Array.getD_eq_getD_getElem?,Array.getElem?_eq_getElem hkl,this]
   simp
  exact⟨hr,hend listed st1 a w hsz hs h hr⟩
 |succ fuel ihf=>
  intro listed st1 a w hsz hc hcl hs h
  refine⟨hend listed st1 a w hsz hs h,fun i hi=>?_⟩
  unfold Region.ready at hi
  simp only[List.mem_filter,List.mem_range,Bool.and_eq_true,Bool.not_eq_true']at hi
  obtain⟨hin,hi1,hi2⟩:=hi
  have hX:listed.getD i false=false:=by
   rw[Array.getD_eq_getD_getElem?,Array.getElem?_eq_getElem (by omega)]at hi1⊢
   exact hi1
  have ho:ops[i]?=some ops[i]:=Array.getElem?_eq_getElem hin
  rw[ho]at hi2
  simp only[Option.map_some,Option.getD_some,Array.all_eq_true']at hi2
  generalize hoe:ops[i]=o at ho hi2
  have hedge:∀e∈o.after.toList,Region.binds .any e=true→listed.getD e.on false=true:=fun e he hb=>by
   have:=hi2 e (by simpa using he)
   rw[hb]at this
   simpa using this
  have hbef:∀k∈(befores ops.toList []).getD i [],listed.getD k false=true:=fun k hk=>by
   obtain⟨e,h1,h2,h3⟩:=Z0a ops.toList [] i o (by rw[hops];exact ho) k (by simpa using hk)
   rcases h3 with rfl|h3
   ·exact hedge e h1 h2
   ·exact hcl e.on (hedge e h1 h2) k h3
  obtain⟨sti,d,rc,p1,p2,⟨e1,e2,e3,e4⟩,p4⟩:=hA i o (by rw[hops];exact ho)
  rw[Nat.zero_add]at p1 p2 p4
  have agN:rc.firm=false→∀m q,L[m]?=some q→listed.getD (0+m) false≠decide (0+m<i)→q.2.nm=false:=fun hf m q hq hne=>by
   rw[Nat.zero_add]at hne
   obtain⟨y,hy,r1,r2,r3⟩:=c.recAt hq
   rw[←r1.nm]
   rcases Nat.lt_trichotomy m i with hlt|heq|hgt
   ·have hXm:listed.getD m false=false:=by
     cases hb:listed.getD m false with
     |false=>rfl
     |true=>rw[hb]at hne;simp[hlt]at hne
    have:=(c.earlier (X:=fun k=>listed.getD k false) hbef p2 hy hlt hXm).2.2
    cases hb:y.nm with
    |false=>rfl
    |true=>rw[hf]at this;cases this hb
   ·subst heq;rw[hX]at hne;simp at hne
   ·have hXm:listed.getD m false=true:=by
     cases hb:listed.getD m false with
     |true=>rfl
     |false=>rw[hb]at hne;simp at hne;omega
    have:=(c.later hcl hX p2 hy hgt hXm).2.1
    cases hb:y.nm with
    |false=>rfl
    |true=>rw[hf]at this;cases this hb
  have firmT:rc.firm=true→∀t∈rc.reads,firmA (getT sti.tm t)=true:=fun hf t ht=>by
   have gd:∀ti (v:AV),guardT ops.toList o=[ti]→getT sti.tm ti=v→firmA v=true→t∈guardT ops.toList o→firmA (getT sti.tm t)=true:=fun ti v hg hv hfv hm=>by
    rw[hg]at hm
    simp only[List.mem_singleton]at hm
    rw[hm,hv];exact hfv
   rcases e4 with ⟨r,ds,q1,q2,q3,q4,q5,q6,q7,q8,qL⟩|⟨q1,⟨q2,q2t⟩,gi,want,ti,q3,q4,q5⟩
   ·rw[q5]at ht
    rcases List.mem_append.mp ht with ht|ht
    ·exact(q8 hf).1 t ht
    ·rcases q7 with q7|⟨gi,want,ti,g1,g2,g3⟩
     ·simp only[guardT,q7]at ht;cases ht
     ·exact gd ti _ (by simp only[guardT,g1,g2];rfl) g3 rfl ht
   ·rw[q2]at ht
    rcases q5 with q5|q5
    ·exact gd ti _ (by simp only[guardT,q3,q4];rfl) q5 rfl ht
    ·exact gd ti _ (by simp only[guardT,q3,q4];rfl) q5 rfl ht
  have agT:∀t∈rc.reads,getT st1.tm t=getT sti.tm t:=fun t ht=>by
   have:(fsOf st1).t t=(fsOf sti).t t:=by
    have key:∀m q,L[m]?=some q→listed.getD (0+m) false≠decide (0+m<i)→q.1≠some t:=?_
    ·rw[hs,p4]
     cases hf:rc.firm with
     |false=>exact Z5N (fun m q hq hne=>⟨key m q hq hne,agN hf m q hq hne⟩) rfl
     |true=>
      have h1:=Z52 (t:=t) (X:=fun k=>listed.getD k false) (Y:=fun m=>decide (m<i)) (L:=L) (j:=0) (s:=fsOf st) (s':=fsOf st) key rfl
      have h2:=firmT hf t ht
      have e:getT sti.tm t=(fX (fun m=>decide (m<i)) L 0 (fsOf st)).t t:=by rw[←p4];rfl
      rw[e]at h2
      exact Z5D h2 h1
    intro m q hq hne
    rw[Nat.zero_add]at hne
    obtain⟨y,hy,r1,r2,r3⟩:=c.recAt hq
    rcases Nat.lt_trichotomy m i with hlt|heq|hgt
    ·have hXm:listed.getD m false=false:=by
      cases hb:listed.getD m false with
      |false=>rfl
      |true=>rw[hb]at hne;simp[hlt]at hne
     have:=(Zi (c.earlier (X:=fun k=>listed.getD k false) hbef p2 hy hlt hXm).1).2.1
     rw[←r1.dst]
     exact fun hd=>this t hd ht
    ·subst heq;rw[hX]at hne;simp at hne
    ·have hXm:listed.getD m false=true:=by
      cases hb:listed.getD m false with
      |true=>rfl
      |false=>rw[hb]at hne;simp at hne;omega
     have:=(Zi (c.later hcl hX p2 hy hgt hXm).1).1
     rw[←r1.dst]
     exact fun hd=>(this t hd).1 ht
   exact this
  have agL:∀k,sd k=true→SameL (getO st1.ob k) (getO sti.ob k):=fun k hk=>by
   have:=c.same hk (fun k=>listed.getD k false) (fun m=>decide (m<i))
   rw[←hs,←p4]at this
   exact this
  have agO:∀k∈rc.touch,¬(rc.light=true∧sd k=true)→getO st1.ob k=getO sti.ob k:=fun k hk hnl=>by
   have firmK:rc.firm=true→∃x,getO sti.ob k=some x∧firmO x=true:=fun hf=>by
    rcases e4 with ⟨r,ds,q1,q2,q3,q4,q5,q6,q7,q8,qL⟩|⟨q1,⟨q2,q2t⟩,gi,want,ti,q3,q4,q5⟩
    ·exact(q8 hf).2 k (by rw[←q6];exact hk)
    ·rw[q2t]at hk;cases hk
   have:(fsOf st1).o k=(fsOf sti).o k:=by
    have key:∀m q,L[m]?=some q→listed.getD (0+m) false≠decide (0+m<i)→ovO q.2 k=none:=?_
    ·rw[hs,p4]
     cases hf:rc.firm with
     |false=>exact Z5O (fun m q hq hne=>⟨key m q hq hne,agN hf m q hq hne⟩) rfl
     |true=>
      have h1:=Z53 (i:=k) (X:=fun k=>listed.getD k false) (Y:=fun m=>decide (m<i)) (L:=L) (j:=0) (s:=fsOf st) (s':=fsOf st) key rfl
      obtain⟨x,hx,h2⟩:=firmK hf
      have e:getO sti.ob k=(fX (fun m=>decide (m<i)) L 0 (fsOf st)).o k:=by rw[←p4];rfl
      rw[e]at hx
      rw[hx]at h1⊢
      exact Z4r h2 h1
    intro m q hq hne
    rw[Nat.zero_add]at hne
    obtain⟨y,hy,r1,r2,r3⟩:=c.recAt hq
    refine r1.wr k fun hw=>?_
    rcases Nat.lt_trichotomy m i with hlt|heq|hgt
    ·have hXm:listed.getD m false=false:=by
      cases hb:listed.getD m false with
      |false=>rfl
      |true=>rw[hb]at hne;simp[hlt]at hne
     rcases(Zi (c.earlier (X:=fun k=>listed.getD k false) hbef p2 hy hlt hXm).1).2.2.2.1 k hw with q|q
     ·exact q hk
     ·exact hnl q
    ·subst heq;rw[hX]at hne;simp at hne
    ·have hXm:listed.getD m false=true:=by
      cases hb:listed.getD m false with
      |true=>rfl
      |false=>rw[hb]at hne;simp at hne;omega
     rcases((Zi (c.later hcl hX p2 hy hgt hXm).1).2.2.1 k hw).1 with q|q
     ·exact q hk
     ·exact hnl q
   exact this
  have hset:(fun k=>(listed.setIfInBounds i true).getD k false)=addX (fun k=>listed.getD k false) i:=funext fun k=>by
   simp only[addX,Array.getD_eq_getD_getElem?,Array.getElem?_setIfInBounds]
   by_cases hk:k=i
   ·subst hk;simp[hsz,hin]
   ·rw[if_neg (fun e=>hk e.symm),if_neg hk]
  have hcl':Closed (befores ops.toList []) (fun k=>(listed.setIfInBounds i true).getD k false):=by
   rw[hset]
   intro j hj k hk
   simp only[addX]at hj⊢
   split
   ·rfl
   ·by_cases hji:j=i
    ·subst hji;exact hbef k hk
    ·rw[if_neg hji]at hj
     exact hcl j hj k hk
  have hcnt:(listed.setIfInBounds i true).toList.count false≤fuel:=by
   have hli:i<listed.toList.length:=by simp[hsz,hin]
   rw[Array.toList_setIfInBounds,List.count_set hli]
   have:listed.toList[i]=false:=by
    rw[Array.getD_eq_getD_getElem?,Array.getElem?_eq_getElem (by omega)]at hX
    simpa using hX
   rw[this,if_pos (by rfl),if_neg (by decide)]
   omega
  have next:∀(a':Act) (w':World),Rel E base M S0 R0 w0 nt (applyD st1 o.dst d) a' w'→wpAny P .any ops Q fuel (listed.setIfInBounds i true) a' w':=fun a' w' h'=>
   ihf _ _ a' w' (by simp[hsz]) hcnt hcl' (by rw[hset];exact c.step hcl hX p1 hs) h'
  obtain⟨G,hG⟩:=h
  unfold wpOp
  rw[ho]
  simp only
  rcases e4 with ⟨r,ds,q1,q2,q3,q4,q5,q6,q7,-,qL⟩|⟨q1,⟨q2,q2t⟩,gi,want,ti,q3,q4,q5⟩
  ·have hw:Region.wanted o (yielded ops a.tmps)=true:=by
    rcases q7 with q7|⟨gi,want,ti,g1,g2,g3⟩
    ·simp only[Region.wanted,q7]
    ·have hti:ti∈rc.reads:=by
      have hg:guardT ops.toList o=[ti]:=by simp only[guardT,g1,g2];rfl
      rw[q5,hg];simp
     have:=Z17 hG (ops:=ops) (i:=gi) (ti:=ti) (by rw[←hops];exact g2) (x:=want) (by rw[agT ti hti];exact g3)
     simp only[Region.wanted,g1,this];simp
   rw[if_pos hw]
   refine .inl ?_
   have hio:iop E call (lookOf st1 o) st1.tm o=some r:=by
    have e:iop E call (lookOf st1 o) st1.tm o=iop E call (lookOf sti o) sti.tm o:=by
     cases hli:rc.light with
     |false=>exact Z4N (st:=sti) (fun t ht=>agT t (by rw[q5];simp[ht])) (fun k hk=>agO k (by rw[q6];exact hk) (fun hh=>by rw[hli]at hh;cases hh.1))
     |true=>
      refine Z4O (st:=sti) (qL hli) (fun t ht=>agT t (by rw[q5];simp[ht])) fun k hk=>?_
      by_cases hsd:sd k=true
      ·exact agL k hsd
      ·exact .inl (agO k (by rw[q6];exact hk) fun hh=>hsd hh.2)
    rw[e]
    exact q1
   have:=Z4H hE hnt hC hG (Z30 _ _) e1 hio q2 q3 (Q:=Q)
   rw[q4]at this
   exact Oper.wp_mono next this
  ·have hti:ti∈rc.reads:=by
    have hg:guardT ops.toList o=[ti]:=by simp only[guardT,q3,q4];rfl
    rw[q2,hg];simp
   have hw:¬Region.wanted o (yielded ops a.tmps)=true:=by
    rcases q5 with q5|q5
    ·have:=Z17 hG (ops:=ops) (i:=gi) (ti:=ti) (by rw[←hops];exact q4) (x:= !want) (by rw[agT ti hti];exact q5)
     simp only[Region.wanted,q3,this]
     cases want<;>decide
    ·have:=Z18 hG (ops:=ops) (i:=gi) (ti:=ti) (by rw[←hops];exact q4) (by rw[agT ti hti];exact q5)
     simp only[Region.wanted,q3,this];simp
   rw[if_neg hw]
   subst q1
   exact next _ _ ⟨G,hG.done_pure e1 Z4I⟩
theorem Z5H (hE:EnvOk P E) (hnt:nt≤1000000) {call:FuncId→List Dat→Option (List Dat)} (hC:CallR P E base M S0 R0 w0 nt call) {id:Nat} {ops:Array Oper} {st:St} {a:Act} {w:World} {out:List Dat} {K:St→Option (List Dat)} {Q:Exit→Act→World→Prop}
  (h:Rel E base M S0 R0 w0 nt st a w) (hQ:∀st' a' w',Rel E base M S0 R0 w0 nt st' a' w'→K st'=some out→Q .normal a' w')
  (hr:runOps E nt call ops.toList (fun rs st'=>bif orderOk ops.toList st rs then K st' else none) ops.toList 0 [] st=some out):(Code.region id ops true).wp P Q a w:=by
 obtain⟨L,rs,stf,hT,hf⟩:=Z2Y hr
 rw[List.append_nil]at hf
 obtain⟨hok,hk⟩:=Z0 hf
 have hc:=hT.chk hok
 refine wp_region_any hE.mixed (Z5P hE hnt hC hT hc (fun a' w' h'=>hQ stf a' w' h' hk) ops.size _ st a _ (by simp) ?_ ?_ ?_ h.drew)
 ·exact Nat.le_trans List.count_le_length (by simp)
 ·intro j hj
  simp only at hj
  rw[Array.getD_eq_getD_getElem?,Array.getElem?_replicate]at hj
  split at hj<;>simp at hj
 ·have:(fun k=>(Array.replicate ops.size false).getD k false)=fun _=>false:=funext fun k=>by
   rw[Array.getD_eq_getD_getElem?,Array.getElem?_replicate]
   split<;>rfl
  rw[this]
  exact(Z2H _ _ _).symm
end
end Go.Proofs.YtnihikajdbcoaaaGreat.Vai
namespace Go.Proofs.YtnihikajdbcoaaaGreat.Vai
open Go
section
variable {P:Program} {E:Env} {base:Nat} {M:List Nat} {S0:Nat→Prop} {R0:Id→Value} {w0:World} {nt:Nat} {G:Gh} {st:St} {a:Act} {w:World} {look:Look}
theorem Z5Q {α:Type} (x:Sem α):x.bind Sem.pure=x:=by
 induction x<;>simp only[Sem.bind]<;>first|rfl|(congr 1;done)|skip
 all_goals (congr 1;funext y;first|(simp_all;done)|(cases y<;>simp_all))
theorem Z4R {α β γ:Type} (x:Sem α) (f:α→Sem β) (g:β→Sem γ):(x.bind f).bind g=x.bind fun y=>(f y).bind g:=by
 induction x<;>simp only[Sem.bind]<;>first|rfl|(congr 1;done)|skip
 all_goals (congr 1;funext y;first|(simp_all;done)|(cases y<;>simp_all))
theorem Z40:LawfulMonad Sem:=LawfulMonad.mk' Sem (id_map:=fun x=>Z5Q x) (pure_bind:=fun _ _=>rfl) (bind_assoc:=fun x f g=>Z4R x f g)
theorem Z4u {α:Type} {as:Array α} {f:α→Sem Value} {us:List Value} (hl:us.length=as.size) (h:∀(i:Nat) (x:α) (u:Value),as.toList[i]?=some x→us[i]?=some u→(f x).run P w=.ok u w):(as.mapM f).run P w=.ok us.toArray w:=by
 haveI:=Z40
 rw[Array.mapM_eq_foldlM,←Array.foldlM_toList]
 have key:∀(l:List α) (us:List Value) (acc:Array Value),us.length=l.length→(∀(i:Nat) (x:α) (u:Value),l[i]?=some x→us[i]?=some u→(f x).run P w=.ok u w)→
   (l.foldlM (fun bs a=>bs.push<$>f a) acc).run P w=.ok (acc++us.toArray) w:=by
  intro l
  induction l with
  |nil=>
   intro us acc hl _
   have:us=[]:=List.length_eq_zero_iff.mp hl
   subst this
   simp
  |cons x l ih=>
   intro us acc hl h
   match us,hl with
   |u::us,hl=>
    simp only[List.foldlM_cons,Sem.run_bind,Sem.run_map,h 0 x u rfl rfl,Result.andThen_ok]
    rw[ih us (acc.push u) (by simpa using hl) (fun i x u hx hu=>h (i+1) x u (by simpa using hx) (by simpa using hu))]
    congr 1
    simp
 simpa using key as.toList us #[] (by simpa using hl) h
def resSem (tmps:Array Value):ResultVar→Sem Value
 |.tmp t=>pure (tmps.getD t undef)
 |.cell c t=>do loadVar t (←asAddr (tmps.getD c undef))
theorem Z2a (hE:EnvOk P E) (h:RelG E base M S0 R0 w0 nt G st a w):∀(rs:List ResultVar) (vs:List AV),resVal E st rs=some vs→∃us:List Value,us.length=rs.length∧vs.length=rs.length∧
  (∀(i:Nat) (r:ResultVar) (u:Value),rs[i]?=some r→us[i]?=some u→(resSem a.tmps r).run P w=.ok u w)∧
  ∀(i:Nat) (x:AV) (u:Value),vs[i]?=some x→us[i]?=some u→VR E w S0 G st.ob x u
 |[],vs,hr=>by
  simp only[resVal,Option.some.injEq]at hr
  subst hr
  exact⟨[],rfl,rfl,(fun i r u hi=>by simp at hi),(fun i x u hi=>by simp at hi)⟩
 |r::rs,vs,hr=>by
  have key:∀(x:AV) (u:Value),(resVal E st rs).map (x:: ·)=some vs→(resSem a.tmps r).run P w=.ok u w→VR E w S0 G st.ob x u→∃us:List Value,us.length=(r::rs).length∧vs.length=(r::rs).length∧
  (∀(i:Nat) (r':ResultVar) (u:Value),(r::rs)[i]?=some r'→us[i]?=some u→(resSem a.tmps r').run P w=.ok u w)∧
  ∀(i:Nat) (x:AV) (u:Value),vs[i]?=some x→us[i]?=some u→VR E w S0 G st.ob x u:=fun x u hm h1 h2=>by
   obtain⟨vs',hv,rfl⟩:=Option.map_eq_some_iff.mp hm
   obtain⟨us,i1,i2,i3,i4⟩:=Z2a hE h rs vs' hv
   refine⟨u::us,by simp[i1],by simp[i2],fun i r' u' hr' hu'=>?_,fun i x' u' hx' hu'=>?_⟩
   ·cases i with
    |zero=>
     simp only[List.getElem?_cons_zero,Option.some.injEq]at hr' hu'
     subst hr';subst hu'
     exact h1
    |succ i=>exact i3 i r' u' (by simpa using hr') (by simpa using hu')
   ·cases i with
    |zero=>
     simp only[List.getElem?_cons_zero,Option.some.injEq]at hx' hu'
     subst hx';subst hu'
     exact h2
    |succ i=>exact i4 i x' u' (by simpa using hx') (by simpa using hu')
  cases r with
  |tmp t=>exact key _ _ hr rfl (h.tmps t)
  |cell c ty=>
   simp only[resVal]at hr
   split at hr
   ·rename_i ti o row ht hx
    split at hr
    ·rename_i bt cs hob
     cases hl:Nat.beq cs.length ti.ls.length<;>rw[hl]at hr
     ·cases hr
     ·simp only[cond_true]at hr
      have hl:=Z3 hl
      have hv:=h.tmps c
      rw[hx]at hv
      generalize hval:a.tmps.getD c undef=v at hv
      cases hv with
      |ptr _ _ _ _ hp _=>
       obtain⟨h0,g,hg,rfl⟩:=hp.1 _ _ hob
       obtain⟨g',arr,et,b1,b2,b3,b4,b5,b6⟩:=(h.objs o _ hob:BoxR E w S0 G st.ob cs _ _ _)
       rw[hg]at b1
       simp only[Value.pointer.injEq,Option.some.injEq,Addr.mk.injEq,and_true]at b1
       subst b1
       have hT:=hE.T ty ti ht
       have hcell:∀i,i<ti.ls.length→w.cell? ⟨g,0+i,none⟩=some (arr.getD i undef):=fun i hi=>by
        simp only[World.cell?,b4]
        have:i<arr.size:=by omega
        simp[Array.getD,this]
       refine key _ _ hr ?_ (VR.pack hT cs (fun i=>arr.getD i undef) hl fun i y hy=>?_)
       ·simp only[resSem,hval,asAddr,Sem.run_bind,Sem.run_pure,Result.andThen_ok]
        exact Zf hT g 0 (fun i=>arr.getD i undef) hcell
       ·have hi:i<arr.size:=by have:=(List.getElem?_eq_some_iff.mp hy).1;omega
        exact b6 i y _ hy (by simp[Array.getD,hi])
    ·cases hr
   ·cases hr
theorem Zw (hE:EnvOk P E) (h:RelG E base M S0 R0 w0 nt G st a w) {fn:Func} {vs:List AV} (hr:resVal E st fn.results.toList=some vs):∃us:List Value,us.length=vs.length∧(results fn a.tmps).run P w=.ok (oneOrV us) w∧
  ∀(i:Nat) (x:AV) (u:Value),vs[i]?=some x→us[i]?=some u→VR E w S0 G st.ob x u:=by
 obtain⟨us,h1,h2,h3,h4⟩:=Z2a hE h _ _ hr
 refine⟨us,by omega,?_,h4⟩
 have hm:=Z4u (P:=P) (w:=w) (as:=fn.results) (f:=resSem a.tmps) (us:=us) (by simpa using h1) h3
 have hres:results fn a.tmps=(do
   let vs←fn.results.mapM (resSem a.tmps)
   pure (if h:vs.size=1 then vs[0]else .tuple vs)):=by
  unfold results
  congr 2
 rw[hres,Sem.run_bind,hm]
 simp only[Result.andThen_ok,Sem.run_pure,List.size_toArray]
 match us with
 |[]=>rfl
 |[v]=>rfl
 |v::v2::us=>simp[oneOrV]
theorem Z01 {ob:List (Id×Obj)}:∀{rs:List TI} {xs:List AV} {vs:List Value},xs.length=vs.length→(∀(i:Nat) (x:AV) (v:Value),xs[i]?=some x→vs[i]?=some v→VR E w S0 G ob x v)→argsFit rs xs=true→allSolid xs=true→
  ∃cells,PackR rs vs cells∧CellsR E w S0 G ob (flats xs) cells
 |[],[],[],_,_,_,_=>⟨[],.nil,rfl,fun i v x hv=>by simp[flats]at hv⟩
 |[],_::_,_,_,_,hf,_=>by cases hf
 |_::_,[],_,_,_,hf,_=>by cases hf
 |_,[],_::_,hl,_,_,_=>by simp at hl
 |_,_::_,[],hl,_,_,_=>by simp at hl
 |ti::rs,x::xs,v::vs,hl,hv,hf,hs=>by
  simp only[argsFit,Bool.and_eq_true]at hf
  simp only[allSolid,Bool.and_eq_true]at hs
  obtain⟨cells,i1,i2⟩:=Z01 (rs:=rs) (xs:=xs) (vs:=vs) (by simpa using hl) (fun i x v hx hv'=>hv (i+1) x v (by simpa using hx) (by simpa using hv')) hf.2 hs.2
  have hvx:=hv 0 x v rfl rfl
  have hfl:=hvx.flatR hs.1
  have hpk:Packed ti.agg v v.cells.toList∧(flat x).length=ti.ls.length:=by
   cases hag:ti.agg with
   |true=>
    have hf1:=hf.1
    cases x<;>simp only[argFit,hag,Bool.not_true,Bool.false_and,Bool.true_and,Bool.false_eq_true]at hf1
    rename_i cs
    have hf1:=Z3 hf1
    cases hvx with
    |agg _ arr hl' h' h1'=>
     refine⟨⟨fun u hu=>?_,by simp[Value.cells]⟩,by simpa[flat]using hf1⟩
     obtain⟨i,hi⟩:=List.getElem?_of_mem hu
     exact h1' i u (by simpa[Value.cells]using hi)
   |false=>
    have hf1:=hf.1
    have hf1':ti.ls.length=1:=by
     cases x<;>simp only[argFit,hag,Bool.not_false,Bool.true_and,Bool.false_and,Bool.false_eq_true]at hf1<;>exact(Z3 hf1).symm
    have hone:oneV v:=hvx.one_of (fun cs e=>by subst e;simp[argFit,hag]at hf1) (fun ws e=>by subst e;cases hs.1) (fun e=>by subst e;cases hs.1)
    have hflx:flat x=[x]:=by
     cases x<;>simp only[argFit,hag,Bool.false_and,Bool.false_eq_true]at hf1<;>rfl
    exact⟨⟨fun u hu=>by rw[ZO hone]at hu;simp at hu;subst hu;exact hone,by simp[ZO hone]⟩,by rw[hflx,hf1'];rfl⟩
  refine⟨v.cells.toList++cells,.cons _ _ _ _ _ _ hpk.1 (by rw[←hfl.1];exact hpk.2) i1,by simp[flats,hfl.1,i2.1],fun i y u hy hu=>?_⟩
  simp only[flats]at hy
  by_cases hi:i<(flat x).length
  ·rw[List.getElem?_append_left hi]at hy
   rw[List.getElem?_append_left (by rw[←hfl.1];exact hi)]at hu
   exact hfl.2 i y u hy hu
  ·rw[List.getElem?_append_right (by omega)]at hy
   rw[List.getElem?_append_right (by rw[←hfl.1];omega),←hfl.1]at hu
   exact i2.2 _ y u hy hu
theorem GivesR.ots {ids:List Id}:∀{ls:List Leaf} {ds:List Dat} {us:List Value} {bs:Nat→List Nat},GivesR E w S0 G ids true ls ds (fun i=>us.getD i undef) bs→us.length=ls.length→
  ∃all,OTs E w ls ds us all∧all.Nodup∧∀b∈all,∃i,b∈bs i
 |[],[],[],_,_,_=>⟨[],.nil,.nil,fun b hb=>by cases hb⟩
 |[],_::_,_,_,h,_=>by have:=h.len;simp at this
 |_::_,[],_,_,h,_=>by have:=h.len;simp at this
 |[],_,_::_,_,_,hl=>by simp at hl
 |_::_,_,[],_,_,hl=>by simp at hl
 |l::ls,d::ds,u::us,bs,h,hl=>by
  obtain⟨all,i1,i2,i3⟩:=GivesR.ots (ls:=ls) (ds:=ds) (us:=us) (bs:=fun i=>bs (i+1))
   ⟨by simpa using h.len,fun i l' hl'=>by simpa using h.rd (i+1) l' (by simpa using hl'),fun hd i l' hl'=>by simpa using h.ot hd (i+1) l' (by simpa using hl'),fun i b hb=>h.sub (i+1) b hb,fun i=>h.nodup (i+1),fun i j hij b hb=>h.disj (i+1) (j+1) (by omega) b hb⟩ (by simpa using hl)
  refine⟨bs 0++all,.cons _ _ _ _ _ _ _ _ (by simpa using h.ot rfl 0 l rfl) i1,?_,fun b hb=>?_⟩
  ·rw[List.nodup_append]
   refine⟨h.nodup 0,i2,fun b hb b' hb' e=>?_⟩
   subst e
   obtain⟨i,hi⟩:=i3 b hb'
   exact h.disj 0 (i+1) (by omega) b hb hi
  ·rcases List.mem_append.mp hb with hb|hb
   ·exact⟨0,hb⟩
   ·obtain⟨i,hi⟩:=i3 b hb
    exact⟨i+1,hi⟩
theorem Z0o {o:Id} {eo:TypeId} {rows:List (List Dat)} {vr:Nat} (ho:getO st.ob o=some (.row eo rows true vr [])) {te:TI} (hte:E.T eo=some te) {u:Nat→Nat→Value} {bs:Nat→Nat→List Nat}
  (hcase:rows=[]∨∃gb off cc arr,G.root o=.slice (some ⟨gb,off,none⟩) rows.length cc∧w.heap[gb]?=some (.cells arr eo (0,0))∧∀j i:Nat,j<rows.length→i<te.ls.length→arr[off+(j*te.ls.length+i)]?=some (u j i))
  (hot:∀(j i:Nat) (r:List Dat) (l:Leaf),rows[j]?=some r→te.ls[i]?=some l→OT E w l (r.getD i default) (u j i) (bs j i)) (hnd:(flatB bs rows.length te.ls.length).Nodup):
  ∀{ls:List Leaf} {c:Nat} {xs:List AV} {us:List Value} {g:Givens},gives look ls xs=some g→nestCells o vr c xs=true→CellsR E w S0 G st.ob xs us→
   ∃all,OTs E w ls g.ds us all∧all.Nodup∧∀b∈all,∃j i,c≤i∧b∈clip rows.length te.ls.length bs j i
 |[],c,[],us,g,hg,_,hc=>by
  simp only[gives,Option.some.injEq]at hg
  subst hg
  have:us=[]:=List.length_eq_zero_iff.mp hc.1.symm
  subst this
  exact⟨[],.nil,.nil,fun b hb=>by cases hb⟩
 |[],_,_::_,_,g,hg,_,_=>by simp[gives]at hg
 |_::_,_,[],_,g,hg,_,_=>by simp[gives]at hg
 |_::_,_,_::_,[],g,hg,_,hc=>by have:=hc.1;simp at this
 |l::ls,c,x::xs,v::us,g,hg,hn,hc=>by
  simp only[gives]at hg
  split at hg
  ·rename_i g1 hg1
   split at hg
   ·rename_i g2 hg2
    cases hg
    have hc2:CellsR E w S0 G st.ob xs us:=⟨by have:=hc.1;simpa using this,fun i y u hy hu=>hc.2 (i+1) y u (by simpa using hy) (by simpa using hu)⟩
    have hx:=(hc.2 0 x v rfl rfl).1
    have plain:OT E w l g1.d v []→nestCells o vr c xs=true→∃all,OTs E w (l::ls) (g1.d::g2.ds) (v::us) all∧all.Nodup∧∀b∈all,∃j i,c≤i∧b∈clip rows.length te.ls.length bs j i:=fun h1 h2=>by
     obtain⟨all,i1,i2,i3⟩:=Z0o ho hte hcase hot hnd hg2 h2 hc2
     exact⟨[]++all,.cons _ _ _ _ _ _ _ _ h1 i1,by simpa using i2,by simpa using i3⟩
    cases x with
    |nest o' ver' row col e wh rws=>
     simp only[nestCells,Bool.and_eq_true]at hn
     obtain⟨n1,n2,n3,n4,n5⟩:=hn
     have n1:=Z5.mp n1
     have n2:=Z3 n2
     have n4:=Nat.le_of_ble_eq_true n4
     subst n1;subst n2;subst n3
     cases l with
     |sl e2=>
      simp only[give]at hg1
      obtain⟨he,hg1⟩:=Z0 hg1
      cases hg1
      have he:=Z3 he
      subst he
      cases hx with
      |nest _ _ _ _ _ _ _ _ hrd hnn=>
       obtain⟨q0,q1,r,gb,o0,n,cc,x,q2,q3,q4,q5,_⟩:=hnn.2 eo rows vr [] te ho rfl (fun _ hh=>by cases hh) hte
       have q5:=q5 rfl
       subst q5
       have hrl:row.toNat<rows.length:=(List.getElem?_eq_some_iff.mp q2).1
       have hcl:col<te.ls.length:=(List.getElem?_eq_some_iff.mp q1).1
       rcases hcase with hcase|⟨gb',off,cc',arr,p1,p2,p3⟩
       ·rw[hcase]at hrl;cases hrl
       ·rw[p1]at q3
        simp only[Value.slice.injEq,Option.some.injEq,Addr.mk.injEq,and_true]at q3
        obtain⟨⟨rfl,rfl⟩,_,_⟩:=q3
        have hux:u row.toNat col=v:=by
         have:=p3 row.toNat col hrl hcl
         simp only[World.cell?,p2]at q4
         have q6:arr[off+(row.toNat*te.ls.length+col)]?=some v:=by simpa using q4
         rw[this]at q6
         exact Option.some.inj q6
        have h1:=hot row.toNat col r _ q2 q1
        rw[hux]at h1
        have h2:=h1.of_rd hrd
        obtain⟨k1,k2⟩:=ZV hnd
        obtain⟨all,i1,i2,i3⟩:=Z0o ho hte (.inr ⟨gb',off,cc',arr,p1,p2,p3⟩) hot hnd hg2 n5 hc2
        rw[←Z0f (bs:=bs) hrl hcl]at h2
        refine⟨clip rows.length te.ls.length bs row.toNat col++all,.cons _ _ _ _ _ _ _ _ h2 i1,?_,fun b hb=>?_⟩
        ·rw[List.nodup_append]
         refine⟨k1 _ _,i2,fun b hb b' hb' e=>?_⟩
         subst e
         obtain⟨j,i,hi,hbi⟩:=i3 b hb'
         exact k2 row.toNat col j i (fun e=>by omega) b hb hbi
        ·rcases List.mem_append.mp hb with hb|hb
         ·exact⟨row.toNat,col,n4,hb⟩
         ·obtain⟨j,i,hi,hbi⟩:=i3 b hb
          exact⟨j,i,by omega,hbi⟩
     |int k=>simp[give]at hg1
     |bool=>simp[give]at hg1
     |str=>simp[give]at hg1
    |i k n=>
     cases hx
     cases l<;>simp only[give,reduceCtorEq]at hg1
     obtain⟨he,hg1⟩:=Z0 hg1
     cases hg1
     simp only[ikEq,decide_eq_true_eq]at he
     subst he
     exact plain (.int _ (.int n)) hn
    |b y=>
     cases hx
     cases l<;>simp only[give,reduceCtorEq]at hg1
     cases hg1
     exact plain (.bool (.bool y)) hn
    |s y=>
     cases hx
     cases l<;>simp only[give,reduceCtorEq]at hg1
     cases hg1
     exact plain (.str (.str y)) hn
    |_=>cases hn
   ·cases hg
  ·cases hg
theorem Z0p (_hE:EnvOk P E) (h:RelG E base M S0 R0 w0 nt G st a w) {rs:List TI} (hel:∀e,Leaf.sl e∈joinLs rs→∃te,E.T e=some te) {xs:List AV} {vs:List Value} (hl:xs.length=vs.length) (hv:∀(i:Nat) (x:AV) (v:Value),xs[i]?=some x→vs[i]?=some v→VR E w S0 G st.ob x v)
  (hf:argsFit rs xs=true) (hs:allSolid xs=true) {g:Givens} (hg:outDats (getO st.ob) (joinLs rs) (flats xs)=some g):
  ∃cells bs,PackR rs vs cells∧OTs E w (joinLs rs) g.ds cells bs∧bs.Nodup∧∀b∈bs,∃o x,getO st.ob o=some x∧isPar o=false∧(b∈G.top o∨b∈G.ins o):=by
 obtain⟨cells,p1,p2⟩:=Z01 hl hv hf hs
 simp only[outDats]at hg
 split at hg
 ·rename_i g' hg'
  cases hc0:(g'.deep&&(nodupId g'.ids&& !(g'.ids.any isPar)))<;>rw[hc0]at hg
  ·simp only[cond_false]at hg
   obtain⟨hc,hg⟩:=Z0 hg
   simp only[Option.some.injEq]at hg
   subst hg
   unfold nestOut at hc
   split at hc
   ·rename_i o ver _
    simp only[Bool.and_eq_true,Bool.not_eq_true']at hc
    obtain⟨c1,c2,c3⟩:=hc
    split at c1
    ·rename_i eo rows ver' ho
     have c1:=Z3 c1
     subst c1
     obtain⟨te,t1,_,t2⟩:=(h.objs o _ ho:RowR E w _ eo rows true [] _ _ _)
     have hno:∀j i,¬isHole [] j i:=fun j i hh=>by obtain⟨_,hh,_⟩:=hh;cases hh
     rcases t2 with ⟨_,rfl,_,_⟩|⟨gb,off,cc,arr,u,bs,a1,a2,a3,a4,a5,a6,a7,a8,a9,a10⟩
     ·obtain⟨all,i1,i2,i3⟩:=Z0o ho t1 (u:=fun _ _=>undef) (bs:=fun _ _=>[]) (.inl rfl) (fun j i r l hj=>by simp at hj) (by simp[flatB]) hg' c3 p2
      refine⟨cells,all,p1,i1,i2,fun b hb=>?_⟩
      obtain⟨j,i,_,hbi⟩:=i3 b hb
      have:=(ZU hbi).1
      simp at this
     ·have hot:∀(j i:Nat) (r:List Dat) (l:Leaf),rows[j]?=some r→te.ls[i]?=some l→OT E w l (r.getD i default) (u j i) (bs j i):=fun j i r l hj hl=>by simpa using a7 j i r l hj hl (hno j i)
      have hins:G.ins o=flatB bs rows.length te.ls.length:=a8 rfl
      obtain⟨all,i1,i2,i3⟩:=Z0o ho t1 (u:=u) (bs:=bs) (.inr ⟨gb,off,cc,arr,a1,a3,fun j i hj hi=>(a6 j i hj hi).1⟩) hot (by rw[←hins];exact(h.ins o _ ho).2) hg' c3 p2
      refine⟨cells,all,p1,i1,i2,fun b hb=>?_⟩
      obtain⟨j,i,_,hbi⟩:=i3 b hb
      obtain⟨m1,m2,m3⟩:=ZU hbi
      exact⟨o,_,ho,c2,.inr (by rw[hins];exact Z2.mpr ⟨j,i,m1,m2,m3⟩)⟩
    ·cases c1
   ·cases hc
  have hc:=hc0
  simp only[cond_true,Option.some.injEq]at hg
  subst hg
  simp only[Bool.and_eq_true,Bool.not_eq_true']at hc
  obtain⟨hd,hn,hp⟩:=hc
  have hn:=ZA.mp hn
  obtain⟨⟨bs,q1⟩,q2,q3⟩:=Z0I h (fun _ _ hx=>hx) hel (us:=fun i=>cells.getD i undef) (fun i y hy=>by
   have hi:i<cells.length:=by rw[←p2.1];exact(List.getElem?_eq_some_iff.mp hy).1
   exact(p2.2 i y _ hy (by rw[List.getD_eq_getElem?_getD,List.getElem?_eq_getElem hi];rfl)).1) hg' hn
  rw[hd]at q1
  obtain⟨all,o1,o2,o3⟩:=q1.ots (by rw[←p2.1,q3])
  refine⟨cells,all,p1,o1,o2,fun b hb=>?_⟩
  obtain⟨i,hi⟩:=o3 b hb
  obtain⟨o,ho,hob⟩:=q1.sub i b hi
  obtain⟨x,hx⟩:=q2 o ho
  refine⟨o,x,hx,?_,hob⟩
  cases hpo:isPar o with
  |false=>rfl
  |true=>
   have:g'.ids.any isPar=true:=List.any_eq_true.mpr ⟨o,ho,hpo⟩
   rw[this]at hp
   cases hp
 ·cases hg
theorem ZK {f:FuncId} {fn:Func} {c:Code} {args:Array Value} {R:Value→World→Prop} (hf:P.funcs[f]?=some fn) (hb:fn.body=some c)
  (h:RunTo P f R [.code c] {tmps:=args++Array.replicate (fn.ntmps-args.size) undef,defers:=[]} w):Calls P f args w fun
   |.returned v,w'=>R v w'
   |_,_=>False:=by
 intro cs
 let b:Frame:={(default:Frame)with fn:=f,kind:=.normal}
 have henter:Frame.enter P f args .normal=b.at {tmps:=args++Array.replicate (fn.ntmps-args.size) undef,defers:=[]} [.code c]:=by
  simp[Frame.enter,Frame.at,hf,hb,b]
 obtain⟨v,w',fr,h1,h2,h3,h4⟩:=h b rfl rfl cs
 rw[←henter]at h2
 exact⟨.returned v,w',fr,h1,h2,h3,h4⟩
theorem RDs.cells {ob:List (Id×Obj)}:∀{ls:List Leaf} {ds:List Dat} {cells:List Value},RDs E w S0 ls ds cells→CellsR E w S0 G ob (datAVs false ls ds) cells
 |[],_,_,.nil=>⟨rfl,fun i v x hv=>by simp[datAVs]at hv⟩
 |l::ls,_,_,.cons _ d v _ ds vs h1 h=>by
  obtain⟨i1,i2⟩:=RDs.cells (ob:=ob) h
  refine⟨by simp[datAVs,i1],fun i y u hy hu=>?_⟩
  cases i with
  |zero=>
   simp only[datAVs,List.headD_cons,List.getElem?_cons_zero,Option.some.injEq]at hy hu
   subst hy;subst hu
   exact⟨VR.datAV (h1.mono fun b hb=>.inl hb),h1.one⟩
  |succ i=>exact i2 i y u (by simpa[datAVs]using hy) (by simpa using hu)
theorem Z0C:∀(i:Nat) (l:List AV) (t:Nat),getT (numbered i l) t=if i≤t then l.getD (t-i) .dead else .dead
 |i,[],t=>by simp[numbered,getT]
 |i,v::r,t=>by
  simp only[numbered,getT]
  by_cases h:i=t
  ·subst h;simp[Nat.beq_refl]
  ·rw[Z4d h]
   simp only[cond_false]
   rw[Z0C (i+1) r t]
   by_cases hle:i≤t
   ·rw[if_pos hle,if_pos (by omega)]
    obtain⟨k,hk⟩:∃k,t-i=k+1:=⟨t-i-1,by omega⟩
    rw[hk,show t-(i+1)=k by omega]
    simp
   ·rw[if_neg hle,if_neg (by omega)]
def Gh.none:Gh:=⟨fun _=>undef,fun _=>[],fun _=>[],[]⟩
theorem Z20 {S:Nat→Prop} {ps:List TI} {vs cells:List Value} {ds:List Dat} {fn:Func} (hN:fn.params.size≤fn.ntmps) (hlen:ps.length=fn.params.size) (hp:PackR ps vs cells) (hr:RDs E w S (joinLs ps) ds cells) (hS:∀b,S b→b<w.heap.size):
  Rel E w.heap.size [] S R0 w fn.ntmps {tm:=numbered 0 (packAll ps (datAVs false (joinLs ps) ds)),ob:=[]} {tmps:=vs.toArray++Array.replicate (fn.ntmps-vs.toArray.size) undef,defers:=[]} w:=by
 have hps:vs.length=ps.length:=by
  clear hr hlen
  induction hp with
  |nil=>rfl
  |cons ti v cs tis vs rest h1 h2 h ih=>simp[ih]
 obtain⟨q1,q2⟩:=ZH (G:=Gh.none) (ob:=[]) hp (RDs.cells hr)
 refine⟨Gh.none,⟨⟨Nat.le_refl _,fun _ _ _=>rfl,rfl,rfl,rfl⟩,fun b hb=>⟨hS b hb,by simp⟩,(fun o x hx=>by cases hx),(fun o x hx=>by cases hx),(fun o x o' x' hx=>by cases hx),(fun o x hx=>by cases hx),(fun o x o' x' hx=>by cases hx),(fun b hb=>by cases hb),fun t=>?_,rfl,by simp;omega,(fun o x _ hx=>by cases hx),.none fun _ _ h=>by cases h⟩⟩
 rw[Z0C]
 simp only[Nat.zero_le,if_true,Nat.sub_zero]
 by_cases ht:t<vs.length
 ·have e1:(packAll ps (datAVs false (joinLs ps) ds)).getD t .dead=(packAll ps (datAVs false (joinLs ps) ds))[t]'(by omega):=by
   rw[List.getD_eq_getElem?_getD,List.getElem?_eq_getElem (by omega)];rfl
  rw[e1]
  refine q2 t _ _ (List.getElem?_eq_getElem (by omega)) ?_
  rw[List.getElem?_eq_getElem ht,Array.getD_eq_getD_getElem?,Array.getElem?_append_left (by simpa using ht)]
  simp[ht]
 ·have:(packAll ps (datAVs false (joinLs ps) ds)).getD t .dead=.dead:=by
   rw[List.getD_eq_getElem?_getD,List.getElem?_eq_none (by omega)];rfl
  rw[this]
  exact .dead _
theorem ZM:∀{r:List TypeId} {ps:List TI},lsOf E r=some ps→ps.length=r.length
 |[],ps,h=>by simp only[lsOf,Option.some.injEq]at h;subst h;rfl
 |t::r,ps,h=>by
  obtain⟨ti,q,h1,h2,rfl⟩:=Z13 h
  simp[ZM h2]
theorem Z1D {ob:List (Id×Obj)} {L:List AV} {V:List Value} (hl:L.length=V.length) (h:∀(i:Nat) (y:AV) (v:Value),L[i]?=some y→V[i]?=some v→VR E w S0 G ob y v) (n t:Nat):
  VR E w S0 G ob (getT (numbered 0 L) t) ((V.toArray++Array.replicate n undef).getD t undef):=by
 rw[Z0C]
 simp only[Nat.zero_le,if_true,Nat.sub_zero]
 by_cases ht:t<V.length
 ·have e1:L.getD t .dead=L[t]'(by omega):=by
   rw[List.getD_eq_getElem?_getD,List.getElem?_eq_getElem (by omega)];rfl
  rw[e1]
  refine h t _ _ (List.getElem?_eq_getElem (by omega)) ?_
  rw[List.getElem?_eq_getElem ht,Array.getD_eq_getD_getElem?,Array.getElem?_append_left (by simpa using ht)]
  simp[ht]
 ·have:L.getD t .dead=.dead:=by
   rw[List.getD_eq_getElem?_getD,List.getElem?_eq_none (by omega)];rfl
  rw[this]
  exact .dead _
def PlainR (E:Env) (rs:List TI) (out:List Dat) (w:World) (v:Value) (w':World):Prop:=
 Kept w.heap.size [] w w'∧∃rvs rcells bs,v=oneOrV rvs∧PackR rs rvs rcells∧OTs E w' (joinLs rs) out rcells bs∧bs.Nodup∧∀b∈bs,w.heap.size≤b
theorem Z38 (hE:EnvOk P E) {f:FuncId} {fn:Func} {rs:List TI} (hm:E.mode f=.plain) (hrs:lsOf E fn.resultTypes.toList=some rs) {out:List Dat} (h:Rel E w0.heap.size [] S0 R0 w0 fn.ntmps st a w) (hfi:finish E f fn st=some out):
  ∃v,(results fn a.tmps).run P w=.ok v w∧PlainR E rs out w0 v w:=by
 obtain⟨G,h⟩:=h
 unfold finish at hfi
 rw[hm,hrs]at hfi
 simp only at hfi
 split at hfi
 ·rename_i rs' vs hrs' hvs
  cases hrs'
  obtain⟨hc,hfi⟩:=Z0 hfi
  simp only[Bool.and_eq_true]at hc
  split at hfi
  ·rename_i g hg
   cases hfi
   obtain⟨us,u1,u2,u3⟩:=Zw hE h hvs
   obtain⟨cells,bs,p1,p2,p3,p4⟩:=Z0p hE h (ZI hE hrs) u1.symm u3 hc.1 hc.2 hg
   refine⟨_,u2,h.kept,us,cells,bs,rfl,p1,p2,p3,fun b hb=>?_⟩
   obtain⟨o,x,ho,_,hob⟩:=p4 b hb
   rcases hob with hob|hob
   ·rcases(h.tops o x ho b hob).2.2 with h1|h1
    ·exact h1
    ·cases h1
   ·rcases(h.F b ((h.ins o x ho).1 b hob)).2.1 with h1|h1
    ·exact h1
    ·cases h1
  ·cases hfi
 ·cases hfi
end
end Go.Proofs.YtnihikajdbcoaaaGreat.Vai
namespace Go.Proofs.YtnihikajdbcoaaaGreat.Vai
open Go
section
variable {E:Env} {base:Nat} {M:List Nat} {S0:Nat→Prop} {R0:Id→Value} {w0:World} {nt:Nat} {G:Gh} {st:St} {a:Act} {w w':World}
theorem Zl {α β:Type} {f g:α→List β}:∀{l:List α},(∀x∈l,f x=g x)→l.flatMap f=l.flatMap g
 |[],_=>rfl
 |x::l,h=>by
  simp only[List.flatMap_cons,h x (by simp)]
  rw[Zl fun y hy=>h y (by simp[hy])]
theorem Z41 {bs:Nat→Nat→List Nat} {n sz:Nat} (h:(flatB bs n sz).Nodup) {j i j' i':Nat} (hj:j<n) (hi:i<sz) (hj':j'<n) (hi':i'<sz) (hne:¬(j=j'∧i=i')):∀b∈bs j i,b∉bs j' i':=by
 intro b hb hb'
 have key:∀(l:List (List Nat)),l.flatten.Nodup→∀(p q:Nat) (x y:List Nat),l[p]?=some x→l[q]?=some y→p≠q→b∈x→b∈y→False:=by
  intro l
  induction l with
  |nil=>intro _ p q x y hp;simp at hp
  |cons z l ih=>
   intro hn p q x y hp hq hne hx hy
   simp only[List.flatten_cons,List.nodup_append]at hn
   cases p with
   |zero=>
    cases q with
    |zero=>exact hne rfl
    |succ q=>
     simp at hp hq
     subst hp
     exact hn.2.2 b hx b (List.mem_flatten.mpr ⟨y,List.mem_of_getElem? hq,hy⟩) rfl
   |succ p=>
    cases q with
    |zero=>
     simp at hp hq
     subst hq
     exact hn.2.2 b hy b (List.mem_flatten.mpr ⟨x,List.mem_of_getElem? hp,hx⟩) rfl
    |succ q=>exact ih hn.2.1 p q x y (by simpa using hp) (by simpa using hq) (by omega) hx hy
 have e:flatB bs n sz=((List.range n).map fun j=>((List.range sz).map fun i=>bs j i).flatten).flatten:=by
  simp only[flatB,List.flatMap]
 rw[e]at h
 by_cases hjj:j=j'
 ·subst hjj
  have hii:i≠i':=fun e=>hne ⟨rfl,e⟩
  have hin:((List.range sz).map fun i=>bs j i).flatten.Nodup:=by
   have key2:∀(l:List (List Nat)),l.flatten.Nodup→∀x∈l,x.Nodup:=by
    intro l
    induction l with
    |nil=>intro _ x hx;cases hx
    |cons z l ih=>
     intro hn x hx
     simp only[List.flatten_cons,List.nodup_append]at hn
     rcases List.mem_cons.mp hx with rfl|hx
     ·exact hn.1
     ·exact ih hn.2.1 x hx
   exact key2 _ h _ (List.mem_map.mpr ⟨j,by simpa using hj,rfl⟩)
  exact key _ hin i i' (bs j i) (bs j i') (by simp[hi]) (by simp[hi']) hii hb hb'
 ·exact key _ h j j' _ _ (by simp[hj];rfl) (by simp[hj'];rfl) hjj (List.mem_flatten.mpr ⟨bs j i,List.mem_map.mpr ⟨i,by simpa using hi,rfl⟩,hb⟩) (List.mem_flatten.mpr ⟨bs j' i',List.mem_map.mpr ⟨i',by simpa using hi',rfl⟩,hb'⟩)
theorem Z4S {bs:Nat→Nat→List Nat} {n sz:Nat} (h:(flatB bs n sz).Nodup) {j i:Nat} (hj:j<n) (hi:i<sz):(bs j i).Nodup:=by
 have key2:∀(l:List (List Nat)),l.flatten.Nodup→∀x∈l,x.Nodup:=by
  intro l
  induction l with
  |nil=>intro _ x hx;cases hx
  |cons z l ih=>
   intro hn x hx
   simp only[List.flatten_cons,List.nodup_append]at hn
   rcases List.mem_cons.mp hx with rfl|hx
   ·exact hn.1
   ·exact ih hn.2.1 x hx
 have e:flatB bs n sz=((List.range n).map fun j=>((List.range sz).map fun i=>bs j i).flatten).flatten:=by
  simp only[flatB,List.flatMap]
 rw[e]at h
 have:=key2 _ h _ (List.mem_map.mpr ⟨j,by simpa using hj,rfl⟩)
 exact key2 _ this _ (List.mem_map.mpr ⟨i,by simpa using hi,rfl⟩)
theorem Z2I {bs:Nat→Nat→List Nat} {n sz:Nat} (h1:∀j i,j<n→i<sz→(bs j i).Nodup) (h2:∀j i j' i',j<n→i<sz→j'<n→i'<sz→¬(j=j'∧i=i')→∀b∈bs j i,b∉bs j' i'):(flatB bs n sz).Nodup:=by
 have e:flatB bs n sz=flatB (fun j i=>if j<n∧i<sz then bs j i else[]) n sz:=by
  simp only[flatB]
  refine Zl fun j hj=>Zl fun i hi=>?_
  rw[if_pos ⟨List.mem_range.mp hj,List.mem_range.mp hi⟩]
 rw[e]
 refine ZX (fun j i=>?_) fun j i j' i' hne b hb hb'=>?_
 ·split
  ·rename_i h;exact h1 j i h.1 h.2
  ·exact .nil
 ·split at hb
  ·split at hb'
   ·rename_i q1 q2;exact h2 j i j' i' q1.1 q1.2 q2.1 q2.2 hne b hb hb'
   ·cases hb'
  ·cases hb
structure TR where
 o:Id
 y:Obj
 bs:List Nat
 bs':List Nat
 ni:List Nat
structure Turn (E:Env) (w':World) (G:Gh) (ob:List (Id×Obj)) (r:TR):Prop where
 obj:∃e rows vr rows',getO ob r.o=some (.row e rows true vr [])∧r.y=.row e rows' true (vr+1) []∧rows'.length=rows.length∧∀S,RowR E w' S e rows' true [] (G.root r.o) (G.top r.o) r.ni
 old:∀b∈r.bs,b∈G.top r.o∨b∈G.ins r.o
 nd:r.ni.Nodup
 new:∀b∈r.ni,(b∈G.ins r.o∧b∉r.bs)∨b∈r.bs'
 top:∀b∈G.top r.o,b∉r.ni∧((b∈r.bs∧b∈r.bs')∨b∉r.bs)
def upsOf (ts:List TR):List (Id×Obj):=ts.map fun r=>(r.o,r.y)
def niOf:List TR→Id→Option (List Nat)
 |[],_=>none
 |r::ts,o=>if r.o=o then some r.ni else niOf ts o
theorem Z39 {ts:List TR} (hnd:(ts.map (·.o)).Nodup) (o:Id):(∃r∈ts,r.o=o∧findN (upsOf ts) o=some r.y∧niOf ts o=some r.ni)∨((∀r∈ts,r.o≠o)∧findN (upsOf ts) o=none∧niOf ts o=none):=by
 induction ts with
 |nil=>exact .inr ⟨(fun r hr=>by cases hr),rfl,rfl⟩
 |cons r ts ih=>
  simp only[List.map_cons,List.nodup_cons]at hnd
  have hr:∀q∈ts,q.o≠r.o:=fun q hq e=>hnd.1 (List.mem_map.mpr ⟨q,hq,e⟩)
  simp only[upsOf,List.map_cons,findN,niOf]
  rcases ih hnd.2 with ⟨q,h1,h2,h3,h4⟩|⟨h1,h2,h3⟩
  ·refine .inl ⟨q,List.mem_cons_of_mem _ h1,h2,?_,?_⟩
   ·have:findN (List.map (fun r=>(r.o,r.y)) ts) o=some q.y:=h3
    rw[this]
   ·rw[if_neg (fun e=>hr q h1 (h2.trans e.symm))];exact h4
  ·have h2':findN (List.map (fun r=>(r.o,r.y)) ts) o=none:=h2
   rw[h2']
   by_cases he:o=r.o
   ·subst he
    exact .inl ⟨r,List.mem_cons_self,rfl,by simp,by simp⟩
   ·refine .inr ⟨fun q hq=>?_,by simp[he],?_⟩
    ·rcases List.mem_cons.mp hq with rfl|hq
     ·exact fun e=>he e.symm
     ·exact h1 q hq
    ·rw[if_neg (fun e=>he e.symm)];exact h3
theorem Z1E {ob:List (Id×Obj)} {o:Id}:o∈keys ob→∃x,getO ob o=some x:=by
 induction ob with
 |nil=>intro h;cases h
 |cons p ob ih=>
  obtain⟨k,x⟩:=p
  intro h
  simp only[keys,List.mem_cons]at h
  simp only[getO]
  cases hk:idEq k o with
  |true=>exact⟨x,rfl⟩
  |false=>
   rcases h with rfl|h
   ·rw[Z5.mpr rfl]at hk;cases hk
   ·exact ih h
theorem Z1F {ob:List (Id×Obj)} {o:Id} {x:Obj}:getO ob o=some x→o∈keys ob:=by
 induction ob with
 |nil=>intro h;cases h
 |cons p ob ih=>
  obtain⟨k,y⟩:=p
  intro h
  simp only[getO]at h
  simp only[keys,List.mem_cons]
  cases hk:idEq k o<;>rw[hk]at h
  ·exact .inr (ih h)
  ·exact .inl (Z5.mp hk).symm
theorem Z21 {ts:List TR} (h:(ts.flatMap (·.bs')).Nodup) {r q:TR} (hr:r∈ts) (hq:q∈ts) {b:Nat} (h1:b∈r.bs') (h2:b∈q.bs') (hn:(ts.map (·.o)).Nodup):r.o=q.o∧r.ni=q.ni:=by
 induction ts with
 |nil=>cases hr
 |cons t ts ih=>
  simp only[List.flatMap_cons,List.nodup_append]at h
  simp only[List.map_cons,List.nodup_cons]at hn
  obtain⟨_,n2,n3⟩:=h
  rcases List.mem_cons.mp hr with hr1|hr1<;>rcases List.mem_cons.mp hq with hq1|hq1
  ·rw[hr1,hq1];exact⟨rfl,rfl⟩
  ·subst hr1;exact absurd rfl (n3 b h1 b (List.mem_flatMap.mpr ⟨q,hq1,h2⟩))
  ·subst hq1;exact absurd rfl (n3 b h2 b (List.mem_flatMap.mpr ⟨r,hr1,h1⟩))
  ·exact ih n2 hr1 hq1 hn.2
def Gh.turn (G:Gh) (ob:List (Id×Obj)) (ts:List TR):Gh where
 root:=G.root
 top:=G.top
 ins:=fun o=>(niOf ts o).getD (G.ins o)
 F:=(keys ob).flatMap fun o=>(niOf ts o).getD (G.ins o)
theorem RowR.anyS {e:TypeId} {rows:List (List Dat)} {holes:List (Int×Nat)} {root:Value} {top ins:List Nat} {S S':Nat→Prop} (h:RowR E w S e rows true holes root top ins):RowR E w S' e rows true holes root top ins:=by
 obtain⟨te,h1,h2,h3⟩:=h
 refine⟨te,h1,h2,h3.imp id fun⟨g,off,c,arr,u,bs,a1,a2,a3,a4,a5,a6,a7,a8,a9,a10⟩=>⟨g,off,c,arr,u,bs,a1,a2,a3,a4,a5,a6,fun j i r l hj hl hh=>?_,a8,a9,a10⟩⟩
 have:=a7 j i r l hj hl hh
 simpa using this
theorem RelG.turns (h:RelG E base M S0 R0 w0 nt G st a w) (hrow:∀o e rows dp vr hh,getO st.ob o=some (.row e rows dp vr hh)→dp=true) (hbox:∀o t cs,getO st.ob o=some (.box t cs)→numbL cs=cs) (htm:∀t,numbA (getT st.tm t)=getT st.tm t)
  {ts:List TR} (hnd:(ts.map (·.o)).Nodup) (ht:∀r∈ts,Turn E w' G st.ob r) (hb':(ts.flatMap (·.bs')).Nodup)
  (hsub:∀r∈ts,∀b∈r.bs',(∃q∈ts,b∈q.bs)∨(w.heap.size≤b∧b<w'.heap.size)) (hheap:∀b,b<w.heap.size→(∀r∈ts,b∉r.bs)→w'.heap[b]?=w.heap[b]?) (hos:w'.os=w.os∧w'.tape=w.tape∧w'.output=w.output) (hsz:w.heap.size≤w'.heap.size):
  RelG E base M S0 R0 w0 nt (G.turn st.ob ts) {st with ob:=upAll (upsOf ts) st.ob} a w':=by
 have hget:∀o x,getO (upAll (upsOf ts) st.ob) o=some x→(∃r∈ts,r.o=o∧x=r.y∧niOf ts o=some r.ni)∨((∀r∈ts,r.o≠o)∧getO st.ob o=some x∧niOf ts o=none):=fun o x hx=>by
  rw[ZT]at hx
  rcases Z39 hnd o with ⟨r,h1,h2,h3,h4⟩|⟨h1,h2,h3⟩
  ·rw[h3]at hx;cases hx;exact .inl ⟨r,h1,h2,rfl,h4⟩
  ·rw[h2]at hx;exact .inr ⟨h1,hx,h3⟩
 have live:∀r∈ts,∃x,getO st.ob r.o=some x:=fun r hr=>by
  obtain⟨e,rows,vr,rows',q,_⟩:=(ht r hr).obj
  exact⟨_,q⟩
 have oldB:∀r∈ts,∀b∈r.bs,b<w.heap.size∧¬S0 b∧(base≤b∨b∈M):=fun r hr b hb=>by
  obtain⟨x,hx⟩:=live r hr
  rcases(ht r hr).old b hb with hb|hb
  ·obtain⟨q1,q2,q3⟩:=h.tops r.o x hx b hb
   exact⟨h.top_lt hx b hb,q1,q3⟩
  ·obtain⟨q1,q2,q3⟩:=h.F b ((h.ins r.o x hx).1 b hb)
   exact⟨q3,q1,q2⟩
 have notOld:∀o x,getO st.ob o=some x→(∀r∈ts,r.o≠o)→∀b,(b∈G.top o∨b∈G.ins o)→∀r∈ts,b∉r.bs:=fun o x hx hn b hb r hr hbr=>by
  obtain⟨y,hy⟩:=live r hr
  exact h.apart hy hx (hn r hr) ((ht r hr).old b hbr) hb
 have insOld:∀o x,getO st.ob o=some x→∀b,(b∈G.top o∨b∈G.ins o)→b<w.heap.size:=fun o x hx b hb=>hb.elim (h.top_lt hx b) fun hb=>(h.F b ((h.ins o x hx).1 b hb)).2.2
 have keep:∀o x,getO st.ob o=some x→(∀r∈ts,r.o≠o)→∀b,(b∈G.top o∨b∈G.ins o)→w'.heap[b]?=w.heap[b]?:=fun o x hx hn b hb=>hheap b (insOld o x hx b hb) (notOld o x hx hn b hb)
 have hS:∀b,S0 b→w'.heap[b]?=w.heap[b]?:=fun b hb=>hheap b (by have:=(h.old b hb).1;have:=h.kept.size;omega) fun r hr hbr=>(oldB r hr b hbr).2.1 hb
 have insB:∀o x,getO st.ob o=some x→∀b∈(niOf ts o).getD (G.ins o),(b∈G.ins o∧∀r∈ts,r.o=o→b∉r.bs)∨∃r∈ts,r.o=o∧b∈r.ni∧b∈r.bs':=fun o x hx b hb=>by
  rcases Z39 hnd o with ⟨r,h1,h2,h3,h4⟩|⟨h1,h2,h3⟩
  ·rw[h4]at hb
   simp only[Option.getD_some]at hb
   rcases(ht r h1).new b hb with ⟨q1,q2⟩|q
   ·refine .inl ⟨h2▸q1,fun q hq e=>?_⟩
    have:q=r:=by
     have hp:∀(l:List TR),(l.map (·.o)).Nodup→q∈l→r∈l→q=r:=by
      intro l
      induction l with
      |nil=>intro _ h;cases h
      |cons t l ih=>
       intro hn hq hr
       simp only[List.map_cons,List.nodup_cons]at hn
       rcases List.mem_cons.mp hq with hq|hq<;>rcases List.mem_cons.mp hr with hr|hr
       ·rw[hq,hr]
       ·exact absurd (List.mem_map.mpr ⟨r,hr,by rw[h2,←e,hq]⟩) hn.1
       ·exact absurd (List.mem_map.mpr ⟨q,hq,by rw[e,←h2,hr]⟩) hn.1
       ·exact ih hn.2 hq hr
     exact hp ts hnd hq h1
    rw[this];exact q2
   ·exact .inr ⟨r,h1,h2,hb,q⟩
  ·rw[h3]at hb
   exact .inl ⟨hb,fun r hr e=>absurd e (h1 r hr)⟩
 have newB:∀r∈ts,∀b∈r.bs',(∃q∈ts,b∈q.bs∧b<w.heap.size∧(b∈G.top q.o∨b∈G.ins q.o))∨w.heap.size≤b∧b<w'.heap.size:=fun r hr b hb=>by
  rcases hsub r hr b hb with ⟨q,hq,hbq⟩|hf
  ·exact .inl ⟨q,hq,hbq,(oldB q hq b hbq).1,(ht q hq).old b hbq⟩
  ·exact .inr hf
 have mem1:∀{q r:TR},q∈ts→r∈ts→q.o=r.o→q=r:=fun{q r} hq hr e=>by
  have hp:∀(l:List TR),(l.map (·.o)).Nodup→q∈l→r∈l→q=r:=by
   intro l
   induction l with
   |nil=>intro _ h;cases h
   |cons t l ih=>
    intro hn hq hr
    simp only[List.map_cons,List.nodup_cons]at hn
    rcases List.mem_cons.mp hq with hq|hq<;>rcases List.mem_cons.mp hr with hr|hr
    ·rw[hq,hr]
    ·exact absurd (List.mem_map.mpr ⟨r,hr,by rw[←e,hq]⟩) hn.1
    ·exact absurd (List.mem_map.mpr ⟨q,hq,by rw[e,hr]⟩) hn.1
    ·exact ih hn.2 hq hr
  exact hp ts hnd hq hr
 have hc:Comp (fun _=>False) E w' S0 (G.withF (G.turn st.ob ts).F) st.ob w' (G.turn st.ob ts) (upAll (upsOf ts) st.ob):=by
  refine⟨fun _ _=>rfl,fun b hb=>⟨rfl,hb⟩,fun o t cells _ hg=>?_,fun o e rows' dp' vr' h' _ hg=>?_,fun o kl el es _ hg=>?_⟩
  ·rcases hget o _ hg with ⟨r,h1,h2,h3,_⟩|⟨_,hg,_⟩
   ·obtain⟨e,rows,vr,rows',_,q,_⟩:=(ht r h1).obj
    rw[q]at h3;cases h3
   ·exact⟨rfl,t,cells,hg⟩
  ·rcases hget o _ hg with ⟨r,h1,h2,h3,_⟩|⟨_,hg,_⟩
   ·obtain⟨e0,rows,vr,rows0,q1,q2,q3,_⟩:=(ht r h1).obj
    rw[q2]at h3
    cases h3
    subst h2
    exact⟨rfl,rows,true,vr,[],q1,q3,by omega,fun _ e=>absurd e (by omega)⟩
   ·exact⟨rfl,rows',dp',vr',h',hg,rfl,Nat.le_refl _,fun hd _=>⟨hd,fun _ hx=>hx,fun te j r _ hj=>⟨r,hj,fun col e' _ _=>⟨rfl,fun _ _ _ _ _=>rfl⟩⟩⟩⟩
  ·rcases hget o _ hg with ⟨r,h1,h2,h3,_⟩|⟨_,hg,_⟩
   ·obtain⟨e,rows,vr,rows',_,q,_⟩:=(ht r h1).obj
    rw[q]at h3;cases h3
   ·exact⟨rfl,kl,el,es,hg⟩
 have hvr:∀x v,VR E w S0 G st.ob x v→numbA x=x→VR E w' S0 (G.turn st.ob ts) (upAll (upsOf ts) st.ob) x v:=fun x v hv hn=>by
  have:=(hv.numb (F':=(G.turn st.ob ts).F) hS).map hc Zz
  rwa [hn]at this
 refine⟨⟨Nat.le_trans h.kept.size hsz,fun b hb hm=>?_,hos.1.trans h.kept.os,hos.2.1.trans h.kept.tape,hos.2.2.trans h.kept.output⟩,h.old,fun o x hx=>?_,fun o x hx b hb=>?_,fun o x o' x' hx hx'=>?_,fun o x hx=>?_,fun o x o' x' hx hx' hne b hb hb2=>?_,fun b hb=>?_,fun t=>hvr _ _ (h.tmps t) (htm t),h.defers,h.size,fun o x hp hx=>?_,?_⟩
 ·refine(hheap b (by have:=h.kept.size;omega) fun r hr hbr=>?_).trans (h.kept.heap b hb hm)
  rcases(oldB r hr b hbr).2.2 with q|q
  ·omega
  ·exact hm q
 ·rcases hget o x hx with ⟨r,h1,h2,h3,h4⟩|⟨h1,hg,h4⟩
  ·obtain⟨e,rows,vr,rows',q1,q2,q3,q4⟩:=(ht r h1).obj
   subst h2
   rw[h3,q2]
   have:=q4 (fun b=>S0 b∨b∈(G.turn st.ob ts).F)
   simp only[ObjR,Gh.turn,h4,Option.getD_some]
   exact this
  ·have:=h.objs o x hg
   cases x with
   |row e rows dp vr hh=>
    have hd:=hrow o e rows dp vr hh hg
    subst hd
    simp only[ObjR,Gh.turn,h4,Option.getD_none]
    exact RowR.anyS (S:=fun _=>False) (RowR.frame (S':=fun _=>False) (RowR.anyS (S':=fun _=>False) this) (fun b hb=>keep o _ hg h1 b (.inl hb)) (fun b hb=>keep o _ hg h1 b (.inr hb)) (fun _ _ hb=>hb.elim) (fun _ hb=>hb.elim))
   |box t cs=>
    obtain⟨g,arr,et,b1,b2,b3,b4,b5,b6⟩:=(this:BoxR E w S0 G st.ob cs _ _ _)
    simp only[ObjR,Gh.turn,h4,Option.getD_none]
    refine⟨g,arr,et,b1,b2,b3,(keep o _ hg h1 g (.inl (by rw[b2];simp))).trans b4,b5,fun i v x hv hxx=>?_⟩
    obtain⟨q1,q2⟩:=b6 i v x hv hxx
    refine⟨hvr v x q1 ?_,q2⟩
    have hn:=hbox o t cs hg
    have:=congrArg (fun l=>l[i]?) hn
    simp only[Zp,hv,Option.map_some,Option.some.injEq]at this
    exact this
   |mp kl el es=>
    obtain⟨g,arr,ck,b1,b2,b3,b4,b5⟩:=(this:MapR w kl el es _ _ _)
    simp only[ObjR,Gh.turn,h4,Option.getD_none]
    exact⟨g,arr,ck,b1,b2,b3,(keep o _ hg h1 g (.inl (by rw[b2];simp))).trans b4,b5⟩
 ·have hx0:∃z,getO st.ob o=some z:=by
   rcases hget o x hx with ⟨r,h1,h2,_⟩|⟨_,hg,_⟩
   ·exact h2▸live r h1
   ·exact⟨x,hg⟩
  obtain⟨z,hz⟩:=hx0
  have hb:b∈G.top o:=hb
  obtain⟨t1,t2,t3⟩:=h.tops o z hz b hb
  refine⟨t1,fun hF=>?_,t3⟩
  obtain⟨o2,ho2,hb2⟩:=List.mem_flatMap.mp hF
  obtain⟨z2,hz2⟩:=Z1E ho2
  rcases insB o2 z2 hz2 b hb2 with ⟨q,_⟩|⟨r,hr,e,hbn,hbr⟩
  ·exact t2 ((h.ins o2 z2 hz2).1 b q)
  ·rcases newB r hr b hbr with ⟨q,hq,hbq,_,hbo⟩|hf
   ·obtain⟨zq,hzq⟩:=live q hq
    rcases hbo with hbo|hbo
    ·have heq:q.o=o:=Classical.byContradiction fun hne=>h.tops2 q.o zq o z hzq hz hne b hbo hb
     rcases((ht q hq).top b hbo).2 with q1|q1
     ·have:=(Z21 hb' hr hq hbr q1.2 hnd).2
      rw[this]at hbn
      exact((ht q hq).top b hbo).1 hbn
     ·exact q1 hbq
    ·exact t2 ((h.ins q.o zq hzq).1 b hbo)
   ·have:=h.top_lt hz b hb
    omega
 ·have l:∀o x,getO (upAll (upsOf ts) st.ob) o=some x→∃z,getO st.ob o=some z:=fun o x hx=>by
   rcases hget o x hx with ⟨r,h1,h2,_⟩|⟨_,hg,_⟩
   ·exact h2▸live r h1
   ·exact⟨x,hg⟩
  obtain⟨z,hz⟩:=l o x hx
  obtain⟨z',hz'⟩:=l o' x' hx'
  exact h.tops2 o z o' z' hz hz'
 ·rcases hget o x hx with ⟨r,h1,h2,h3,h4⟩|⟨h1,hg,h4⟩
  ·obtain⟨z,hz⟩:=live r h1
   refine⟨fun b hb=>List.mem_flatMap.mpr ⟨o,Z1F (h2▸hz),hb⟩,?_⟩
   simp only[Gh.turn,h4,Option.getD_some]
   exact(ht r h1).nd
  ·refine⟨fun b hb=>List.mem_flatMap.mpr ⟨o,Z1F hg,hb⟩,?_⟩
   simp only[Gh.turn,h4,Option.getD_none]
   exact(h.ins o x hg).2
 ·have l:∀o x,getO (upAll (upsOf ts) st.ob) o=some x→∃z,getO st.ob o=some z:=fun o x hx=>by
   rcases hget o x hx with ⟨r,h1,h2,_⟩|⟨_,hg,_⟩
   ·exact h2▸live r h1
   ·exact⟨x,hg⟩
  obtain⟨z,hz⟩:=l o x hx
  obtain⟨z',hz'⟩:=l o' x' hx'
  have cross:∀o1 z1 o2 z2,getO st.ob o1=some z1→getO st.ob o2=some z2→o1≠o2→(b∈G.ins o1∧∀r∈ts,r.o=o1→b∉r.bs)→(∃r∈ts,r.o=o2∧b∈r.ni∧b∈r.bs')→False:=fun o1 z1 o2 z2 hz1 hz2 hne ⟨q1,q2⟩ ⟨r,hr,e,hbn,hbr⟩=>by
   rcases newB r hr b hbr with ⟨q,hq,hbq,_,hbo⟩|hf
   ·obtain⟨zq,hzq⟩:=live q hq
    have heq:q.o=o1:=Classical.byContradiction fun hn=>h.apart hzq hz1 hn hbo (.inr q1)
    exact q2 q hq heq hbq
   ·have:=insOld o1 z1 hz1 b (.inr q1)
    omega
  rcases insB o z hz b hb with q1|q1<;>rcases insB o' z' hz' b hb2 with q2|q2
  ·exact h.ins2 o z o' z' hz hz' hne b q1.1 q2.1
  ·exact cross o z o' z' hz hz' hne q1 q2
  ·exact cross o' z' o z hz' hz (fun e=>hne e.symm) q2 q1
  ·obtain⟨r,hr,e,_,hbr⟩:=q1
   obtain⟨r2,hr2,e2,_,hbr2⟩:=q2
   have:=(Z21 hb' hr hr2 hbr hbr2 hnd).1
   exact hne (by rw[←e,←e2,this])
 ·obtain⟨o2,ho2,hb2⟩:=List.mem_flatMap.mp hb
  obtain⟨z2,hz2⟩:=Z1E ho2
  rcases insB o2 z2 hz2 b hb2 with ⟨q,_⟩|⟨r,hr,e,hbn,hbr⟩
  ·obtain⟨q1,q2,q3⟩:=h.F b ((h.ins o2 z2 hz2).1 b q)
   exact⟨q1,q2,Nat.lt_of_lt_of_le q3 hsz⟩
  ·rcases newB r hr b hbr with ⟨q,hq,hbq,hlt,_⟩|hf
   ·obtain⟨_,q1,q2⟩:=oldB q hq b hbq
    exact⟨q1,q2,Nat.lt_of_lt_of_le hlt hsz⟩
   ·obtain⟨q1,_,q3,_⟩:=h.old_lt hf.1
    exact⟨q1,.inl q3,hf.2⟩
 ·rcases hget o x hx with ⟨r,h1,h2,h3,h4⟩|⟨h1,hg,h4⟩
  ·obtain⟨z,hz⟩:=live r h1
   subst h2
   exact h.par r.o z hp hz
  ·exact h.par o x hp hg
 ·have hnot:∀{t cs},getO (upAll (upsOf ts) st.ob) (1000000,0)=some (.box t cs)→(∀r∈ts,r.o≠(1000000,0))∧getO st.ob (1000000,0)=some (.box t cs):=fun{t cs} ht'=>by
   rcases hget _ _ ht' with ⟨r,h1,h2,h3,h4⟩|⟨h1,hg,h4⟩
   ·obtain⟨e,rows,vr,rows',q1,q2,q3,q4⟩:=(ht r h1).obj
    rw[q2]at h3;cases h3
   ·exact⟨h1,hg⟩
  intro t cs ht' c e rows hc
  obtain⟨n1,n2⟩:=hnot ht'
  obtain⟨g,g1,g2⟩:=h.fix t cs n2 c e rows hc
  exact⟨g,g1,(ZD (a:=⟨g,c,none⟩) (keep _ _ n2 n1 g (.inl (h.parTop n2 g1)))).trans g2⟩
end
end Go.Proofs.YtnihikajdbcoaaaGreat.Vai
namespace Go.Proofs.YtnihikajdbcoaaaGreat.Vai
open Go
section
variable {P:Program} {E:Env} {base:Nat} {M:List Nat} {S0:Nat→Prop} {R0:Id→Value} {w0:World} {nt:Nat} {G:Gh} {st:St} {a:Act} {w w':World} {look:Look}
def slLs:List Leaf→List Leaf
 |[]=>[]
 |.sl e::r=>.sl e::slLs r
 |_::r=>slLs r
def slCs:List Leaf→List Value→List Value
 |[],_=>[]
 |.sl _::r,vs=>vs.headD undef::slCs r vs.tail
 |_::r,vs=>slCs r vs.tail
theorem Z4v (h:RelG E base M S0 R0 w0 nt G st a w) {o:Id} {e:TypeId} {rows:List (List Dat)} {vr:Nat} (ho:getO st.ob o=some (.row e rows true vr [])) {d':Dat} {bs':List Nat} (hot:OT E w' (.sl e) d' (G.root o) bs') (hnd:bs'.Nodup) (hl:d'.rows.length=rows.length):
  ∃ni,Turn E w' G st.ob ⟨o,.row e d'.rows true (vr+1) [],G.top o++G.ins o,bs',ni⟩:=by
 obtain⟨top,ins,rfl,hR⟩:=hot.rowR
 have hn:=List.nodup_append.mp hnd
 have htop:top=G.top o:=by
  obtain⟨te,h1,h2,h3⟩:=(h.objs o _ ho:RowR E w _ e rows true [] _ _ _)
  obtain⟨te',h1',h2',h3'⟩:=hR (fun _=>False)
  rcases h3 with ⟨r1,_,r2,_⟩|⟨g,off,c,arr,u,bs,r1,r2,_⟩<;>rcases h3' with ⟨r1',_,r2',_⟩|⟨g',off',c',arr',u',bs2,r1',r2',_⟩
  ·rw[r2,r2']
  ·rw[r1]at r1';cases r1'
  ·rw[r1]at r1';cases r1'
  ·rw[r1]at r1'
   simp only[Value.slice.injEq,Option.some.injEq,Addr.mk.injEq]at r1'
   rw[r2,r2',r1'.1.1]
 subst htop
 exact⟨ins,⟨e,rows,vr,d'.rows,ho,rfl,hl,hR⟩,(fun b hb=>List.mem_append.mp hb),hn.2.1,(fun b hb=>.inr (List.mem_append.mpr (.inr hb))),fun b hb=>⟨fun hb'=>hn.2.2 b hb b hb' rfl,.inl ⟨List.mem_append.mpr (.inl hb),List.mem_append.mpr (.inl hb)⟩⟩⟩
theorem Z4T (h:RelG E base M S0 R0 w0 nt G st a w) {o:Id} {eo:TypeId} {rows:List (List Dat)} {vr:Nat} (ho:getO st.ob o=some (.row eo rows true vr [])) {row:Int} {col:Nat} {e:TypeId} {v:Value}
  (hn:NestR E w G st.ob o vr row col e true v):∃bs,OT E w (.sl e) ((rows.getD row.toNat []).getD col default) v bs∧bs.Nodup∧(∀b∈bs,b∈G.ins o)∧
   ∀(w':World) (d':Dat) (bs':List Nat) (B:List Nat),OT E w' (.sl e) d' v bs'→bs'.Nodup→(∀b∈bs',b∈B∨w.heap.size≤b)→(∀b,b<w.heap.size→b∉B→w'.heap[b]?=w.heap[b]?)→(∀b∈B,(b∈G.top o∨b∈G.ins o)→b∈bs)→
    ∃ni,Turn E w' G st.ob ⟨o,.row eo (rows.set row.toNat ((rows.getD row.toNat []).set col d')) true (vr+1) [],bs,bs',ni⟩:=by
 obtain⟨te,t1,t2,t3⟩:=(h.objs o _ ho:RowR E w _ eo rows true [] _ _ _)
 obtain⟨_,hn⟩:=hn
 obtain⟨n0,n1,r,g,o0,n,c,x,n2,n3,n4,n5,_⟩:=hn eo rows vr [] te ho rfl (by simp) t1
 have hv:=n5 rfl
 subst hv
 have nohole:∀j i,¬isHole [] j i:=fun j i hh=>by obtain⟨r,hr,_⟩:=hh;cases hr
 rcases t3 with ⟨t3,_⟩|⟨g',off,c',arr,u,bs,a1,a2,a3,a4,a5,a6,a7,a8,a9,a10⟩
 ·rw[t3]at n3;cases n3
 rw[a1]at n3
 simp only[Value.slice.injEq,Option.some.injEq,Addr.mk.injEq]at n3
 obtain⟨⟨rfl,rfl,_⟩,_,_⟩:=n3
 have hj:row.toNat<rows.length:=(List.getElem?_eq_some_iff.mp n2).1
 have hi:col<te.ls.length:=(List.getElem?_eq_some_iff.mp n1).1
 have hr:rows.getD row.toNat []=r:=by rw[List.getD_eq_getElem?_getD,n2];rfl
 obtain⟨c1,c2⟩:=a6 row.toNat col hj hi
 have hx:v=u row.toNat col:=by
  simp only[World.cell?,a3]at n4
  have:arr[off+(row.toNat*te.ls.length+col)]?=some v:=by simpa using n4
  rw[c1]at this
  exact(Option.some.inj this).symm
 subst hx
 have hot:OT E w (.sl e) (r.getD col default) (u row.toNat col) (bs row.toNat col):=by simpa using a7 row.toNat col r (.sl e) n2 n1 (nohole _ _)
 have hins:=h.ins o _ ho
 have hmem:∀j i,j<rows.length→i<te.ls.length→∀b∈bs j i,b∈G.ins o:=fun j i hj hi b hb=>by rw[a8 rfl];exact Z2.mpr ⟨j,i,hj,hi,hb⟩
 have hdis:∀j i j' i',j<rows.length→i<te.ls.length→j'<rows.length→i'<te.ls.length→¬(j=j'∧i=i')→∀b∈bs j i,b∉bs j' i':=by
  have hnd:=hins.2
  rw[a8 rfl]at hnd
  intro j i j' i' q1 q2 q3 q4 hne b hb hb'
  exact Z41 hnd q1 q2 q3 q4 hne b hb hb'
 have hnd1:∀j i,j<rows.length→i<te.ls.length→(bs j i).Nodup:=fun j i q1 q2=>by
  have hnd:=hins.2
  rw[a8 rfl]at hnd
  exact Z4S hnd q1 q2
 rw[hr]
 refine⟨bs row.toNat col,hot,hnd1 _ _ hj hi,hmem _ _ hj hi,fun w' d' bs' B hot' hnd' hsub hheap hB=>?_⟩
 have hlt:∀b,(b∈G.top o∨b∈G.ins o)→b<w.heap.size:=fun b hb=>hb.elim (h.top_lt ho b) fun hb=>(h.F b (hins.1 b hb)).2.2
 have hg:w'.heap[g']?=w.heap[g']?:=hheap g' (hlt g' (.inl (by rw[a2];simp))) fun hgB=>by
  have:=hB g' hgB (.inl (by rw[a2];simp))
  exact(h.tops o _ ho g' (by rw[a2];simp)).2.1 (hins.1 g' (hmem _ _ hj hi g' this))
 let bs2:Nat→Nat→List Nat:=fun j i=>if j=row.toNat∧i=col then bs' else bs j i
 have hother:∀j i,j<rows.length→i<te.ls.length→¬(j=row.toNat∧i=col)→∀b∈bs j i,w'.heap[b]?=w.heap[b]?:=fun j i q1 q2 hne b hb=>hheap b (hlt b (.inr (hmem j i q1 q2 b hb))) fun hbB=>hdis j i _ _ q1 q2 hj hi hne b hb (hB b hbB (.inr (hmem j i q1 q2 b hb)))
 have hfresh:∀j i,j<rows.length→i<te.ls.length→¬(j=row.toNat∧i=col)→∀b∈bs j i,b∉bs':=fun j i q1 q2 hne b hb hb'=>by
  rcases hsub b hb' with q|q
  ·exact hdis j i _ _ q1 q2 hj hi hne b hb (hB b q (.inr (hmem j i q1 q2 b hb)))
  ·have:=hlt b (.inr (hmem j i q1 q2 b hb));omega
 refine⟨flatB bs2 rows.length te.ls.length,⟨eo,rows,vr,_,ho,rfl,by simp,fun S=>?_⟩,fun b hb=>.inr (hmem _ _ hj hi b hb),?_,fun b hb=>?_,fun b hb=>⟨fun hb'=>?_,.inr fun hbb=>?_⟩⟩
 ·
  refine⟨te,t1,fun j q hq=>?_,.inr ⟨g',off,c',arr,u,bs2,by rw[a1];simp,a2,hg.trans a3,by simpa using a4,a5,fun j i q1 q2=>a6 j i (by simpa using q1) q2,fun j i q l hq hl _=>?_,(fun _=>by simp),(fun hh=>by cases hh),fun j i hh=>absurd hh (nohole j i)⟩⟩
  ·rw[List.getElem?_set]at hq
   split at hq
   ·have:r.set col d'=q:=by simpa[hj]using hq
    rw[←this]
    simpa using t2 _ r n2
   ·exact t2 j q hq
  ·simp only[if_true]
   have hil:i<te.ls.length:=(List.getElem?_eq_some_iff.mp hl).1
   rw[List.getElem?_set]at hq
   by_cases hjr:row.toNat=j
   ·have:r.set col d'=q:=by rw[if_pos hjr]at hq;simpa[hj,←hjr]using hq
    subst this
    subst hjr
    by_cases hic:i=col
    ·subst hic
     rw[n1]at hl
     cases hl
     have e1:(r.set i d').getD i default=d':=by
      have hrl:=t2 _ r n2
      simp[List.getD_eq_getElem?_getD,hrl,hil]
     simp only[bs2,and_self,if_true]
     rw[e1]
     exact hot'
    ·have e1:(r.set col d').getD i default=r.getD i default:=by
      simp only[List.getD_eq_getElem?_getD];rw[List.getElem?_set_ne (fun e=>hic e.symm)]
     simp only[bs2,hic,and_false,if_false]
     rw[e1]
     have:=a7 row.toNat i r l n2 hl (nohole _ _)
     simp only[if_true]at this
     exact this.frame fun b hb=>hother _ _ hj hil (fun e=>hic e.2) b hb
   ·rw[if_neg hjr]at hq
    have hjl:j<rows.length:=(List.getElem?_eq_some_iff.mp hq).1
    have hne:¬(j=row.toNat∧i=col):=fun e=>hjr e.1.symm
    simp only[bs2,if_neg hne]
    have:=a7 j i q l hq hl (nohole _ _)
    simp only[if_true]at this
    exact this.frame fun b hb=>hother _ _ hjl hil hne b hb
 ·refine Z2I (fun j i q1 q2=>?_) fun j i j' i' q1 q2 q3 q4 hne b hb hb'=>?_
  ·simp only[bs2]
   split
   ·exact hnd'
   ·exact hnd1 j i q1 q2
  ·simp only[bs2]at hb hb'
   split at hb<;>split at hb'
   ·rename_i e1 e2;exact hne ⟨e1.1.trans e2.1.symm,e1.2.trans e2.2.symm⟩
   ·rename_i e1 e2;exact hfresh j' i' q3 q4 e2 b hb' hb
   ·rename_i e1 e2;exact hfresh j i q1 q2 e1 b hb hb'
   ·exact hdis j i j' i' q1 q2 q3 q4 hne b hb hb'
 ·obtain⟨j,i,q1,q2,hb⟩:=Z2.mp hb
  simp only[bs2]at hb
  split at hb
  ·exact .inr hb
  ·rename_i hne
   exact .inl ⟨hmem j i q1 q2 b hb,fun hbb=>hdis j i _ _ q1 q2 hj hi hne b hb hbb⟩
 ·obtain⟨j,i,q1,q2,hb'⟩:=Z2.mp hb'
  have ht:=h.tops o _ ho b hb
  simp only[bs2]at hb'
  split at hb'
  ·rcases hsub b hb' with q|q
   ·exact ht.2.1 (hins.1 b (hmem _ _ hj hi b (hB b q (.inl hb))))
   ·have:=h.top_lt ho b hb;omega
  ·exact ht.2.1 (hins.1 b (hmem j i q1 q2 b hb'))
 ·exact(h.tops o _ ho b hb).2.1 (hins.1 b (hmem _ _ hj hi b hbb))
end
end Go.Proofs.YtnihikajdbcoaaaGreat.Vai
namespace Go.Proofs.YtnihikajdbcoaaaGreat.Vai
open Go
section
variable {P:Program} {E:Env} {base:Nat} {M:List Nat} {S0:Nat→Prop} {R0:Id→Value} {w0:World} {nt:Nat} {G:Gh} {st:St} {a:Act} {w w':World} {look:Look}
def MutsAt (P:Program) (E:Env) (f:FuncId) (g:List Dat→Option (List Dat)):Prop:=
 ∀fn ps rs ds out,E.F f=some fn→E.mode f=.muts→lsOf E fn.params.toList=some ps→lsOf E fn.resultTypes.toList=some rs→g ds=some out→
  ∀(w:World) (vs cells:List Value) (bs:List Nat),PackR ps vs cells→OTs E w (joinLs ps) ds cells bs→bs.Nodup→
   Calls P f vs.toArray w fun
    |.returned v,w'=>Kept w.heap.size bs w w'∧∃rvs rcells outr outp bs',out=outr++outp∧outr.length=(joinLs rs).length∧v=oneOrV rvs∧PackR rs rvs rcells∧OTs E w' (joinLs rs) outr rcells []∧
      OTs E w' (slLs (joinLs ps)) outp (slCs (joinLs ps) cells) bs'∧bs'.Nodup∧∀b∈bs',b∈bs∨(w.heap.size≤b∧b<w'.heap.size)
    |_,_=>False
theorem OT.sl_len {e:TypeId} {d:Dat} {v:Value} {bs:List Nat} (h:OT E w (.sl e) d v bs):∃A c,v=.slice A d.rows.length c:=by
 cases h with
 |nil _ te d ht hr=>exact⟨none,0,by rw[hr];rfl⟩
 |row _ te d g off c arr u bs ht hb hc hs hl hm hr=>exact⟨_,_,rfl⟩
theorem Z1R {m':MutArg}:∀{ms:List MutArg},m'∈ms→m'.o∈mutIds ms
 |[],h=>by cases h
 |t::l,h=>by
  simp only[mutIds,List.mem_cons]
  rcases List.mem_cons.mp h with rfl|h
  ·exact .inl rfl
  ·exact .inr (Z1R h)
theorem Z5I (h:RelG E base M S0 R0 w0 nt G st a w) {e:TypeId} {x:AV} {v:Value} (hv:VR E w S0 G st.ob x v) (hone:oneV v) {m:MutArg} {d:Dat} (hm:(∃o e' rows vr,x=.own o∧getO st.ob o=some (.row e' rows true vr [])∧Nat.beq e e'=true∧m=⟨o,none⟩∧d=.sl rows)∨
   ∃o ver row col e' rr eo rows,x=.nest o ver row col e' true rr∧getO st.ob o=some (.row eo rows true ver [])∧Nat.beq e e'=true∧m=⟨o,some (row,col)⟩∧d=(rows.getD row.toNat []).getD col default):
  ∃bs,OT E w (.sl e) d v bs∧bs.Nodup∧(∀b∈bs,b∈G.top m.o∨b∈G.ins m.o)∧(∃x,getO st.ob m.o=some x)∧
   ∀(w':World) (d':Dat) (bs' B:List Nat),OT E w' (.sl e) d' v bs'→bs'.Nodup→(∀b∈bs',b∈B∨w.heap.size≤b)→(∀b,b<w.heap.size→b∉B→w'.heap[b]?=w.heap[b]?)→(∀b∈B,(b∈G.top m.o∨b∈G.ins m.o)→b∈bs)→
    ∃ni y,Turn E w' G st.ob ⟨m.o,y,bs,bs',ni⟩∧∀(look:Look),look m.o=getO st.ob m.o→∀(ms:List MutArg) (ds:List Dat),mutUps look (m::ms) (d'::ds)=(m.o,y)::mutUps look ms ds:=by
 rcases hm with ⟨o,e',rows,vr,rfl,ho,he,rfl,rfl⟩|⟨o,ver,row,col,e',rr,eo,rows,rfl,ho,he,rfl,rfl⟩
 ·have he:=Z3 he;subst he
  obtain⟨q1,q2⟩:=h.row_ot ho
  have hroot:v=G.root o:=by
   cases hv with
   |own _ _ hh _=>exact hh e rows true vr [] ho
  subst hroot
  refine⟨_,q1,q2,fun b hb=>List.mem_append.mp hb,⟨_,ho⟩,fun w' d' bs' B hot hnd _ _ _=>?_⟩
  have hl:d'.rows.length=rows.length:=by
   obtain⟨A,c,e1⟩:=q1.sl_len
   obtain⟨A',c',e2⟩:=hot.sl_len
   rw[e1]at e2
   simp only[Value.slice.injEq]at e2
   exact e2.2.1.symm
  obtain⟨ni,ht⟩:=Z4v h ho hot hnd hl
  refine⟨ni,_,ht,fun look hlk ms ds=>?_⟩
  simp only[mutUps,hlk,ho,List.headD_cons,List.tail_cons,List.singleton_append]
 ·have he:=Z3 he;subst he
  cases hv with
  |nest _ _ _ _ _ _ _ _ hrd hn=>
   obtain⟨bs,q1,q2,q3,q4⟩:=Z4T h ho hn
   refine⟨bs,q1,q2,fun b hb=>.inr (q3 b hb),⟨_,ho⟩,fun w' d' bs' B hot hnd hsub hheap hB=>?_⟩
   obtain⟨ni,ht⟩:=q4 w' d' bs' B hot hnd hsub hheap hB
   refine⟨ni,_,ht,fun look hlk ms ds=>?_⟩
   simp only[mutUps,hlk,ho,List.headD_cons,List.tail_cons,List.singleton_append]
theorem Z1G (h:RelG E base M S0 R0 w0 nt G st a w) (hlook:∀i x,look i=some x→getO st.ob i=some x):∀{ls:List Leaf} {xs:List AV} {cs:List Value} {ds:List Dat} {ms:List MutArg},CellsR E w S0 G st.ob xs cs→mutDats look ls xs=some ds→mutArgs look ls xs=some ms→(mutIds ms).Nodup→
  ∃(bs:List Nat),OTs E w ls ds cs bs∧bs.Nodup∧(∀b∈bs,∃m∈ms,b∈G.top m.o∨b∈G.ins m.o)∧(∀m∈ms,∃x,getO st.ob m.o=some x)∧
   ∀(w':World) (dp:List Dat) (bp B:List Nat),OTs E w' (slLs ls) dp (slCs ls cs) bp→bp.Nodup→(∀b∈bp,b∈B∨w.heap.size≤b)→(∀b,b<w.heap.size→b∉B→w'.heap[b]?=w.heap[b]?)→(∀b∈B,∀m∈ms,(b∈G.top m.o∨b∈G.ins m.o)→b∈bs)→
    ∃ts:List TR,(∀r∈ts,Turn E w' G st.ob r)∧ts.map (·.o)=mutIds ms∧ts.flatMap (·.bs')=bp∧(∀b,(∃r∈ts,b∈r.bs)↔b∈bs)∧upsOf ts=mutUps look ms dp
 |[],[],[],ds,ms,_,hd,hm,_=>by
  simp only[mutDats,Option.some.injEq]at hd
  simp only[mutArgs,Option.some.injEq]at hm
  subst hd;subst hm
  refine⟨[],.nil,.nil,(fun b hb=>by cases hb),(fun m hm=>by cases hm),fun w' dp bp B hot _ _ _ _=>?_⟩
  cases hot
  exact⟨[],(fun r hr=>by cases hr),rfl,rfl,fun b=>⟨(fun⟨r,hr,_⟩=>by cases hr),(fun hb=>by cases hb)⟩,rfl⟩
 |[],[],_::_,_,_,hc,_,_,_=>by have:=hc.1;simp at this
 |[],_::_,_,_,_,_,hd,_,_=>by simp[mutDats]at hd
 |l::_,[],_,_,_,_,hd,_,_=>by cases l<;>simp[mutDats]at hd
 |_::_,_::_,[],_,_,hc,_,_,_=>by have:=hc.1;simp at this
 |l::ls,x::xs,c::cs,ds,ms,hc,hd,hm,hn=>by
  obtain⟨hv,hone⟩:=hc.2 0 x c rfl rfl
  have hc':CellsR E w S0 G st.ob xs cs:=⟨by simpa using hc.1,fun i v y hvv hy=>hc.2 (i+1) v y (by simpa using hvv) (by simpa using hy)⟩
  have scal:∀{d:Dat} {ds':List Dat},slLs (l::ls)=slLs ls→slCs (l::ls) (c::cs)=slCs ls cs→OT E w l d c []→mutDats look ls xs=some ds'→mutArgs look ls xs=some ms→ds=d::ds'→∃(bs:List Nat),OTs E w (l::ls) ds (c::cs) bs∧bs.Nodup∧(∀b∈bs,∃m∈ms,b∈G.top m.o∨b∈G.ins m.o)∧(∀m∈ms,∃x,getO st.ob m.o=some x)∧
   ∀(w':World) (dp:List Dat) (bp B:List Nat),OTs E w' (slLs (l::ls)) dp (slCs (l::ls) (c::cs)) bp→bp.Nodup→(∀b∈bp,b∈B∨w.heap.size≤b)→(∀b,b<w.heap.size→b∉B→w'.heap[b]?=w.heap[b]?)→(∀b∈B,∀m∈ms,(b∈G.top m.o∨b∈G.ins m.o)→b∈bs)→
    ∃ts:List TR,(∀r∈ts,Turn E w' G st.ob r)∧ts.map (·.o)=mutIds ms∧ts.flatMap (·.bs')=bp∧(∀b,(∃r∈ts,b∈r.bs)↔b∈bs)∧upsOf ts=mutUps look ms dp:=fun{d ds'} e1 e2 hot q1 q2 e3=>by
   obtain⟨bs,i1,i2,i3,i4,i5⟩:=Z1G h hlook hc' q1 q2 hn
   subst e3
   refine⟨bs,by simpa using OTs.cons l d c [] ls ds' cs bs hot i1,i2,i3,i4,?_⟩
   rw[e1,e2]
   exact i5
  have scalD:∀{d:Dat},(∀e,l≠.sl e)→toDat look l x=some d→OT E w l d c []:=fun{d} hl ht=>by
   cases l with
   |sl e=>exact absurd rfl (hl e)
   |int k=>
    cases x<;>simp only[toDat]at ht<;>try cases ht
    rename_i k' n
    obtain⟨hk,ht2⟩:=Z0 ht
    simp only[ikEq,decide_eq_true_eq]at hk
    subst hk
    cases ht2
    cases hv
    exact .int k (.int n)
   |bool=>
    cases x<;>simp only[toDat]at ht<;>try cases ht
    cases hv
    exact .bool _
   |str=>
    cases x<;>simp only[toDat]at ht<;>try cases ht
    cases hv
    exact .str _
  cases l with
  |int k=>
   simp only[mutDats]at hd
   simp only[mutArgs]at hm
   split at hd
   ·rename_i d ds' q1 q2
    cases hd
    exact scal rfl rfl (scalD (fun e he=>by cases he) q1) q2 hm rfl
   ·cases hd
  |bool=>
   simp only[mutDats]at hd
   simp only[mutArgs]at hm
   split at hd
   ·rename_i d ds' q1 q2
    cases hd
    exact scal rfl rfl (scalD (fun e he=>by cases he) q1) q2 hm rfl
   ·cases hd
  |str=>
   simp only[mutDats]at hd
   simp only[mutArgs]at hm
   split at hd
   ·rename_i d ds' q1 q2
    cases hd
    exact scal rfl rfl (scalD (fun e he=>by cases he) q1) q2 hm rfl
   ·cases hd
  |sl e=>
   have key:∃m ms' d ds',ms=m::ms'∧ds=d::ds'∧mutDats look ls xs=some ds'∧mutArgs look ls xs=some ms'∧look m.o=getO st.ob m.o∧((∃o e' rows vr,x=.own o∧getO st.ob o=some (.row e' rows true vr [])∧Nat.beq e e'=true∧m=⟨o,none⟩∧d=.sl rows)∨
     ∃o ver row col e' rr eo rows,x=.nest o ver row col e' true rr∧getO st.ob o=some (.row eo rows true ver [])∧Nat.beq e e'=true∧m=⟨o,some (row,col)⟩∧d=(rows.getD row.toNat []).getD col default):=by
    cases x with
    |own o=>
     simp only[mutArgs]at hm
     simp only[mutDats]at hd
     split at hm
     ·rename_i e' rows vr hl
      obtain⟨q1,hm⟩:=Z0 hm
      obtain⟨ms',m1,rfl⟩:=Option.map_eq_some_iff.mp hm
      rw[hl]at hd
      obtain⟨ds',d1,rfl⟩:=Option.map_eq_some_iff.mp hd
      exact⟨⟨o,none⟩,ms',_,ds',rfl,rfl,d1,m1,by rw[hl,hlook _ _ hl],.inl ⟨o,e',rows,vr,rfl,hlook _ _ hl,q1,rfl,rfl⟩⟩
     ·cases hm
    |nest o ver row col e' wh rr=>
     cases wh with
     |false=>simp[mutArgs]at hm
     |true=>
      simp only[mutArgs]at hm
      simp only[mutDats]at hd
      split at hm
      ·rename_i eo rows vr hl
       obtain⟨q1,hm⟩:=Z0 hm
       simp only[Bool.and_eq_true]at q1
       obtain⟨ms',m1,rfl⟩:=Option.map_eq_some_iff.mp hm
       rw[hl]at hd
       obtain⟨ds',d1,rfl⟩:=Option.map_eq_some_iff.mp hd
       have hver:=Z3 q1.2
       subst hver
       exact⟨⟨o,some (row,col)⟩,ms',_,ds',rfl,rfl,d1,m1,by rw[hl,hlook _ _ hl],.inr ⟨o,ver,row,col,e',rr,eo,rows,rfl,hlook _ _ hl,q1.1,rfl,rfl⟩⟩
      ·cases hm
    |_=>simp[mutArgs]at hm
   obtain⟨m,ms',d,ds',rfl,rfl,q1,q2,hlk,hm'⟩:=key
   simp only[mutIds,List.nodup_cons]at hn
   obtain⟨b1,p1,p2,p3,⟨y0,hy0⟩,p5⟩:=Z5I h hv hone hm'
   obtain⟨bs,i1,i2,i3,i4,i5⟩:=Z1G h hlook hc' q1 q2 hn.2
   have apartB:∀b∈b1,∀b'∈bs,b≠b':=fun b hb b' hb' e=>by
    subst e
    obtain⟨m',hm',hbo⟩:=i3 b hb'
    obtain⟨z,hz⟩:=i4 m' hm'
    exact h.apart hy0 hz (fun e=>hn.1 (e▸Z1R hm')) (p3 b hb) hbo
   refine⟨b1++bs,.cons _ _ _ _ _ _ _ _ p1 i1,List.nodup_append.mpr ⟨p2,i2,apartB⟩,fun b hb=>?_,fun m' hm'=>?_,fun w' dp bp B hot hnd hsub hheap hB=>?_⟩
   ·rcases List.mem_append.mp hb with hb|hb
    ·exact⟨m,List.mem_cons_self,p3 b hb⟩
    ·obtain⟨m',hm',hbo⟩:=i3 b hb
     exact⟨m',List.mem_cons_of_mem _ hm',hbo⟩
   ·rcases List.mem_cons.mp hm' with rfl|hm'
    ·exact⟨y0,hy0⟩
    ·exact i4 m' hm'
   ·simp only[slLs,slCs,List.headD_cons,List.tail_cons]at hot
    cases hot with
    |cons _ d' _ bp1 _ dp' _ bp' h1 h2=>
     obtain⟨n1,n2,n3⟩:=List.nodup_append.mp hnd
     have hB1:∀b∈B,(b∈G.top m.o∨b∈G.ins m.o)→b∈b1:=fun b hb hbo=>by
      rcases List.mem_append.mp (hB b hb m List.mem_cons_self hbo)with q|q
      ·exact q
      ·obtain⟨m',hm',hbo'⟩:=i3 b q
       obtain⟨z,hz⟩:=i4 m' hm'
       exact(h.apart hy0 hz (fun e=>hn.1 (e▸Z1R hm')) hbo hbo').elim
     have hB2:∀b∈B,∀m'∈ms',(b∈G.top m'.o∨b∈G.ins m'.o)→b∈bs:=fun b hb m' hm' hbo=>by
      rcases List.mem_append.mp (hB b hb m' (List.mem_cons_of_mem _ hm') hbo)with q|q
      ·obtain⟨z,hz⟩:=i4 m' hm'
       exact(h.apart hy0 hz (fun e=>hn.1 (e▸Z1R hm')) (p3 b q) hbo).elim
      ·exact q
     obtain⟨ni,y,t1,t2⟩:=p5 w' d' bp1 B h1 n1 (fun b hb=>hsub b (List.mem_append.mpr (.inl hb))) hheap hB1
     obtain⟨ts,s1,s2,s3,s4,s5⟩:=i5 w' dp' bp' B h2 n2 (fun b hb=>hsub b (List.mem_append.mpr (.inr hb))) hheap hB2
     refine⟨⟨m.o,y,b1,bp1,ni⟩::ts,fun r hr=>?_,by simp[mutIds,s2],by simp[s3],fun b=>?_,?_⟩
     ·rcases List.mem_cons.mp hr with rfl|hr
      ·exact t1
      ·exact s1 r hr
     ·constructor
      ·rintro ⟨r,hr,hb⟩
       rcases List.mem_cons.mp hr with rfl|hr
       ·exact List.mem_append.mpr (.inl hb)
       ·exact List.mem_append.mpr (.inr ((s4 b).mp ⟨r,hr,hb⟩))
      ·intro hb
       rcases List.mem_append.mp hb with hb|hb
       ·exact⟨_,List.mem_cons_self,hb⟩
       ·obtain⟨r,hr,hb⟩:=(s4 b).mpr hb
        exact⟨r,List.mem_cons_of_mem _ hr,hb⟩
     ·rw[t2 look hlk]
      simp only[upsOf,List.map_cons]
      have s5':List.map (fun r=>(r.o,r.y)) ts=mutUps look ms' dp':=s5
      rw[s5']
end
end Go.Proofs.YtnihikajdbcoaaaGreat.Vai
namespace Go.Proofs.YtnihikajdbcoaaaGreat.Vai
open Go
section
variable {P:Program} {E:Env} {base:Nat} {M:List Nat} {S0:Nat→Prop} {R0:Id→Value} {w0:World} {nt:Nat} {G:Gh} {st:St} {a:Act} {w w':World} {look:Look}
theorem Z3A {t:Nat}:∀{ls:List Leaf} {c:Nat} {ds:List Dat},hasSl ls=false→resObjs t c ls ds=[]
 |[],_,_,_=>rfl
 |l::ls,c,ds,h=>by
  cases l<;>simp only[hasSl,Bool.true_eq_false]at h<;>simp only[resObjs,Z3A h]
theorem Z3B:∀{ls:List Leaf} {ds:List Dat} {cs:List Value} {bs:List Nat},hasSl ls=false→OTs E w ls ds cs bs→bs=[]
 |[],_,_,_,_,h=>by cases h;rfl
 |l::ls,_,_,_,hn,.cons _ d v b _ ds vs bs h1 h=>by
  cases l<;>simp only[hasSl,Bool.true_eq_false]at hn<;>cases h1<;>simp[Z3B hn h]
theorem Z3k:∀{ls:List Leaf} {i:Nat} {e:TypeId},hasSl ls=false→ls[i]?≠some (.sl e)
 |[],i,e,_=>by simp
 |l::ls,i,e,h=>by
  cases i with
  |zero=>
   simp only[List.getElem?_cons_zero,ne_eq,Option.some.injEq]
   intro he
   subst he
   simp[hasSl]at h
  |succ i=>
   have:hasSl ls=false:=by cases l<;>simp only[hasSl,Bool.true_eq_false]at h<;>exact h
   simpa using Z3k (i:=i) (e:=e) this
theorem ZW {t:Nat}:∀{ls:List Leaf} {c:Nat} {d1 d2:List Dat},d1.length=ls.length→resAVs t c ls (d1++d2)=resAVs t c ls d1
 |[],_,_,_,_=>rfl
 |l::ls,c,d1,d2,h=>by
  match d1,h with
  |d::d1,h=>
   have ih:=ZW (t:=t) (ls:=ls) (c:=c+1) (d1:=d1) (d2:=d2) (by simpa using h)
   cases l<;>simp only[resAVs,List.cons_append,List.headD_cons,List.tail_cons,ih]
theorem Turn.numb {ob:List (Id×Obj)} {r:TR} {F':List Nat} (h:Turn E w' G ob r):Turn E w' (G.withF F') (numbO ob) r:=by
 obtain⟨⟨e,rows,vr,rows',q1,q2,q3,q4⟩,h2,h3,h4,h5⟩:=h
 refine⟨⟨e,rows,vr,rows',?_,q2,q3,q4⟩,h2,h3,h4,h5⟩
 rw[ZG,q1]
 rfl
theorem Z22 {call:FuncId→List Dat→Option (List Dat)} (h:RelG E base M S0 R0 w0 nt G st a w) (hlook:∀i x,look i=some x→getO st.ob i=some x) {dst:Option Nat} (hd:inB nt dst=true) {t:Nat} {f:FuncId} {ps rs:List TI} {args:Array Value} {vs:List Value}
  (hC:∀ds out,call f ds=some out→∀(cells:List Value) (bs:List Nat),PackR ps vs cells→OTs E w (joinLs ps) ds cells bs→bs.Nodup→
   Calls P f args w fun
    |.returned v,w'=>Kept w.heap.size bs w w'∧∃rvs rcells outr outp bs',out=outr++outp∧outr.length=(joinLs rs).length∧v=oneOrV rvs∧PackR rs rvs rcells∧OTs E w' (joinLs rs) outr rcells []∧
      OTs E w' (slLs (joinLs ps)) outp (slCs (joinLs ps) cells) bs'∧bs'.Nodup∧∀b∈bs',b∈bs∨(w.heap.size≤b∧b<w'.heap.size)
    |_,_=>False)
  {xs:List AV} (hl:xs.length=vs.length) (hv:∀(i:Nat) (x:AV) (v:Value),xs[i]?=some x→vs[i]?=some v→VR E w S0 G st.ob x v) {r:OpRes} (hr:mutCall call look t f ps rs xs=some r) {out:List Dat} (ho:r.o=some out):
  Calls P f args w fun
   |.returned v,w'=>Rel E base M S0 R0 w0 nt (applyD st dst (r.f out)) (a.put dst v) w'
   |_,_=>False:=by
 unfold mutCall at hr
 split at hr
 ·rename_i ds ms hds hms
  obtain⟨hc,hr⟩:=Z0 hr
  cases hr
  simp only at ho
  simp only[Bool.and_eq_true,Bool.not_eq_true']at hc
  obtain⟨c1,c2,c3,c4⟩:=hc
  obtain⟨cells,q1,q2⟩:=Z01 hl hv c2 c3
  obtain⟨bs,i1,i2,i3,i4,i5⟩:=Z1G h hlook q2 hds hms (ZA.mp c1)
  refine(hC ds out ho cells bs q1 i1 i2).mono fun e w' hh=>?_
  cases e with
  |panicked c=>exact hh.elim
  |outgrown=>exact hh.elim
  |returned v=>
   obtain⟨hk,rvs,rcells,outr,outp,bp,rfl,hlen,rfl,p1,p2,p3,p4,p5⟩:=hh
   obtain⟨ts,s1,s2,s3,s4,s5⟩:=i5 w' outp bp bs p3 p4 (fun b hb=>(p5 b hb).imp id (·.1)) (fun b hb hn=>hk.heap b hb hn) (fun b hb _ _ _=>hb)
   have h1:=h.numb G.F (fun _ hb=>hb) (fun o e rows v hh ho b hb=>(h.ins o _ ho).1 b hb)
   have h2:=h1.turns (w':=w') (ts:=ts) (fun o e rows dp vr hh ho=>by
     rw[ZG]at ho
     obtain⟨y,hy,hn⟩:=Option.bind_eq_some_iff.mp ho
     rcases ZE hn with ⟨e,rows,v,hh,rfl,q⟩|⟨t,cs,rfl,q⟩|⟨kl,el,es,rfl,q⟩
     ·cases q;rfl
     ·cases q
     ·cases q)
    (fun o t cs ho=>by
     rw[ZG]at ho
     obtain⟨y,hy,hn⟩:=Option.bind_eq_some_iff.mp ho
     rcases ZE hn with ⟨e,rows,v,hh,rfl,q⟩|⟨t',cs',rfl,q⟩|⟨kl,el,es,rfl,q⟩
     ·cases q
     ·cases q;exact numbL_idem cs'
     ·cases q)
    (fun t=>by rw[Z0i];exact numbA_idem _)
    (by rw[s2];exact ZA.mp c1) (fun r hr=>(s1 r hr).numb) (by rw[s3];exact p4)
    (fun r hr b hb=>by
     have:b∈bp:=by rw[←s3];exact List.mem_flatMap.mpr ⟨r,hr,hb⟩
     rcases p5 b this with q|q
     ·exact .inl ((s4 b).mpr q)
     ·exact .inr q)
    (fun b hb hn=>hk.heap b hb fun hbb=>by
     obtain⟨r,hr,hb'⟩:=(s4 b).mpr hbb
     exact hn r hr hb') ⟨hk.os,hk.tape,hk.output⟩ hk.size
   have hap:applyD st dst {v:=oneOr (packAll rs (resAVs t 0 (joinLs rs) (outr++outp))),nw:=resObjs t 0 (joinLs rs) (outr++outp),up:=mutUps look ms ((outr++outp).drop (joinLs rs).length),nm:=true}=
     putD {tm:=numbT st.tm,ob:=upAll (upsOf ts) (numbO st.ob)} dst (oneOr (packAll rs (resAVs t 0 (joinLs rs) outr))):=by
    rw[Z8,Z3A c4,ZW hlen,←hlen,List.drop_left,s5]
    rfl
   simp only
   rw[hap]
   refine⟨_,h2.putO hd (v:=oneOrV rvs) ?_⟩
   have hcl:CellsR E w' S0 ((G.withF G.F).turn (numbO st.ob) ts) (upAll (upsOf ts) (numbO st.ob)) (resAVs t 0 (joinLs rs) outr) rcells:=Z14 p2 fun i e v hi _=>absurd hi (Z3k c4)
   obtain⟨k1,k2⟩:=ZH p1 hcl
   exact Z1m k1 k2
 ·cases hr
theorem Z3d {call:FuncId→List Dat→Option (List Dat)} (h:RelG E base M S0 R0 w0 nt G st a w) (hlook:∀i x,look i=some x→getO st.ob i=some x) {dst:Option Nat} (hd:inB nt dst=true) {t:Nat} {f:FuncId} (hC:MutsAt P E f (call f))
  (hm:E.mode f=.muts) {xs:List AV} {vs:List Value} (hl:xs.length=vs.length) (hv:∀(i:Nat) (x:AV) (v:Value),xs[i]?=some x→vs[i]?=some v→VR E w S0 G st.ob x v) {r:OpRes} (hr:opCall E call look t f xs=some r) {out:List Dat} (ho:r.o=some out):
  (∃fn,E.F f=some fn)∧Calls P f vs.toArray w fun
   |.returned v,w'=>Rel E base M S0 R0 w0 nt (applyD st dst (r.f out)) (a.put dst v) w'
   |_,_=>False:=by
 unfold opCall at hr
 split at hr
 ·cases hr
 ·rename_i fn hfn
  refine⟨⟨fn,hfn⟩,?_⟩
  rw[hm]at hr
  simp only at hr
  split at hr
  ·rename_i ps rs hps hrs
   exact Z22 h hlook hd (fun ds out ho cells bs q1 i1 i2=>hC fn ps rs ds out hfn hm hps hrs ho w vs cells bs q1 i1 i2) hl hv hr ho
  ·cases hr
theorem Z1H:∀{xs us:List AV} {x:AV},splitL xs=some (us,x)→xs=us++[x]
 |[],_,_,h=>by cases h
 |[v],us,x,h=>by simp only[splitL,Option.some.injEq,Prod.mk.injEq]at h;obtain⟨rfl,rfl⟩:=h;rfl
 |v::v2::r,us,x,h=>by
  simp only[splitL]at h
  split at h
  ·rename_i us' x' h'
   simp only[Option.some.injEq,Prod.mk.injEq]at h
   obtain⟨rfl,rfl⟩:=h
   have:=Z1H h'
   rw[this]
   rfl
  ·cases h
theorem snoc_of {α:Type}:∀{n:Nat} {l:List α},l.length=n+1→∃l' x,l=l'++[x]
 |_,[],h=>by simp at h
 |0,[x],_=>⟨[],x,rfl⟩
 |0,_::_::_,h=>by simp at h
 |n+1,x::l,h=>by
  obtain⟨l',y,e⟩:=snoc_of (n:=n) (l:=l) (by simpa using h)
  exact⟨x::l',y,by rw[e];rfl⟩
theorem Z23 {ob:List (Id×Obj)} {us:List AV} {x:AV} {vs:List Value} (hl:(us++[x]).length=vs.length) (hv:∀(i:Nat) (y:AV) (v:Value),(us++[x])[i]?=some y→vs[i]?=some v→VR E w S0 G ob y v):
  ∃vs' v,vs=vs'++[v]∧us.length=vs'.length∧VR E w S0 G ob x v∧∀(i:Nat) (y:AV) (v:Value),us[i]?=some y→vs'[i]?=some v→VR E w S0 G ob y v:=by
 simp only[List.length_append,List.length_cons,List.length_nil]at hl
 obtain⟨vs',v,rfl⟩:=snoc_of (n:=us.length) (l:=vs) (by omega)
 have hlen:us.length=vs'.length:=by simp at hl;omega
 refine⟨vs',v,rfl,hlen,hv us.length x v (by simp) (by rw[hlen];simp),fun i y u hy hu=>?_⟩
 have hi:i<us.length:=(List.getElem?_eq_some_iff.mp hy).1
 exact hv i y u (by rw[List.getElem?_append_left hi];exact hy) (by rw[List.getElem?_append_left (by omega)];exact hu)
def SortsAt (P:Program) (E:Env) (f:FuncId) (g:List Dat→Option (List Dat)):Prop:=
 ∀fn q ps rs ds out,E.F f=some fn→E.mode f=.sorts q→lsOf E fn.params.toList.dropLast=some ps→lsOf E fn.resultTypes.toList=some rs→g ds=some out→
  ∀(w:World) (vs cells:List Value) (bs:List Nat),PackR ps vs cells→OTs E w (joinLs ps) ds cells bs→bs.Nodup→
   Calls P f (vs++[Value.func (Fn.func q) #[] #[]]).toArray w fun
    |.returned v,w'=>Kept w.heap.size bs w w'∧∃rvs rcells outr outp bs',out=outr++outp∧outr.length=(joinLs rs).length∧v=oneOrV rvs∧PackR rs rvs rcells∧OTs E w' (joinLs rs) outr rcells []∧
      OTs E w' (slLs (joinLs ps)) outp (slCs (joinLs ps) cells) bs'∧bs'.Nodup∧∀b∈bs',b∈bs∨(w.heap.size≤b∧b<w'.heap.size)
    |_,_=>False
theorem Z3C {call:FuncId→List Dat→Option (List Dat)} (h:RelG E base M S0 R0 w0 nt G st a w) (hlook:∀i x,look i=some x→getO st.ob i=some x) {dst:Option Nat} (hd:inB nt dst=true) {t:Nat} {f q:FuncId} (hC:SortsAt P E f (call f))
  (hm:E.mode f=.sorts q) {xs:List AV} {vs:List Value} (hl:xs.length=vs.length) (hv:∀(i:Nat) (x:AV) (v:Value),xs[i]?=some x→vs[i]?=some v→VR E w S0 G st.ob x v) {r:OpRes} (hr:opCall E call look t f xs=some r) {out:List Dat} (ho:r.o=some out):
  (∃fn,E.F f=some fn)∧Calls P f vs.toArray w fun
   |.returned v,w'=>Rel E base M S0 R0 w0 nt (applyD st dst (r.f out)) (a.put dst v) w'
   |_,_=>False:=by
 unfold opCall at hr
 split at hr
 ·cases hr
 ·rename_i fn hfn
  refine⟨⟨fn,hfn⟩,?_⟩
  rw[hm]at hr
  simp only at hr
  split at hr
  ·rename_i us g' ps rs hsp hps hrs
   obtain⟨hq,hr2⟩:=Z0 hr
   have hq:=Z3 hq
   subst hq
   have hsp:=Z1H hsp
   subst hsp
   obtain⟨vs',v,rfl,l1,l2,l3⟩:=Z23 hl hv
   cases l2 with
   |fn _ _ arr hal _=>
    have:arr= #[]:=Array.toList_inj.mp (List.length_eq_zero_iff.mp (by simpa using hal.symm))
    subst this
    exact Z22 h hlook hd (fun ds out ho cells bs q1 i1 i2=>hC fn q ps rs ds out hfn hm hps hrs ho w vs' cells bs q1 i1 i2) l1 l3 hr2 ho
  ·cases hr
theorem Z1I:∀{ls:List Leaf} {c:Nat} {ds:List Dat} {o:Id} {x:Obj},getO (mutObjs c ls ds) o=some x→∃i e,ls[i]?=some (.sl e)∧o=(1000000,c+i)∧x=.row e (ds.getD i default).rows true 0 []
 |[],_,_,_,_,h=>by cases h
 |l::ls,c,ds,o,x,h=>by
  have rest:getO (mutObjs (c+1) ls ds.tail) o=some x→∃i e,(l::ls)[i]?=some (.sl e)∧o=(1000000,c+i)∧x=.row e (ds.getD i default).rows true 0 []:=fun h=>by
   obtain⟨i,e,h1,h2,h3⟩:=Z1I h
   refine⟨i+1,e,by simpa using h1,by rw[h2];congr 1;omega,by rw[h3];cases ds<;>simp[List.getD_eq_getElem?_getD]⟩
  cases l with
  |sl e=>
   simp only[mutObjs,getO]at h
   cases hk:idEq (1000000,c) o<;>rw[hk]at h
   ·exact rest h
   ·cases h
    exact⟨0,e,rfl,(Z5.mp hk).symm,by cases ds<;>simp[List.getD_eq_getElem?_getD]⟩
  |int k=>exact rest h
  |bool=>exact rest h
  |str=>exact rest h
theorem OTs.idx:∀{ls:List Leaf} {ds:List Dat} {cs:List Value} {bs:List Nat},OTs E w ls ds cs bs→bs.Nodup→∃f:Nat→List Nat,(∀i l,ls[i]?=some l→OT E w l (ds.getD i default) (cs.getD i undef) (f i))∧(∀i,∀b∈f i,b∈bs)∧(∀i,(f i).Nodup)∧∀i j,i≠j→∀b∈f i,b∉f j
 |[],_,_,_,.nil,_=>⟨fun _=>[],(fun i l h=>by simp at h),(fun _ b hb=>by cases hb),(fun _=>.nil),fun _ _ _ b hb=>by cases hb⟩
 |l::ls,_,_,_,.cons _ d v b _ ds vs bs h1 h,hn=>by
  obtain⟨n1,n2,n3⟩:=List.nodup_append.mp hn
  obtain⟨f,f1,f2,f3,f4⟩:=h.idx n2
  refine⟨fun i=>match i with|0=>b|i+1=>f i,fun i l' hl=>?_,fun i x hx=>?_,fun i=>?_,fun i j hij x hx hx'=>?_⟩
  ·cases i with
   |zero=>simp at hl;subst hl;simpa using h1
   |succ i=>simpa using f1 i l' (by simpa using hl)
  ·cases i with
   |zero=>exact List.mem_append.mpr (.inl hx)
   |succ i=>exact List.mem_append.mpr (.inr (f2 i x hx))
  ·cases i with
   |zero=>exact n1
   |succ i=>exact f3 i
  ·cases i with
   |zero=>
    cases j with
    |zero=>exact hij rfl
    |succ j=>exact n3 x hx x (f2 j x hx') rfl
   |succ i=>
    cases j with
    |zero=>exact n3 x hx' x (f2 i x hx) rfl
    |succ j=>exact f4 i j (by omega) x hx hx'
def parRoots (cells:List Value):Id→Value:=fun o=>cells.getD o.2 undef
theorem Z0w {G:Gh} {ob:List (Id×Obj)}:∀{ls:List Leaf} {c:Nat} {ds:List Dat} {cells:List Value} {bs:List Nat},OTs E w ls ds cells bs→(∀(i:Nat) (v:Value),cells[i]?=some v→G.root (1000000,c+i)=v)→CellsR E w S0 G ob (mutInit c ls ds) cells
 |[],_,_,_,_,.nil,_=>⟨rfl,fun i v x hv=>by simp[mutInit]at hv⟩
 |l::ls,c,_,_,_,.cons _ d v b _ ds vs bs h1 h,hr=>by
  obtain⟨i1,i2⟩:=Z0w (G:=G) (ob:=ob) (c:=c+1) h (fun i u hu=>by rw[←hr (i+1) u (by simpa using hu)];congr 2;omega)
  have key:∃y,mutInit c (l::ls) (d::ds)=y::mutInit (c+1) ls ds∧VR E w S0 G ob y v:=by
   cases l with
   |sl e=>exact⟨_,rfl,.own _ _ (fun _ _ _ _ _ _=>(hr 0 v rfl).symm) h1.one⟩
   |int k=>exact⟨_,rfl,by cases h1;exact .i _ _⟩
   |bool=>exact⟨_,rfl,by cases h1;exact .b _⟩
   |str=>exact⟨_,rfl,by cases h1;exact .s _⟩
  obtain⟨y,e1,e2⟩:=key
  rw[e1]
  refine⟨by simp[i1],fun i u z hu hz=>?_⟩
  cases i with
  |zero=>simp at hu hz;subst hu;subst hz;exact⟨e2,h1.one⟩
  |succ i=>exact i2 i u z (by simpa using hu) (by simpa using hz)
theorem Z2b {ps:List TI} {vs cells:List Value} {ds:List Dat} {bs:List Nat} {fn:Func} {xa:List AV} {xv:List Value} (hxl:xa.length=xv.length) (hxa:∀(G:Gh) (ob:List (Id×Obj)) (i:Nat) (y:AV) (v:Value),xa[i]?=some y→xv[i]?=some v→VR E w (fun _=>False) G ob y v) (hN:ps.length+xv.length≤fn.ntmps) (hp:PackR ps vs cells) (hot:OTs E w (joinLs ps) ds cells bs) (hnd:bs.Nodup):
  Rel E w.heap.size bs (fun _=>False) (parRoots cells) w fn.ntmps {tm:=numbered 0 (packAll ps (mutInit 0 (joinLs ps) ds)++xa),ob:=mutObjs 0 (joinLs ps) ds} {tmps:=(vs++xv).toArray++Array.replicate (fn.ntmps-(vs++xv).toArray.size) undef,defers:=[]} w:=by
 have hps:vs.length=ps.length:=by
  clear hot hN
  induction hp with
  |nil=>rfl
  |cons ti v cs tis vs rest h1 h2 h ih=>simp[ih]
 obtain⟨f,f1,f2,f3,f4⟩:=hot.idx hnd
 have hlt:∀i,∀b∈f i,(∃l,(joinLs ps)[i]?=some l)→b<w.heap.size:=fun i b hb ⟨l,hl⟩=>(f1 i l hl).lt b hb
 have each:∀i:Nat,∃p:List Nat×List Nat,∀e:TypeId,(joinLs ps)[i]?=some (Leaf.sl e)→f i=p.1++p.2∧∀S,RowR E w S e (ds.getD i default).rows true [] (cells.getD i undef) p.1 p.2:=fun i=>by
  by_cases h:∃e:TypeId,(joinLs ps)[i]?=some (Leaf.sl e)
  ·obtain⟨e,he⟩:=h
   obtain⟨top,ins,q1,q2⟩:=(f1 i _ he).rowR
   exact⟨(top,ins),fun e' he'=>by rw[he]at he';cases he';exact⟨q1,q2⟩⟩
  ·exact⟨([],[]),fun e he=>absurd ⟨e,he⟩ h⟩
 obtain⟨p,hpp⟩:=Classical.axiomOfChoice each
 let G:Gh:=⟨parRoots cells,fun o=>(p o.2).1,fun o=>(p o.2).2,(List.range (joinLs ps).length).flatMap fun(i:Nat)=>match((joinLs ps)[i]?:Option Leaf)with
  |some (Leaf.sl _)=>(p i).2
  |_=>[]⟩
 have hob:∀o x,getO (mutObjs 0 (joinLs ps) ds) o=some x→∃i e,(joinLs ps)[i]?=some (.sl e)∧o=(1000000,i)∧x=.row e (ds.getD i default).rows true 0 []:=fun o x hx=>by
  obtain⟨i,e,h1,h2,h3⟩:=Z1I hx
  exact⟨i,e,h1,by rw[h2];simp,h3⟩
 have hF:∀b,b∈G.F↔∃(i:Nat) (e:TypeId),(joinLs ps)[i]?=some (Leaf.sl e)∧b∈(p i).2:=fun b=>by
  simp only[G,List.mem_flatMap,List.mem_range]
  constructor
  ·rintro ⟨i,hi,hb⟩
   split at hb
   ·rename_i e he;exact⟨i,e,he,hb⟩
   ·cases hb
  ·rintro ⟨i,e,he,hb⟩
   exact⟨i,(List.getElem?_eq_some_iff.mp he).1,by rw[he];exact hb⟩
 have hfi:∀i e,(joinLs ps)[i]?=some (.sl e)→∀b,(b∈(p i).1∨b∈(p i).2)→b∈f i:=fun i e he b hb=>by rw[(hpp i e he).1];exact List.mem_append.mpr hb
 obtain⟨q1,q2⟩:=ZH (E:=E) (w:=w) (S0:=fun _=>False) (G:=G) (ob:=mutObjs 0 (joinLs ps) ds) hp (Z0w (c:=0) hot fun i v hv=>by simp[G,parRoots,List.getD_eq_getElem?_getD,hv])
 refine⟨G,⟨⟨Nat.le_refl _,fun _ _ _=>rfl,rfl,rfl,rfl⟩,(fun b hb=>hb.elim),fun o x hx=>?_,fun o x hx b hb=>?_,fun o x o' x' hx hx' hne b hb hb'=>?_,fun o x hx=>?_,fun o x o' x' hx hx' hne b hb hb'=>?_,fun b hb=>?_,fun t=>?_,rfl,by simp;omega,(fun o x _ hx=>rfl),.none fun t cs hx=>by
  obtain⟨i,e,_,_,q⟩:=hob _ _ hx
  cases q⟩⟩
 ·obtain⟨i,e,h1,rfl,rfl⟩:=hob o x hx
  exact(hpp i e h1).2 _
 ·obtain⟨i,e,h1,rfl,rfl⟩:=hob o x hx
  have hbi:=hfi i e h1 b (.inl hb)
  refine⟨fun h=>h,fun hbF=>?_,.inr (f2 i b hbi)⟩
  obtain⟨j,e',he',hbj⟩:=(hF b).mp hbF
  by_cases hij:i=j
  ·subst hij
   have:=f3 i
   rw[(hpp i e h1).1]at this
   exact(List.nodup_append.mp this).2.2 b hb b hbj rfl
  ·exact f4 i j hij b hbi (hfi j e' he' b (.inr hbj))
 ·obtain⟨i,e,h1,rfl,rfl⟩:=hob o x hx
  obtain⟨j,e',h2,rfl,rfl⟩:=hob o' x' hx'
  exact f4 i j (fun e=>hne (by rw[e])) b (hfi i e h1 b (.inl hb)) (hfi j e' h2 b (.inl hb'))
 ·obtain⟨i,e,h1,rfl,rfl⟩:=hob o x hx
  refine⟨fun b hb=>(hF b).mpr ⟨i,e,h1,hb⟩,?_⟩
  have:=f3 i
  rw[(hpp i e h1).1]at this
  exact(List.nodup_append.mp this).2.1
 ·obtain⟨i,e,h1,rfl,rfl⟩:=hob o x hx
  obtain⟨j,e',h2,rfl,rfl⟩:=hob o' x' hx'
  exact f4 i j (fun e=>hne (by rw[e])) b (hfi i e h1 b (.inr hb)) (hfi j e' h2 b (.inr hb'))
 ·obtain⟨i,e,he,hbi⟩:=(hF b).mp hb
  have:=hfi i e he b (.inr hbi)
  exact⟨fun h=>h,.inr (f2 i b this),hlt i b this ⟨_,he⟩⟩
 ·refine Z1D (by simp[q1,hxl]) (fun i y v hy hv=>?_) _ t
  by_cases hi:i<vs.length
  ·rw[List.getElem?_append_left (by omega)]at hy
   rw[List.getElem?_append_left hi]at hv
   exact q2 i y v hy hv
  ·rw[List.getElem?_append_right (by omega)]at hy
   rw[List.getElem?_append_right (by omega),←q1]at hv
   exact hxa _ _ _ y v hy hv
theorem Z1J (c:Nat):isPar (1000000,c)=true:=by unfold isPar;exact Nat.ble_self_eq_true 1000000
theorem Z5J (c:Nat):((1000000+0,c):Id)=(1000000,c):=rfl
theorem Z42 {cells:List Value} (h:RelG E base M S0 (parRoots cells) w0 nt G st a w):∀{ls:List Leaf} {c:Nat} {cs:List Value} {outp:List Dat},(∀i v,cs[i]?=some v→cells.getD (c+i) undef=v)→cs.length=ls.length→parDats (getO st.ob) 0 c ls=some outp→
  ∃bs,OTs E w (slLs ls) outp (slCs ls cs) bs∧bs.Nodup∧∀b∈bs,∃i x,c≤i∧getO st.ob (1000000,i)=some x∧(b∈G.top (1000000,i)∨b∈G.ins (1000000,i)):=by
 intro ls
 induction ls with
 |nil=>
  intro c cs outp _ _ hp
  simp only[parDats,Option.some.injEq]at hp
  subst hp
  exact⟨[],.nil,.nil,fun b hb=>by cases hb⟩
 |cons l ls ih=>
  intro c cs outp hc hl hp
  cases cs with
  |nil=>simp at hl
  |cons v cs=>
   have hc':∀i u,cs[i]?=some u→cells.getD (c+1+i) undef=u:=fun i u hu=>by
    rw[←hc (i+1) u (by simpa using hu)];congr 1;omega
   have rest:∀{outp},parDats (getO st.ob) 0 (c+1) ls=some outp→∃bs,OTs E w (slLs ls) outp (slCs ls cs) bs∧bs.Nodup∧∀b∈bs,∃i x,c+1≤i∧getO st.ob (1000000,i)=some x∧(b∈G.top (1000000,i)∨b∈G.ins (1000000,i)):=fun hp=>ih hc' (by simpa using hl) hp
   cases l with
   |sl e=>
    simp only[parDats]at hp
    split at hp
    ·rename_i e' rows vr ho
     obtain⟨he,hp2⟩:=Z0 hp
     have he:=Z3 he
     subst he
     obtain⟨outp',hp',rfl⟩:=Option.map_eq_some_iff.mp hp2
     obtain⟨bs,i1,i2,i3⟩:=rest hp'
     have ho:getO st.ob (1000000,c)=some (.row e rows true vr []):=Z5J c▸ho
     obtain⟨q1,q2⟩:=h.row_ot ho
     have hroot:G.root (1000000,c)=v:=by
      rw[h.par (1000000,c) _ (Z1J c) ho]
      exact hc 0 v rfl
     rw[hroot]at q1
     refine⟨(G.top (1000000,c)++G.ins (1000000,c))++bs,?_,List.nodup_append.mpr ⟨q2,i2,fun b hb b' hb' e=>?_⟩,fun b hb=>?_⟩
     ·simp only[slLs,slCs,List.headD_cons,List.tail_cons]
      exact .cons _ _ _ _ _ _ _ _ q1 i1
     ·subst e
      obtain⟨i,x,hi,hx,hbo⟩:=i3 b hb'
      exact h.apart ho hx (fun e=>by have e2:c=i:=congrArg Prod.snd e;omega) (List.mem_append.mp hb) hbo
     ·rcases List.mem_append.mp hb with hb|hb
      ·exact⟨c,_,Nat.le_refl _,ho,List.mem_append.mp hb⟩
      ·obtain⟨i,x,hi,q⟩:=i3 b hb
       exact⟨i,x,by omega,q⟩
    ·cases hp
   |int k=>
    obtain⟨bs,i1,i2,i3⟩:=rest hp
    exact⟨bs,i1,i2,fun b hb=>by obtain⟨i,x,hi,q⟩:=i3 b hb;exact⟨i,x,by omega,q⟩⟩
   |bool=>
    obtain⟨bs,i1,i2,i3⟩:=rest hp
    exact⟨bs,i1,i2,fun b hb=>by obtain⟨i,x,hi,q⟩:=i3 b hb;exact⟨i,x,by omega,q⟩⟩
   |str=>
    obtain⟨bs,i1,i2,i3⟩:=rest hp
    exact⟨bs,i1,i2,fun b hb=>by obtain⟨i,x,hi,q⟩:=i3 b hb;exact⟨i,x,by omega,q⟩⟩
def MutsR (E:Env) (ps rs:List TI) (cells:List Value) (bs:List Nat) (out:List Dat) (w:World) (v:Value) (w':World):Prop:=
 Kept w.heap.size bs w w'∧∃rvs rcells outr outp bs',out=outr++outp∧outr.length=(joinLs rs).length∧v=oneOrV rvs∧PackR rs rvs rcells∧OTs E w' (joinLs rs) outr rcells []∧
  OTs E w' (slLs (joinLs ps)) outp (slCs (joinLs ps) cells) bs'∧bs'.Nodup∧∀b∈bs',b∈bs∨(w.heap.size≤b∧b<w'.heap.size)
theorem OTs.len {ls:List Leaf} {ds:List Dat} {cs:List Value} {bs:List Nat} (h:OTs E w ls ds cs bs):ds.length=ls.length∧cs.length=ls.length:=by
 induction h with
 |nil=>exact⟨rfl,rfl⟩
 |cons l d v b ls ds vs bs h1 _ ih=>simp[ih]
theorem Z1f (hE:EnvOk P E) {f:FuncId} {fn:Func} {ps rs:List TI} {cells:List Value} {bs:List Nat} (hm:E.mode f=.muts∧lsOf E fn.params.toList=some ps∨(∃q,E.mode f=.sorts q)∧lsOf E fn.params.toList.dropLast=some ps) (hrs:lsOf E fn.resultTypes.toList=some rs) (hcl:cells.length=(joinLs ps).length) {out:List Dat}
  (h:Rel E w0.heap.size bs S0 (parRoots cells) w0 fn.ntmps st a w) (hfi:finish E f fn st=some out):
  ∃v,(results fn a.tmps).run P w=.ok v w∧MutsR E ps rs cells bs out w0 v w:=by
 obtain⟨G,h⟩:=h
 have key:∃vs,resVal E st fn.results.toList=some vs∧(argsFit rs vs&&allSolid vs)=true∧finMuts (getO st.ob) rs vs (some ps)=some out:=by
  unfold finish at hfi
  rcases hm with ⟨hm,hps⟩|⟨⟨q,hm⟩,hps⟩<;>rw[hm,hrs]at hfi<;>simp only at hfi<;>split at hfi<;>try cases hfi
  ·rename_i rs' vs hrs' hvs
   cases hrs'
   obtain⟨hc,hfi⟩:=Z0 hfi
   rw[hps]at hfi
   exact⟨vs,hvs,hc,hfi⟩
  ·rename_i rs' vs hrs' hvs
   cases hrs'
   obtain⟨hc,hfi⟩:=Z0 hfi
   rw[hps]at hfi
   exact⟨vs,hvs,hc,hfi⟩
 obtain⟨vs,hvs,hc,hfi⟩:=key
 simp only[Bool.and_eq_true]at hc
 unfold finMuts at hfi
 split at hfi
 ·rename_i g ps' hg hps'
  cases hps'
  ·cases hsl:hasSl (joinLs rs)<;>rw[hsl]at hfi
   ·simp only[cond_false]at hfi
    obtain⟨outp,hp,rfl⟩:=Option.map_eq_some_iff.mp hfi
    obtain⟨us,u1,u2,u3⟩:=Zw hE h hvs
    obtain⟨rcells,bs1,p1,p2,p3,p4⟩:=Z0p hE h (ZI hE hrs) u1.symm u3 hc.1 hc.2 hg
    have:=Z3B hsl p2
    subst this
    obtain⟨bs',q1,q2,q3⟩:=Z42 h (cs:=cells) (fun i v hv=>by simp[List.getD_eq_getElem?_getD,hv]) hcl hp
    refine⟨_,u2,h.kept,us,rcells,g.ds,outp,bs',rfl,p2.len.1,rfl,p1,p2,q1,q2,fun b hb=>?_⟩
    obtain⟨i,x,_,hx,hbo⟩:=q3 b hb
    rcases hbo with hbo|hbo
    ·rcases(h.tops _ x hx b hbo).2.2 with q|q
     ·exact .inr ⟨q,h.top_lt hx b hbo⟩
     ·exact .inl q
    ·obtain⟨_,q,q'⟩:=h.F b ((h.ins _ x hx).1 b hbo)
     exact q.elim (fun q=>.inr ⟨q,q'⟩) .inl
   ·cases hfi
 ·cases hfi
end
end Go.Proofs.YtnihikajdbcoaaaGreat.Vai
namespace Go.Proofs.YtnihikajdbcoaaaGreat.Vai
open Go
section
variable {P:Program} {E:Env} {base:Nat} {M:List Nat} {S0:Nat→Prop} {R0:Id→Value} {w0:World} {nt:Nat} {G:Gh} {st:St} {a:Act} {w w':World} {look:Look}
theorem RDs.len {S:Nat→Prop} {ls:List Leaf} {ds:List Dat} {cs:List Value} (h:RDs E w S ls ds cs):ds.length=ls.length∧cs.length=ls.length:=by
 induction h with
 |nil=>exact⟨rfl,rfl⟩
 |cons l d v ls ds vs h1 _ ih=>simp[ih]
theorem RDs.frame {S S':Nat→Prop} {ls:List Leaf} {ds:List Dat} {cs:List Value} (h:RDs E w S ls ds cs) (hw:∀b,S b→w'.heap[b]?=w.heap[b]?) (hS:∀b,S b→S' b):RDs E w' S' ls ds cs:=by
 induction h with
 |nil=>exact .nil
 |cons l d v ls ds vs h1 _ ih=>exact .cons _ _ _ _ _ _ (h1.frame hw hS) ih
theorem Z4U {S:Nat→Prop} {e:TypeId} (h:∃te,E.T e=some te):RD E w S (.sl e) (.sl []) (.slice none 0 0):=by
 obtain⟨te,hte⟩:=h
 exact RD.sl e te (.sl []) none 0 (fun _ _=>undef) hte (Nat.le_refl _) (fun j r hj=>by simp[Dat.rows]at hj) (fun j i hj=>by simp[Dat.rows]at hj) (fun j i r l hj=>by simp[Dat.rows]at hj)
theorem Z3D {ob:List (Id×Obj)}:∀{ls:List Leaf} {xs:List AV} {ds:List Dat} {cells:List Value},(∀e,Leaf.sl e∈ls→∃te,E.T e=some te)→toDats look ls xs=some ds→allOld xs=true→CellsR E w S0 G ob xs cells→RDs E w S0 ls ds cells
 |[],[],ds,cells,_,hd,_,hc=>by
  simp only[toDats,Option.some.injEq]at hd
  subst hd
  have:cells=[]:=List.length_eq_zero_iff.mp hc.1.symm
  subst this
  exact .nil
 |[],_::_,_,_,_,hd,_,_=>by simp[toDats]at hd
 |_::_,[],_,_,_,hd,_,_=>by simp[toDats]at hd
 |_::_,_::_,_,[],_,_,_,hc=>by have:=hc.1;simp at this
 |l::ls,x::xs,ds,v::cells,hel,hd,ho,hc=>by
  simp only[toDats]at hd
  split at hd
  ·rename_i d hd1
   split at hd
   ·rename_i ds' hd2
    cases hd
    have ho2:allOld xs=true:=by cases x<;>simp_all [allOld]
    refine .cons _ _ _ _ _ _ ?_ (Z3D (fun e he=>hel e (by simp[he])) hd2 ho2 ⟨by have:=hc.1;simpa using this,fun i y u hy hu=>hc.2 (i+1) y u (by simpa using hy) (by simpa using hu)⟩)
    have hv:=(hc.2 0 x v rfl rfl).1
    cases l with
    |int k=>
     cases x<;>simp only[toDat,reduceCtorEq]at hd1
     obtain⟨hk,hd1⟩:=Z0 hd1
     cases hd1
     simp only[ikEq,decide_eq_true_eq]at hk
     subst hk
     cases hv
     exact .int _ (.int _)
    |bool=>
     cases x<;>simp only[toDat,reduceCtorEq]at hd1
     cases hd1
     cases hv
     exact .bool (.bool _)
    |str=>
     cases x<;>simp only[toDat,reduceCtorEq]at hd1
     cases hd1
     cases hv
     exact .str (.str _)
    |sl e=>
     cases x<;>simp only[toDat,Vai.slOf,reduceCtorEq]at hd1<;>simp only[allOld,Bool.false_eq_true]at ho
     ·obtain⟨_,hd1⟩:=Z0 hd1
      cases hd1
      cases hv
      exact Z4U (hel e (by simp))
     ·rename_i e' al r
      obtain⟨he,hd1⟩:=Z0 hd1
      cases hd1
      have he:=Z3 (a:=e) (b:=e') he
      subst he
      simp only[Bool.and_eq_true,Bool.not_eq_true']at ho
      obtain⟨ho1,_⟩:=ho
      subst ho1
      cases hv with
      |ro _ _ _ _ hr=>exact hr.mono fun b hb=>hb.elim id (fun h=>by cases h.1)
   ·cases hd
  ·cases hd
theorem Z0U {ob:List (Id×Obj)}:∀{ls:List Leaf} {xs:List AV} {ds:List Dat} {cells:List Value},mkDats ls xs=some ds→CellsR E w S0 G ob xs cells→RDs E w S0 ls ds cells
 |[],[],ds,cells,hd,hc=>by
  simp only[mkDats,Option.some.injEq]at hd
  subst hd
  have:cells=[]:=List.length_eq_zero_iff.mp hc.1.symm
  subst this
  exact .nil
 |[],_::_,_,_,hd,_=>by simp[mkDats]at hd
 |l::_,[],_,_,hd,_=>by cases l<;>simp[mkDats]at hd
 |_::_,_::_,_,[],_,hc=>by have:=hc.1;simp at this
 |l::ls,x::xs,ds,v::cells,hd,hc=>by
  have hc2:CellsR E w S0 G ob xs cells:=⟨by have:=hc.1;simpa using this,fun i y u hy hu=>hc.2 (i+1) y u (by simpa using hy) (by simpa using hu)⟩
  have hv:=(hc.2 0 x v rfl rfl).1
  have sc:∀{d ds'},toDat (fun _=>none) l x=some d→mkDats ls xs=some ds'→(∀e,l≠.sl e)→RDs E w S0 (l::ls) (d::ds') (v::cells):=fun{d ds'} h1 h2 h3=>by
   refine .cons _ _ _ _ _ _ ?_ (Z0U h2 hc2)
   cases l with
   |int k=>
    cases x<;>simp only[toDat,reduceCtorEq]at h1
    obtain⟨hk,h1⟩:=Z0 h1
    cases h1
    simp only[ikEq,decide_eq_true_eq]at hk
    subst hk
    cases hv
    exact .int _ (.int _)
   |bool=>
    cases x<;>simp only[toDat,reduceCtorEq]at h1
    cases h1
    cases hv
    exact .bool (.bool _)
   |str=>
    cases x<;>simp only[toDat,reduceCtorEq]at h1
    cases h1
    cases hv
    exact .str (.str _)
   |sl e=>exact absurd rfl (h3 e)
  cases l with
  |sl e=>
   cases x with
   |ro e' al r=>
    cases al with
    |true=>simp[mkDats]at hd
    |false=>
     simp only[mkDats]at hd
     obtain⟨he,hd2⟩:=Z0 hd
     have he:=Z3 he
     subst he
     obtain⟨ds',h2,rfl⟩:=Option.map_eq_some_iff.mp hd2
     refine .cons _ _ _ _ _ _ ?_ (Z0U h2 hc2)
     cases hv with
     |ro _ _ _ _ hr=>exact hr.mono fun b hb=>hb.elim id (fun h=>by cases h.1)
   |_=>simp[mkDats]at hd
  |int k=>
   simp only[mkDats]at hd
   split at hd
   ·rename_i d ds' h1 h2
    cases hd
    exact sc h1 h2 (fun _ h=>by cases h)
   ·cases hd
  |bool=>
   simp only[mkDats]at hd
   split at hd
   ·rename_i d ds' h1 h2
    cases hd
    exact sc h1 h2 (fun _ h=>by cases h)
   ·cases hd
  |str=>
   simp only[mkDats]at hd
   split at hd
   ·rename_i d ds' h1 h2
    cases hd
    exact sc h1 h2 (fun _ h=>by cases h)
   ·cases hd
theorem RD.tight {S S1:Nat→Prop} {l:Leaf} {d:Dat} {v:Value} (h:RD E w S l d v):∀{d1:Dat},RD E w S1 l d1 v→RD E w S1 l d v:=by
 induction h with
 |int k d=>
  intro d1 _
  exact .int k d
 |bool d=>
  intro d1 _
  exact .bool d
 |str d=>
  intro d1 _
  exact .str d
 |sl e te d A c u ht hc hl hm hr ih=>
  intro d1 h1
  generalize hv:Value.slice A d.rows.length c=v at h1
  cases h1 with
  |sl _ te2 _ A2 c2 u2 ht2 hc2 hl2 hm2 hr2=>
   simp only[Value.slice.injEq]at hv
   obtain⟨rfl,hlen,rfl⟩:=hv
   rw[ht]at ht2
   cases ht2
   have hu:∀j i,j<d.rows.length→i<te.ls.length→u2 j i=u j i:=fun j i hj hi=>by
    obtain⟨ad,q1,_,_,q2⟩:=hm j i hj hi
    obtain⟨ad2,p1,_,_,p2⟩:=hm2 j i (by omega) hi
    rw[q1]at p1
    cases p1
    rw[q2]at p2
    exact(Option.some.inj p2).symm
   rw[←hlen]
   refine .sl e te d A c u ht hc hl (fun j i hj hi=>?_) (fun j i r l hj hi=>?_)
   ·obtain⟨ad2,p1,p3,p4,p2⟩:=hm2 j i (by omega) hi
    exact⟨ad2,p1,p3,p4,by rw[p2,hu j i hj hi]⟩
   ·have hj':j<d.rows.length:=(List.getElem?_eq_some_iff.mp hj).1
    have hi':i<te.ls.length:=(List.getElem?_eq_some_iff.mp hi).1
    have:=hr2 j i _ l (List.getElem?_eq_getElem (by omega)) hi
    rw[hu j i hj' hi']at this
    exact ih j i r l hj hi this
theorem RD.any {S S1:Nat→Prop} {l:Leaf} {d:Dat} {v:Value} (h:RD E w S l d v) (hl:∀e,l≠.sl e):RD E w S1 l d v:=by
 cases h with
 |int k d=>exact .int k d
 |bool d=>exact .bool d
 |str d=>exact .str d
 |sl e=>exact absurd rfl (hl e)
theorem RDs.tight {S S1:Nat→Prop}:∀{ls:List Leaf} {ds d1:List Dat} {vs v1:List Value},RDs E w S ls ds vs→RDs E w S1 ls d1 v1→(∀(c:Nat) (e:TypeId),ls[c]?=some (.sl e)→vs[c]?=v1[c]?)→RDs E w S1 ls ds vs
 |[],_,_,_,_,.nil,_,_=>.nil
 |l::ls,_,_,_,_,.cons _ d v _ ds vs h1 h,.cons _ d1 u _ d2 us g1 g,hs=>by
  refine .cons _ _ _ _ _ _ ?_ (h.tight g fun c e hc=>by simpa using hs (c+1) e (by simpa using hc))
  by_cases hl:∃e,l=.sl e
  ·obtain⟨e,rfl⟩:=hl
   have:=hs 0 e rfl
   simp only[List.getElem?_cons_zero,Option.some.injEq]at this
   subst this
   exact h1.tight g1
  ·exact h1.any fun e he=>hl ⟨e,he⟩
theorem Z3E:∀{ls:List Leaf} {vs:List AV},oldRo ls vs=true→∀{c:Nat} {e:TypeId},ls[c]?=some (.sl e)→∃e' r,vs[c]?=some (.ro e' false r)
 |[],_,_,c,e,hc=>by simp at hc
 |l::ls,[],h,c,e,hc=>by cases l<;>simp[oldRo]at h
 |l::ls,v::vs,h,c,e,hc=>by
  cases c with
  |zero=>
   simp only[List.getElem?_cons_zero,Option.some.injEq]at hc
   subst hc
   cases v<;>simp only[oldRo,Bool.false_eq_true]at h
   rename_i e' al r
   cases al
   ·exact⟨e',r,rfl⟩
   ·simp at h
  |succ c=>
   have h2:oldRo ls vs=true:=by
    cases l with
    |sl e=>cases v<;>simp only[oldRo,Bool.false_eq_true,Bool.and_eq_true]at h;exact h.2
    |_=>simpa only[oldRo]using h
   simpa using Z3E h2 (c:=c) (e:=e) (by simpa using hc)
theorem Z2c:∀{ls:List Leaf} {vs:List AV} {ds:List Dat},mkDats ls vs=some ds→∀{c:Nat} {e:TypeId},ls[c]?=some (.sl e)→∃e' r,vs[c]?=some (.ro e' false r)
 |[],_,_,_,c,e,hc=>by simp at hc
 |l::ls,[],ds,h,c,e,hc=>by cases l<;>simp[mkDats]at h
 |l::ls,v::vs,ds,h,c,e,hc=>by
  cases c with
  |zero=>
   simp only[List.getElem?_cons_zero,Option.some.injEq]at hc
   subst hc
   cases v with
   |ro e' al r=>
    cases al with
    |true=>simp[mkDats]at h
    |false=>exact⟨e',r,rfl⟩
   |_=>simp[mkDats]at h
  |succ c=>
   have h2:∃ds',mkDats ls vs=some ds':=by
    cases l with
    |sl e'=>
     cases v with
     |ro e' al r=>
      cases al with
      |true=>simp[mkDats]at h
      |false=>
       simp only[mkDats]at h
       obtain⟨_,h⟩:=Z0 h
       obtain⟨ds',h2,_⟩:=Option.map_eq_some_iff.mp h
       exact⟨ds',h2⟩
     |_=>simp[mkDats]at h
    |_=>
     simp only[mkDats]at h
     split at h
     ·rename_i ds' _ h2;exact⟨ds',h2⟩
     ·cases h
   obtain⟨ds',h2⟩:=h2
   simpa using Z2c h2 (c:=c) (e:=e) (by simpa using hc)
theorem Z2d {al:Bool}:∀{ls:List Leaf} {ds:List Dat} {c:Nat} {e:TypeId} {rows:List (List Dat)},(datAVs al ls ds)[c]?=some (.ro e false rows)→∃e',ls[c]?=some (.sl e')
 |[],ds,c,e,rows,h=>by simp[datAVs]at h
 |l::ls,ds,c,e,rows,h=>by
  cases c with
  |zero=>
   simp only[datAVs,List.getElem?_cons_zero,Option.some.injEq]at h
   cases l<;>simp only[datAV,reduceCtorEq]at h
   exact⟨_,rfl⟩
  |succ c=>simpa using Z2d (c:=c) (by simpa[datAVs]using h)
theorem Z0F {al:Bool}:∀{ls:List Leaf} {d1 d2:List Dat},d1.length=ls.length→datAVs al ls (d1++d2)=datAVs al ls d1
 |[],_,_,_=>rfl
 |l::ls,d1,d2,h=>by
  match d1,h with
  |d::d1,h=>simp only[datAVs,List.cons_append,List.headD_cons,List.tail_cons,Z0F (al:=al) (ls:=ls) (d1:=d1) (d2:=d2) (by simpa using h)]
theorem ZY {t:Nat}:∀{ls:List Leaf} {c:Nat} {d1 d2:List Dat},d1.length=ls.length→resObjs t c ls (d1++d2)=resObjs t c ls d1
 |[],_,_,_,_=>rfl
 |l::ls,c,d1,d2,h=>by
  match d1,h with
  |d::d1,h=>
   have ih:=ZY (t:=t) (ls:=ls) (c:=c+1) (d1:=d1) (d2:=d2) (by simpa using h)
   cases l<;>simp only[resObjs,List.cons_append,List.headD_cons,List.tail_cons,ih]
def CurR (E:Env) (ti:TI) (rs:List TI) (S:Nat→Prop) (arr0:Array Value) (pg:Nat) (out:List Dat) (w:World) (v:Value) (w':World):Prop:=
 Kept w.heap.size [pg] w w'∧∃rvs rcells outr outc bs arr et,out=outr++outc∧outr.length=(joinLs rs).length∧v=oneOrV rvs∧PackR rs rvs rcells∧OTs E w' (joinLs rs) outr rcells bs∧bs.Nodup∧(∀b∈bs,w.heap.size≤b)∧
  w'.heap[pg]?=some (.cells arr et (0,0))∧RDs E w' S ti.ls outc arr.toList∧∀(c:Nat) (e:TypeId),ti.ls[c]?=some (.sl e)→arr[c]?=arr0[c]?
def curArgs:Mode→Value→List Value→List Value
 |.capt _,p,vs=>vs++[p]
 |_,p,vs=>p::vs
def curPs (E:Env) (fn:Func):Mode→Option (List TI)
 |.capt _=>lsOf E fn.params.toList
 |_=>lsOf E (fn.params.toList.drop 1)
def CurAt (P:Program) (E:Env) (f:FuncId) (g:List Dat→Option (List Dat)):Prop:=
 ∀fn pt ti ps rs dcs ds out,E.F f=some fn→(E.mode f=.cur pt∨E.mode f=.capt pt)→curPs E fn (E.mode f)=some ps→E.T pt=some ti→lsOf E fn.resultTypes.toList=some rs→g (dcs++ds)=some out→
  ∀(w:World) (S1 S:Nat→Prop) (pg:Nat) (arr:Array Value) (et:TypeId) (vs cells:List Value),w.heap[pg]?=some (.cells arr et (0,0))→¬S pg→(∀b,S1 b→S b)→(∀b,S b→b<w.heap.size)→RDs E w S1 ti.ls dcs arr.toList→PackR ps vs cells→RDs E w S (joinLs ps) ds cells→
   Calls P f (curArgs (E.mode f) (.pointer (some ⟨pg,0,none⟩)) vs).toArray w fun
    |.returned v,w'=>CurR E ti rs S1 arr pg out w v w'
    |_,_=>False
def MkR (E:Env) (ti:TI) (S:Nat→Prop) (out:List Dat) (w:World) (v:Value) (w':World):Prop:=
 Kept w.heap.size [] w w'∧∃pg arr et,v=.pointer (some ⟨pg,0,none⟩)∧w.heap.size≤pg∧w'.heap[pg]?=some (.cells arr et (0,0))∧RDs E w' S ti.ls out arr.toList
def MkAt (P:Program) (E:Env) (f:FuncId) (g:List Dat→Option (List Dat)):Prop:=
 ∀fn pt ti ps ds out,E.F f=some fn→E.mode f=.mk pt→lsOf E fn.params.toList=some ps→E.T pt=some ti→g ds=some out→
  ∀(w:World) (S:Nat→Prop) (vs cells:List Value),PackR ps vs cells→RDs E w S (joinLs ps) ds cells→(∀b,S b→b<w.heap.size)→
   Calls P f vs.toArray w fun
    |.returned v,w'=>MkR E ti S out w v w'
    |_,_=>False
def setB (w:World) (g:Nat) (b:_root_.Go.Obj):World:={w with heap:=w.heap.setIfInBounds g b}
theorem Zj {g:Nat} {b:_root_.Go.Obj} {k:Nat} (h:k≠g):(setB w g b).heap[k]?=w.heap[k]?:=by
 simp only[setB,Array.getElem?_setIfInBounds]
 rw[if_neg (fun e=>h e.symm)]
theorem Z1S {g:Nat} {b:_root_.Go.Obj} (h:g<w.heap.size):(setB w g b).heap[g]?=some b:=by
 simp only[setB,Array.getElem?_setIfInBounds,if_true,h]
theorem Ze {g:Nat} {b:_root_.Go.Obj}:(setB w g b).heap.size=w.heap.size:=by simp[setB]
theorem RelG.turnBox (h:RelG E base M S0 R0 w0 nt G st a w) {o:Id} {bt pt:TypeId} {cells:List AV} (ho:getO st.ob o=some (.box bt cells)) {g:Nat} (hroot:G.root o=.pointer (some ⟨g,0,none⟩)) (htop:G.top o=[g]) (hins:G.ins o=[]) (hg:g<w.heap.size)
  {arr':Array Value} {et':TypeId} {cells':List AV} (hl:arr'.size=cells'.length)
  (hc:∀(i:Nat) (v:AV) (x:Value),cells'[i]?=some v→arr'[i]?=some x→VR E (setB w g (.cells arr' et' (0,0))) S0 G (setO st.ob o (.box pt cells')) v x∧oneV x) (hfix:o=(1000000,0)→FixR R0 (setO st.ob o (.box pt cells')) (setB w g (.cells arr' et' (0,0)))):
  RelG E base M S0 R0 w0 nt G {st with ob:=setO st.ob o (.box pt cells')} a (setB w g (.cells arr' et' (0,0))):=by
 have hgt:g∈G.top o:=by rw[htop];simp
 obtain⟨t1,t2,t3⟩:=h.tops o _ ho g hgt
 have hold:∀b,S0 b→(setB w g (.cells arr' et' (0,0))).heap[b]?=w.heap[b]?:=fun b hb=>Zj (fun e=>t1 (e▸hb))
 have hF:∀b∈G.F,(setB w g (.cells arr' et' (0,0))).heap[b]?=w.heap[b]?:=fun b hb=>Zj (fun e=>t2 (e▸hb))
 have hother:∀o' x',getO st.ob o'=some x'→o'≠o→∀b∈G.top o',(setB w g (.cells arr' et' (0,0))).heap[b]?=w.heap[b]?:=fun o' x' hx' hne b hb=>Zj (fun e=>h.tops2 o _ o' x' ho hx' (fun e=>hne e.symm) g hgt (e▸hb))
 have hcomp:Comp (fun _=>False) E w S0 G st.ob (setB w g (.cells arr' et' (0,0))) G (setO st.ob o (.box pt cells')):=
  ⟨hold,fun b hb=>⟨hF b hb,hb⟩,fun o' t c _ hg=>by
   rw[Z1]at hg
   by_cases e:o'=o
   ·subst e;exact⟨rfl,bt,cells,ho⟩
   ·rw[if_neg e]at hg;exact⟨rfl,t,c,hg⟩,fun o' e rows dp vr hh _ hg=>by
   rw[Z1]at hg
   by_cases e:o'=o
   ·rw[if_pos e]at hg;cases hg
   ·rw[if_neg e]at hg
    refine⟨rfl,rows,dp,vr,hh,hg,rfl,Nat.le_refl _,fun hd _=>⟨hd,fun _ hx=>hx,fun te j r hte hj=>⟨r,hj,fun col e' hc hq=>⟨rfl,fun g' o0 n c hr=>?_⟩⟩⟩⟩
    refine ZD (a:=⟨g',o0+(j*te.ls.length+col),none⟩) (hother o' _ hg e g' ?_)
    obtain⟨te',_,_,h3⟩:=(h.objs o' _ hg:RowR E w _ _ rows dp hh _ _ _)
    rcases h3 with ⟨h3,_⟩|⟨g'',off,c',arr,u,bs,a1,a2,_⟩
    ·rw[h3]at hr;cases hr
    ·rw[a1]at hr;cases hr;rw[a2];simp,fun o' kl el es _ hg=>by
   rw[Z1]at hg
   by_cases e:o'=o
   ·rw[if_pos e]at hg;cases hg
   ·rw[if_neg e]at hg;exact⟨rfl,kl,el,es,hg⟩⟩
 exact h.upd o _ (.box pt cells') ho G ⟨by rw[Ze];exact h.kept.size,fun b hb hm=>(Zj (fun e=>by subst e;exact t3.elim (fun q=>by omega) hm)).trans (h.kept.heap b hb hm),h.kept.os,h.kept.tape,h.kept.output⟩ (by rw[Ze];exact Nat.le_refl _) hold (fun b hb=>⟨hF b hb,hb⟩) hother (fun _ _=>⟨rfl,rfl,rfl⟩) rfl (fun b hb=>.inl hb) hcomp
  ⟨g,arr',et',hroot,htop,hins,Z1S hg,hl,hc⟩ ⟨(fun b hb=>by rw[hins]at hb;cases hb),(by rw[hins];exact .nil)⟩ hfix
theorem Z24 (hE:EnvOk P E) {call:FuncId→List Dat→Option (List Dat)} (h:RelG E base M S0 R0 w0 nt G st a w) (hlook:∀i x,look i=some x→getO st.ob i=some x) {dst:Option Nat} (hd:inB nt dst=true) {t:Nat} (hti:t<1000000) {f:FuncId} {pt:TypeId} {ti:TI} {ps rs:List TI} (htp:E.T pt=some ti) (hel:∀e,Leaf.sl e∈joinLs ps→∃te,E.T e=some te) {args:Array Value} {pv:Value} {vs:List Value}
  (hC:∀dcs ds out,call f (dcs++ds)=some out→∀(S1 S:Nat→Prop) (pg:Nat) (arr:Array Value) (et:TypeId) (cells:List Value),pv=.pointer (some ⟨pg,0,none⟩)→w.heap[pg]?=some (.cells arr et (0,0))→¬S pg→(∀b,S1 b→S b)→(∀b,S b→b<w.heap.size)→RDs E w S1 ti.ls dcs arr.toList→PackR ps vs cells→RDs E w S (joinLs ps) ds cells→
   Calls P f args w fun
    |.returned v,w'=>CurR E ti rs S1 arr pg out w v w'
    |_,_=>False)
  {us:List AV} (hl:us.length=vs.length) (hv:∀(i:Nat) (x:AV) (v:Value),us[i]?=some x→vs[i]?=some v→VR E w S0 G st.ob x v) {p:AV} (hp:VR E w S0 G st.ob p pv) {r:OpRes} (hr:curCall call look t f pt ti ps rs us p=some r) {out:List Dat} (ho:r.o=some out):
  Calls P f args w fun
   |.returned v,w'=>Rel E base M S0 R0 w0 nt (applyD st dst (r.f out)) (a.put dst v) w'
   |_,_=>False:=by
 unfold curCall at hr
 split at hr
 ·rename_i o row
  split at hr
  ·rename_i bt cells hlk
   split at hr
   ·rename_i dcs ds hdcs hds
    obtain⟨hc,hr2⟩:=Z0 hr
    cases hr2
    simp only at ho
    simp only[Bool.and_eq_true]at hc
    obtain⟨c1,c2,c3⟩:=hc
    have hob:=hlook _ _ hlk
    cases hp with
    |ptr _ _ _ _ hp _=>
     obtain⟨_,g,hroot,rfl⟩:=hp.1 _ _ hob
     obtain⟨g',arr,et,b1,b2,b3,b4,b5,b6⟩:=(h.objs o _ hob:BoxR E w S0 G st.ob cells _ _ _)
     rw[hroot]at b1
     cases b1
     have hgt:g∈G.top o:=by rw[b2];simp
     have hglt:=h.top_lt hob g hgt
     obtain⟨t1,t2,t3⟩:=h.tops o _ hob g hgt
     have hTi:=hE.T pt ti htp
     have hcs:CellsR E w S0 G st.ob cells arr.toList:=⟨by simp[b5],fun i v x hv hx=>b6 i v x hv (by simpa using hx)⟩
     obtain⟨acells,q1,q2⟩:=Z1Q h hlook hel hl hv hds c1
     refine(hC dcs ds out ho S0 (LiveR S0 G st.ob) g arr et acells rfl b4 (fun hg=>by
      rcases hg with hg|hg|⟨o',e',rows',dp',vr',hh',h1,h2⟩
      ·exact t1 hg
      ·exact t2 hg
      ·refine h.tops2 _ _ _ _ h1 hob (fun e=>?_) g h2 hgt
       subst e
       rw[hob]at h1
       cases h1) (fun b hb=>.inl hb) (fun b hb=>h.live_lt hb.live) (Z3D hTi.elem hdcs c3 hcs) q1 q2).mono fun e w' hh=>?_
     cases e with
     |panicked c=>exact hh.elim
     |outgrown=>exact hh.elim
     |returned v=>
      obtain⟨hk,rvs,rcells,outr,outc,bs,arr',et',rfl,hlen,rfl,p1,p2,p3,p4,p5,p6,p8⟩:=hh
      have hw1:∀b,b<w.heap.size→w'.heap[b]?=(setB w g (.cells arr' et' (0,0))).heap[b]?:=fun b hb=>by
       by_cases e:b=g
       ·subst e;rw[p5,Z1S hglt]
       ·rw[Zj e];exact hk.heap b hb (by simpa using e)
      have p7:RDs E (setB w g (.cells arr' et' (0,0))) S0 ti.ls outc arr'.toList:=p6.frame (fun b hb=>(hw1 b (h.live_lt (.inl hb))).symm) (fun _ hb=>hb)
      have hcl:=p7.cells (G:=G) (ob:=setO st.ob o (.box pt (datAVs false ti.ls outc)))
      have h1:=h.turnBox hob hroot b2 b3 hglt (pt:=pt) (arr':=arr') (et':=et') (cells':=datAVs false ti.ls outc) (by have:=hcl.1;simp at this;omega) (fun i v x hv hx=>hcl.2 i v x hv (by simpa using hx)) (fun e0=>by
       intro t' cs ht' c e rows hcc
       rw[Z1,if_pos e0.symm]at ht'
       cases ht'
       obtain⟨e',he'⟩:=Z2d hcc
       obtain⟨e2,r2,hr2⟩:=Z3E c2 he'
       have hob':=hob
       rw[e0]at hob'
       obtain⟨g0,k1,k2⟩:=h.fix _ cells hob' c e2 r2 hr2
       have k3:=h.par _ _ Z0H hob'
       rw[←e0,hroot,e0,k1]at k3
       cases k3
       refine⟨g,k1,?_⟩
       rw[←k2]
       simp only[World.cell?,Z1S hglt,b4]
       have:=p8 c e' he'
       simpa using this)
      have h2:=h1.call_end hd hti (w':=w') ⟨by rw[Ze];exact hk.size,fun b hb _=>hw1 b (by rw[Ze]at hb;exact hb),hk.os,hk.tape,hk.output⟩ p1 p2 p3 (fun b hb=>by rw[Ze];exact p4 b hb)
      simp only
      rw[ZW hlen,ZY hlen,←hlen,List.drop_left]
      exact h2
   ·cases hr
  ·cases hr
 ·cases hr
theorem Z25 (hE:EnvOk P E) {call:FuncId→List Dat→Option (List Dat)} (h:RelG E base M S0 R0 w0 nt G st a w) (hlook:∀i x,look i=some x→getO st.ob i=some x) {dst:Option Nat} (hd:inB nt dst=true) {t:Nat} (hti:t<1000000) {f:FuncId} (hC:CurAt P E f (call f)) {pt:TypeId}
  (hm:E.mode f=.cur pt∨E.mode f=.capt pt) {xs:List AV} {vs:List Value} (hl:xs.length=vs.length) (hv:∀(i:Nat) (x:AV) (v:Value),xs[i]?=some x→vs[i]?=some v→VR E w S0 G st.ob x v) {r:OpRes} (hr:opCall E call look t f xs=some r) {out:List Dat} (ho:r.o=some out):
  (∃fn,E.F f=some fn)∧Calls P f vs.toArray w fun
   |.returned v,w'=>Rel E base M S0 R0 w0 nt (applyD st dst (r.f out)) (a.put dst v) w'
   |_,_=>False:=by
 unfold opCall at hr
 split at hr
 ·cases hr
 ·rename_i fn hfn
  refine⟨⟨fn,hfn⟩,?_⟩
  rcases hm with hm|hm<;>rw[hm]at hr<;>simp only at hr<;>split at hr<;>try cases hr
  ·rename_i p us ti ps rs hti' hps hrs
   match vs,hl with
   |pv::vs,hl=>
    refine Z24 hE h hlook hd hti hti' (ZI hE hps) (pv:=pv) (fun dcs ds out ho S1 S pg arr et cells e1 e2 e3 e8 e4 e5 e6 e7=>?_) (by simpa using hl) (fun i x v hx hv'=>hv (i+1) x v (by simpa using hx) (by simpa using hv')) (hv 0 p pv rfl rfl) hr ho
    subst e1
    have:=hC fn pt ti ps rs dcs ds out hfn (.inl hm) (by rw[hm];exact hps) hti' hrs ho w S1 S pg arr et vs cells e2 e3 e8 e4 e5 e6 e7
    rw[hm]at this
    exact this
  ·rename_i us p ti ps rs hsp hti' hps hrs
   have hsp:=Z1H hsp
   subst hsp
   obtain⟨vs',pv,rfl,l1,l2,l3⟩:=Z23 hl hv
   refine Z24 hE h hlook hd hti hti' (ZI hE hps) (pv:=pv) (fun dcs ds out ho S1 S pg arr et cells e1 e2 e3 e8 e4 e5 e6 e7=>?_) l1 l3 l2 hr ho
   subst e1
   have:=hC fn pt ti ps rs dcs ds out hfn (.inr hm) (by rw[hm];exact hps) hti' hrs ho w S1 S pg arr et vs' cells e2 e3 e8 e4 e5 e6 e7
   rw[hm]at this
   exact this
theorem Z4V (hE:EnvOk P E) {call:FuncId→List Dat→Option (List Dat)} (h:RelG E base M S0 R0 w0 nt G st a w) (hlook:∀i x,look i=some x→getO st.ob i=some x) {dst:Option Nat} (hd:inB nt dst=true) {t:Nat} (hti:t<1000000) {f:FuncId} (hC:MkAt P E f (call f)) {pt:TypeId}
  (hm:E.mode f=.mk pt) {xs:List AV} {vs:List Value} (hl:xs.length=vs.length) (hv:∀(i:Nat) (x:AV) (v:Value),xs[i]?=some x→vs[i]?=some v→VR E w S0 G st.ob x v) {r:OpRes} (hr:opCall E call look t f xs=some r) {out:List Dat} (ho:r.o=some out):
  (∃fn,E.F f=some fn)∧Calls P f vs.toArray w fun
   |.returned v,w'=>Rel E base M S0 R0 w0 nt (applyD st dst (r.f out)) (a.put dst v) w'
   |_,_=>False:=by
 have _:=hlook
 unfold opCall at hr
 split at hr
 ·cases hr
 ·rename_i fn hfn
  refine⟨⟨fn,hfn⟩,?_⟩
  rw[hm]at hr
  simp only at hr
  split at hr
  ·rename_i ti ps hti' hps
   split at hr
   ·rename_i ds hds
    obtain⟨hc,hr2⟩:=Z0 hr
    cases hr2
    simp only at ho
    simp only[Bool.and_eq_true]at hc
    obtain⟨c1,c2,c3⟩:=hc
    obtain⟨acells,q1,q2⟩:=Z01 hl hv c1 c2
    refine(hC fn pt ti ps ds out hfn hm hps hti' ho w S0 vs acells q1 (Z3D (ZI hE hps) hds c3 q2) (fun b hb=>h.live_lt (.inl hb))).mono fun e w' hh=>?_
    cases e with
    |panicked c=>exact hh.elim
    |outgrown=>exact hh.elim
    |returned v=>
     obtain⟨hk,pg,arr,et,rfl,hpg,p1,p2⟩:=hh
     have hsame:∀b,b<w.heap.size→w'.heap[b]?=w.heap[b]?:=fun b hb=>hk.heap b hb (by simp)
     have h0:=h.world (w':=w') ⟨Nat.le_trans h.kept.size hk.size,fun b hb hm=>(hsame b (Nat.lt_of_lt_of_le hb h.kept.size)).trans (h.kept.heap b hb hm),hk.os.trans h.kept.os,hk.tape.trans h.kept.tape,hk.output.trans h.kept.output⟩ hk.size
      (fun b hb=>hsame b (h.live_lt (.inl hb))) (fun b hb=>hsame b (h.live_lt (.inr (.inl hb)))) (fun o x hx b hb=>hsame b (h.live_lt (.inr (.inr ⟨o,x,hx,hb⟩))))
     obtain⟨h1,h2,h3⟩:=h0.after_dels [] [((t,0),.box pt (datAVs false ti.ls out))] (Zg hti 0 _)
     obtain⟨f1,f2,f3,f4⟩:=h.old_lt hpg
     have hpb:∀o x,getO (clearAll [((t,0),.box pt (datAVs false ti.ls out))] st).ob o=some x→pg∉G.top o:=fun o x hx=>by
      obtain⟨_,_,y,q2,_⟩:=h3 o x hx
      exact(f4 o y q2).1
     have key:=h1.add1 (h2 (t,0) (by simp[keys])) (.box pt (datAVs false ti.ls out)) (.pointer (some ⟨pg,0,none⟩)) [pg] [] [] h1.kept (Nat.le_refl _) (fun _ _=>rfl) (fun b hb=>by cases hb)
      (fun b hb=>by
       simp at hb;subst hb
       exact⟨f1,f2,(by simp),.inl f3,hpb⟩) (fun b hb=>by cases hb) (by simp) (by
       obtain⟨s1,s2,s3⟩:=Z0P (G:=G) (k:=(t,0)) (root:=.pointer (some ⟨pg,0,none⟩)) (top:=[pg]) (ins:=[]) (fl:=[])
       simp only[ObjR,s1,s2,s3]
       have hcl:=p2.cells (G:=G.set1 (t,0) (.pointer (some ⟨pg,0,none⟩)) [pg] [] []) (ob:=setO (clearAll [((t,0),.box pt (datAVs false ti.ls out))] st).ob (t,0) (.box pt (datAVs false ti.ls out)))
       exact⟨pg,arr,et,rfl,rfl,rfl,p1,by have:=hcl.1;simp at this;omega,fun i v x hv hx=>hcl.2 i v x hv (by simpa using hx)⟩)
     simp only
     rw[Z8]
     refine⟨_,key.putO hd (x:=.ptr (t,0) 0 0) (.ptr _ _ _ _ ⟨fun t' c' hg=>⟨rfl,pg,by simp[Gh.set1],rfl⟩,fun e rows dp vr hh te hg _=>?_,fun kl el es hg=>?_⟩ ⟨(fun _ h=>by cases h),(fun _ h=>by cases h)⟩)⟩
     all_goals
      simp only[Z1,if_true]at hg
      cases hg
   ·cases hr
  ·cases hr
def curGh (pg:Nat):Gh:=⟨fun _=>.pointer (some ⟨pg,0,none⟩),fun _=>[pg],fun _=>[],[]⟩
theorem Z4W {S:Nat→Prop} {pg:Nat} {pt:TypeId} {cs:List AV}:VR E w S (curGh pg) [((1000000,0),.box pt cs)] (.ptr (1000000,0) 0 0) (.pointer (some ⟨pg,0,none⟩)):=by
 refine .ptr _ _ _ _ ⟨fun t' c' hg=>⟨rfl,pg,rfl,rfl⟩,fun e rows dp vr hh te hg _=>?_,fun kl el es hg=>?_⟩ ⟨(fun _ h=>by cases h),(fun _ h=>by cases h)⟩
 ·have:getO [((1000000,0),Obj.box pt cs)] (1000000,0)=some (.box pt cs):=by
   simp only[getO,Z5.mpr rfl,cond_true]
  rw[this]at hg
  cases hg
 ·rw[show getO [((1000000,0),Obj.box pt cs)] (1000000,0)=some (.box pt cs)by simp only[getO,Z5.mpr rfl,cond_true]]at hg
  cases hg
def curRoots (pg:Nat) (arr:Array Value):Id→Value:=fun o=>if o.1=1000001 then arr.getD o.2 undef else .pointer (some ⟨pg,0,none⟩)
theorem Z3F {S:Nat→Prop} {pg:Nat} {arr:Array Value} {et pt:TypeId} {ti:TI} {dcs:List Dat} (hpg:w.heap[pg]?=some (.cells arr et (0,0))) (hS0:¬S pg) (hS:∀b,S b→b<w.heap.size) (hrd:RDs E w S ti.ls dcs arr.toList)
  {L:List AV} {V:List Value} (hl:L.length=V.length) (hLV:∀(i:Nat) (y:AV) (v:Value),L[i]?=some y→V[i]?=some v→VR E w S (curGh pg) [((1000000,0),.box pt (datAVs false ti.ls dcs))] y v) {n:Nat} (hN:V.length≤n):
  Rel E w.heap.size [pg] S (curRoots pg arr) w n {tm:=numbered 0 L,ob:=[((1000000,0),.box pt (datAVs false ti.ls dcs))]} {tmps:=V.toArray++Array.replicate (n-V.toArray.size) undef,defers:=[]} w:=by
 have hlt:pg<w.heap.size:=(Array.getElem?_eq_some_iff.mp hpg).1
 have hget:∀o x,getO [((1000000,0),Obj.box pt (datAVs false ti.ls dcs))] o=some x→o=(1000000,0)∧x=.box pt (datAVs false ti.ls dcs):=fun o x hx=>by
  simp only[getO]at hx
  cases hk:idEq (1000000,0) o<;>rw[hk]at hx
  ·cases hx
  ·cases hx;exact⟨(Z5.mp hk).symm,rfl⟩
 have hcl:=hrd.cells (G:=curGh pg) (ob:=[((1000000,0),.box pt (datAVs false ti.ls dcs))])
 refine⟨curGh pg,⟨⟨Nat.le_refl _,fun _ _ _=>rfl,rfl,rfl,rfl⟩,(fun b hb=>⟨hS b hb,by simp;exact fun e=>hS0 (e▸hb)⟩),(fun o x hx=>?_),(fun o x hx b hb=>?_),(fun o x o' x' hx hx' hne=>?_),(fun o x hx=>⟨(fun b hb=>by cases hb),by simp[curGh]⟩),(fun o x o' x' _ _ _ b hb=>by cases hb),(fun b hb=>by cases hb),(fun t=>Z1D hl hLV _ t),rfl,(by simp;omega),(fun o x _ hx=>by
  obtain⟨rfl,_⟩:=hget o x hx
  rfl),fun t cells ht c e rows hc=>?_⟩⟩
 ·obtain⟨rfl,rfl⟩:=hget o x hx
  exact⟨pg,arr,et,rfl,rfl,rfl,hpg,by have:=hcl.1;simp at this;omega,fun i v x hv hx=>hcl.2 i v x hv (by simpa using hx)⟩
 ·simp only[curGh,List.mem_singleton]at hb
  subst hb
  exact⟨hS0,by simp[curGh],.inr (by simp)⟩
 ·exact absurd ((hget o x hx).1.trans (hget o' x' hx').1.symm) hne
 ·refine⟨pg,rfl,?_⟩
  obtain⟨_,q⟩:=hget _ _ ht
  cases q
  have hcl1:c<arr.size:=by
   have h1:=(List.getElem?_eq_some_iff.mp hc).1
   have h2:=hcl.1
   simp only[Array.length_toList]at h2
   omega
  simp only[World.cell?,hpg,curRoots,if_true]
  simp[Array.getD,hcl1]
theorem Z26 (hE:EnvOk P E) {f:FuncId} {fn:Func} {pt:TypeId} {ti:TI} {rs:List TI} (hm:E.mode f=.cur pt∨E.mode f=.capt pt) (hti:E.T pt=some ti) (hrs:lsOf E fn.resultTypes.toList=some rs) {pg:Nat} {arr0:Array Value} {S1:Nat→Prop} {dcs:List Dat} (hS1:∀b,S1 b→S0 b) (h0:RDs E w0 S1 ti.ls dcs arr0.toList) {out:List Dat}
  (h:Rel E w0.heap.size [pg] S0 (curRoots pg arr0) w0 fn.ntmps st a w) (hfi:finish E f fn st=some out):
  ∃v,(results fn a.tmps).run P w=.ok v w∧CurR E ti rs S1 arr0 pg out w0 v w:=by
 obtain⟨G,h⟩:=h
 have key:∃vs,resVal E st fn.results.toList=some vs∧(argsFit rs vs&&allSolid vs)=true∧finCur E (getO st.ob) rs vs pt=some out:=by
  unfold finish at hfi
  rcases hm with hm|hm<;>rw[hm,hrs]at hfi<;>simp only at hfi<;>split at hfi<;>try cases hfi
  ·rename_i rs' vs hrs' hvs
   cases hrs'
   obtain⟨hc,hfi2⟩:=Z0 hfi
   exact⟨vs,hvs,hc,hfi2⟩
  ·rename_i rs' vs hrs' hvs
   cases hrs'
   obtain⟨hc,hfi2⟩:=Z0 hfi
   exact⟨vs,hvs,hc,hfi2⟩
 obtain⟨vs,hvs,hc,hfi⟩:=key
 simp only[Bool.and_eq_true]at hc
 unfold finCur at hfi
 split at hfi
 ·rename_i g ti' bt cells hg hti' hob
  rw[hti]at hti'
  cases hti'
  obtain⟨outc,hmk,rfl⟩:=Option.map_eq_some_iff.mp hfi
  obtain⟨us,u1,u2,u3⟩:=Zw hE h hvs
  obtain⟨rcells,bs,p1,p2,p3,p4⟩:=Z0p hE h (ZI hE hrs) u1.symm u3 hc.1 hc.2 hg
  obtain⟨g',arr,et,b1,b2,b3,b4,b5,b6⟩:=(h.objs (1000000,0) _ hob:BoxR E w S0 G st.ob cells _ _ _)
  rw[h.par (1000000,0) _ (Z1J 0) hob]at b1
  cases b1
  have hgt:pg∈G.top (1000000,0):=by rw[b2];simp
  have hcs:CellsR E w S0 G st.ob cells arr.toList:=⟨by simp[b5],fun i v x hv hx=>b6 i v x hv (by simpa using hx)⟩
  have hsame:∀(c:Nat) (e:TypeId),ti.ls[c]?=some (.sl e)→arr[c]?=arr0[c]?:=fun c e hc=>by
   obtain⟨e',r,hr⟩:=Z2c hmk hc
   obtain⟨g0,k1,k2⟩:=h.fix _ cells hob c e' r hr
   have k3:Value.pointer (some ⟨pg,0,none⟩)=.pointer (some ⟨g0,0,none⟩):=k1
   cases k3
   simp only[World.cell?,b4]at k2
   have hl0:=h0.len.2
   have hcl:=(List.getElem?_eq_some_iff.mp hc).1
   simp only[Array.length_toList]at hl0
   have hc0:c<arr0.size:=by omega
   have k4:arr[c]?=some (curRoots pg arr0 (1000001,c)):=by simpa using k2
   rw[k4]
   simp[curRoots,Array.getD,hc0]
  refine⟨_,u2,h.kept,us,rcells,g.ds,outc,bs,arr,et,rfl,p2.len.1,rfl,p1,p2,p3,fun b hb=>?_,b4,(Z0U hmk hcs).tight (h0.frame (fun b hb=>h.kept.heap b (h.old b (hS1 b hb)).1 (h.old b (hS1 b hb)).2) (fun _ hb=>hb)) (fun c e hc=>by simpa using hsame c e hc),hsame⟩
  obtain⟨o,x,hx,hpo,hbo⟩:=p4 b hb
  have hne:o≠(1000000,0):=fun e=>by
   subst e
   have:=Z1J 0
   rw[hpo]at this
   cases this
  rcases hbo with hbo|hbo
  ·rcases(h.tops o x hx b hbo).2.2 with q|q
   ·exact q
   ·simp at q
    subst q
    exact absurd hgt (h.tops2 o x _ _ hx hob hne b hbo)
  ·have hF:=(h.ins o x hx).1 b hbo
   rcases(h.F b hF).2.1 with q|q
   ·exact q
   ·simp at q
    subst q
    exact absurd hF (h.tops _ _ hob b hgt).2.1
 ·cases hfi
theorem Z4X (hE:EnvOk P E) {f:FuncId} {fn:Func} {pt:TypeId} {ti:TI} (hm:E.mode f=.mk pt) (hti:E.T pt=some ti) {out:List Dat}
  (h:Rel E w0.heap.size [] S0 R0 w0 fn.ntmps st a w) (hfi:finish E f fn st=some out):
  ∃v,(results fn a.tmps).run P w=.ok v w∧MkR E ti S0 out w0 v w:=by
 obtain⟨G,h⟩:=h
 unfold finish at hfi
 rw[hm]at hfi
 simp only[hti]at hfi
 split at hfi
 ·rename_i o row ti' hvs hti'
  cases hti'
  split at hfi
  ·rename_i bt cells hob
   obtain⟨us,u1,u2,u3⟩:=Zw hE h hvs
   match us,u1 with
   |[u],_=>
    have hu:=u3 0 _ u rfl rfl
    cases hu with
    |ptr _ _ _ _ hp _=>
     obtain⟨_,g,hroot,rfl⟩:=hp.1 _ _ hob
     obtain⟨g',arr,et,b1,b2,b3,b4,b5,b6⟩:=(h.objs o _ hob:BoxR E w S0 G st.ob cells _ _ _)
     rw[hroot]at b1
     cases b1
     have hgt:g∈G.top o:=by rw[b2];simp
     have hcs:CellsR E w S0 G st.ob cells arr.toList:=⟨by simp[b5],fun i v x hv hx=>b6 i v x hv (by simpa using hx)⟩
     refine⟨_,u2,h.kept,g,arr,et,rfl,?_,b4,Z0U hfi hcs⟩
     rcases(h.tops o _ hob g hgt).2.2 with q|q
     ·exact q
     ·cases q
  ·cases hfi
 ·cases hfi
end
end Go.Proofs.YtnihikajdbcoaaaGreat.Vai
