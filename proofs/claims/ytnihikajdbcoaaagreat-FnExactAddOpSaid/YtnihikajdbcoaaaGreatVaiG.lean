import Derived.Test.YtnihikajdbcoaaaGreatVaiC
namespace Go.Proofs.YtnihikajdbcoaaaGreat.Vai
open Go
section
variable {P:Program} {E:Env} {base:Nat} {M:List Nat} {S0:Nat→Prop} {R0:Id→Value} {w0:World} {nt:Nat} {G:Gh} {st:St} {a:Act} {w w':World} {look:Look}
structure NwT where
 k:Id
 e:TypeId
 d:Dat
 v:Value
 bs:List Nat
def entObjs:List NwT→List (Id×Obj)
 |[]=>[]
 |x::r=>(x.k,.row x.e x.d.rows true 0 [])::entObjs r
theorem Zm:∀(l m:List NwT),entObjs (l++m)=entObjs l++entObjs m
 |[],_=>rfl
 |x::l,m=>by simp only[List.cons_append,entObjs,Zm l m]
theorem Z0q:∀l:List NwT,keys (entObjs l)=l.map (·.k)
 |[]=>rfl
 |x::l=>by simp only[entObjs,keys,List.map_cons,Z0q l]
theorem RelG.addTrees:∀(es:List NwT) {G:Gh} {st:St},RelG E base M S0 R0 w0 nt G st a w→(∀x∈es,OT E w (.sl x.e) x.d x.v x.bs)→(es.flatMap (·.bs)).Nodup→
  (∀b∈es.flatMap (·.bs),¬S0 b∧b∉G.F∧(base≤b∨b∈M)∧∀o x,getO st.ob o=some x→b∉G.top o∧b∉G.ins o)→(∀x∈es,NoRef x.k st)→(es.map (·.k)).Nodup→
  ∃G',RelG E base M S0 R0 w0 nt G' {st with ob:=upAll (entObjs es) st.ob} a w∧(∀x∈es,G'.root x.k=x.v)∧(∀o,o∉es.map (·.k)→G'.root o=G.root o∧G'.top o=G.top o∧G'.ins o=G.ins o)
 |[],G,st,h,_,_,_,_,_=>⟨G,h,(fun x hx=>by cases hx),fun _ _=>⟨rfl,rfl,rfl⟩⟩
 |x::es,G,st,h,hot,hnd,hbs,hno,hk=>by
  simp only[List.flatMap_cons,List.nodup_append]at hnd
  obtain⟨n1,n2,n3⟩:=hnd
  simp only[List.map_cons,List.nodup_cons]at hk
  obtain⟨k1,k2⟩:=hk
  obtain⟨G1,q1,q2,q3,q4,_⟩:=h.addTree (hno x (by simp)) (hot x (by simp)) n1 (fun b hb=>hbs b (by simp only[List.flatMap_cons,List.mem_append];exact .inl hb))
  obtain⟨G',r1,r2,r3⟩:=RelG.addTrees es q1 (fun y hy=>hot y (by simp[hy])) n2 (fun b hb=>by
   obtain⟨s1,s2,s3,s4⟩:=hbs b (by simp only[List.flatMap_cons,List.mem_append];exact .inr hb)
   have hnb:b∉x.bs:=fun hb'=>n3 b hb' b hb rfl
   refine⟨s1,fun hF=>(q3 b (.inl hF)).elim s2 hnb,s3,fun o z hz=>?_⟩
   simp only[Z1]at hz
   split at hz
   ·rename_i e0
    subst e0
    exact⟨fun hb=>(q3 b (.inr (.inl hb))).elim s2 hnb,fun hb=>(q3 b (.inr (.inr hb))).elim s2 hnb⟩
   ·rename_i e0
    obtain⟨g1,g2,g3⟩:=q4 o e0
    rw[g2,g3]
    exact s4 o z hz) (fun y hy=>(hno y (by simp[hy])).set (fun e=>k1 (List.mem_map.mpr ⟨y,hy,e⟩)) (fun _ _ h=>by cases h)) k2
  refine⟨G',r1,fun y hy=>?_,fun o ho=>?_⟩
  ·rcases List.mem_cons.mp hy with rfl|hy
   ·rw[(r3 _ k1).1,q2]
   ·exact r2 y hy
  ·simp only[List.map_cons,List.mem_cons,not_or]at ho
   obtain⟨a1,a2,a3⟩:=r3 o ho.2
   obtain⟨b1,b2,b3⟩:=q4 o ho.1
   exact⟨a1.trans b1,a2.trans b2,a3.trans b3⟩
theorem OTs.ents (t:Nat):∀{ls:List Leaf} {c:Nat} {ds:List Dat} {vs:List Value} {bs:List Nat},OTs E w ls ds vs bs→∃es:List NwT,entObjs es=resObjs t c ls ds∧es.flatMap (·.bs)=bs∧
  (∀x∈es,OT E w (.sl x.e) x.d x.v x.bs∧∃i,i<ls.length∧x.k=(t,c+i))∧(es.map (·.k)).Nodup∧∀(i:Nat) (e:TypeId) (v:Value),ls[i]?=some (.sl e)→vs[i]?=some v→∃x∈es,x.k=(t,c+i)∧x.v=v
 |[],c,_,_,_,.nil=>⟨[],rfl,rfl,(fun x hx=>by cases hx),List.nodup_nil,fun i e v hi=>by simp at hi⟩
 |l::ls,c,_,_,_,.cons _ d v b _ ds vs bs h1 h=>by
  obtain⟨es,e1,e2,e3,e4,e5⟩:=OTs.ents t (c:=c+1) h
  have e3':∀x∈es,OT E w (.sl x.e) x.d x.v x.bs∧∃i,i<(l::ls).length∧x.k=(t,c+i):=fun x hx=>by
   obtain⟨q1,i,q2,q3⟩:=e3 x hx
   exact⟨q1,i+1,by simp only[List.length_cons];omega,by rw[q3];congr 1;omega⟩
  have e5':∀(i:Nat) (e:TypeId) (u:Value),(l::ls)[i+1]?=some (.sl e)→(v::vs)[i+1]?=some u→∃x∈es,x.k=(t,c+(i+1))∧x.v=u:=fun i e u hi hu=>by
   obtain⟨x,q1,q2,q3⟩:=e5 i e u (by simpa using hi) (by simpa using hu)
   exact⟨x,q1,by rw[q2];congr 1;omega,q3⟩
  have plain:(∀e,l≠.sl e)→b=[]→resObjs t c (l::ls) (d::ds)=resObjs t (c+1) ls ds→∃es:List NwT,entObjs es=resObjs t c (l::ls) (d::ds)∧es.flatMap (·.bs)=b++bs∧
    (∀x∈es,OT E w (.sl x.e) x.d x.v x.bs∧∃i,i<(l::ls).length∧x.k=(t,c+i))∧(es.map (·.k)).Nodup∧∀(i:Nat) (e:TypeId) (u:Value),(l::ls)[i]?=some (.sl e)→(v::vs)[i]?=some u→∃x∈es,x.k=(t,c+i)∧x.v=u:=fun hl hb he=>by
   subst hb
   refine⟨es,by rw[he,e1],by rw[e2];rfl,e3',e4,fun i e u hi hu=>?_⟩
   cases i with
   |zero=>simp at hi;exact absurd hi (hl e)
   |succ i=>exact e5' i e u hi hu
  cases l with
  |sl e=>
   refine⟨⟨(t,c),e,d,v,b⟩::es,by simp only[entObjs,resObjs,List.headD_cons,List.tail_cons,e1],by simp only[List.flatMap_cons,e2],fun x hx=>?_,?_,fun i e' u hi hu=>?_⟩
   ·rcases List.mem_cons.mp hx with rfl|hx
    ·exact⟨h1,0,by simp,rfl⟩
    ·exact e3' x hx
   ·simp only[List.map_cons,List.nodup_cons]
    refine⟨fun hm=>?_,e4⟩
    obtain⟨x,hx,hk⟩:=List.mem_map.mp hm
    obtain⟨_,i,_,q⟩:=e3 x hx
    rw[q]at hk
    simp only[Prod.mk.injEq,true_and]at hk
    omega
   ·cases i with
    |zero=>simp at hu;subst hu;exact⟨_,List.mem_cons_self,rfl,rfl⟩
    |succ i=>
     obtain⟨x,q1,q2⟩:=e5' i e' u hi hu
     exact⟨x,List.mem_cons_of_mem _ q1,q2⟩
  |int k=>exact plain (fun _ h=>by cases h) (by cases h1;rfl) rfl
  |bool=>exact plain (fun _ h=>by cases h) (by cases h1;rfl) rfl
  |str=>exact plain (fun _ h=>by cases h) (by cases h1;rfl) rfl
theorem Zx {t:Nat}:∀{ls:List Leaf} {c:Nat} {ds:List Dat} {vs:List Value} {bs:List Nat},OTs E w ls ds vs bs→(∀(i:Nat) (e:TypeId) (v:Value),ls[i]?=some (.sl e)→vs[i]?=some v→G.root (t,c+i)=v)→
  ∀(u:World) (ob:List (Id×Obj)),CellsR E u S0 G ob (resAVs t c ls ds) vs
 |[],c,_,_,_,.nil,_,_,_=>⟨rfl,fun i v x hv=>by simp[resAVs]at hv⟩
 |l::ls,c,_,_,_,.cons _ d v b _ ds vs bs h1 hot,hr,u,ob=>by
  have ih:=Zx (c:=c+1) hot (fun i e v' hi hv=>by
   have:=hr (i+1) e v' (by simpa using hi) (by simpa using hv)
   rw[←this];congr 2;omega) u ob
  have hd:∃y,resAVs t c (l::ls) (d::ds)=y::resAVs t (c+1) ls ds∧VR E u S0 G ob y v∧oneV v:=by
   have hone:=h1.one
   cases l with
   |sl e=>exact⟨_,rfl,.own _ _ (fun _ _ _ _ _ _=>(hr 0 e v rfl rfl).symm) hone,hone⟩
   |int k=>exact⟨_,rfl,by cases h1;exact .i _ _,hone⟩
   |bool=>exact⟨_,rfl,by cases h1;exact .b _,hone⟩
   |str=>exact⟨_,rfl,by cases h1;exact .s _,hone⟩
  obtain⟨y,e1,e2,e3⟩:=hd
  rw[e1]
  refine⟨by simp[ih.1],fun i z x hz hx=>?_⟩
  cases i with
  |zero=>simp at hz hx;subst hz;subst hx;exact⟨e2,e3⟩
  |succ i=>exact ih.2 i z x (by simpa using hz) (by simpa using hx)
structure Fl where
 o:Id
 pt:TypeId
 cells:List AV
 g:Nat
 arr:Array Value
 et:TypeId
def flObjs:List Fl→List (Id×Obj)
 |[]=>[]
 |f::r=>(f.o,.box f.pt f.cells)::flObjs r
def setBs (w:World):List Fl→World
 |[]=>w
 |f::r=>setBs (setB w f.g (.cells f.arr f.et (0,0))) r
theorem Z27:∀{fs:List Fl} {w:World},(setBs w fs).heap.size=w.heap.size
 |[],_=>rfl
 |f::fs,w=>by rw[setBs,Z27 (fs:=fs),Ze]
theorem Z0b {b:Nat}:∀{fs:List Fl} {w:World},(∀f∈fs,b≠f.g)→(setBs w fs).heap[b]?=w.heap[b]?
 |[],_,_=>rfl
 |f::fs,w,h=>by rw[setBs,Z0b (fs:=fs) (fun q hq=>h q (by simp[hq])),Zj (h f (by simp))]
theorem Z3G:∀{fs:List Fl} {w:World},(fs.map (·.g)).Nodup→∀f∈fs,f.g<w.heap.size→(setBs w fs).heap[f.g]?=some (.cells f.arr f.et (0,0))
 |[],_,_,f,hf,_=>by cases hf
 |q::fs,w,hn,f,hf,hl=>by
  simp only[List.map_cons,List.nodup_cons]at hn
  rcases List.mem_cons.mp hf with rfl|hf
  ·rw[setBs,Z0b (fun p hp e=>hn.1 (List.mem_map.mpr ⟨p,hp,e.symm⟩)),Z1S hl]
  ·rw[setBs]
   exact Z3G hn.2 f hf (by rw[Ze];exact hl)
theorem Z4Y {g:Nat} {b:_root_.Go.Obj} (h:w.heap[g]?=some b):setB w g b=w:=by
 have e:w.heap.setIfInBounds g b=w.heap:=by
  apply Array.ext_getElem?
  intro i
  rw[Array.getElem?_setIfInBounds]
  by_cases hi:g=i
  ·subst hi
   obtain⟨hlt,hb⟩:=Array.getElem?_eq_some_iff.mp h
   simp[hlt,hb]
  ·rw[if_neg hi]
 unfold setB
 rw[e]
theorem Z0r:∀{fs:List Fl},(∀f∈fs,w.heap[f.g]?=some (.cells f.arr f.et (0,0)))→setBs w fs=w
 |[],_=>rfl
 |f::fs,h=>by
  rw[setBs,Z4Y (h f (by simp))]
  exact Z0r fun q hq=>h q (by simp[hq])
theorem RelG.turnBoxes:∀(fs:List Fl) {st:St} {w:World},RelG E base M S0 R0 w0 nt G st a w→
  (∀f∈fs,f.o≠(1000000,0)∧(∃t c,getO st.ob f.o=some (.box t c))∧G.root f.o=.pointer (some ⟨f.g,0,none⟩)∧f.arr.size=f.cells.length∧∀(w:World) (ob:List (Id×Obj)) (i:Nat) (v:AV) (x:Value),f.cells[i]?=some v→f.arr[i]?=some x→VR E w S0 G ob v x∧oneV x)→
  RelG E base M S0 R0 w0 nt G {st with ob:=upAll (flObjs fs) st.ob} a (setBs w fs)
 |[],st,w,h,_=>h
 |f::fs,st,w,h,hf=>by
  obtain⟨f1,⟨t0,c0,f2⟩,f3,f4,f5⟩:=hf f (by simp)
  obtain⟨g',arr,et,b1,b2,b3,b4,b5,b6⟩:=(h.objs f.o _ f2:BoxR E w S0 G st.ob c0 _ _ _)
  rw[f3]at b1
  cases b1
  have h1:=h.turnBox f2 f3 b2 b3 (h.top_lt f2 f.g (by rw[b2];simp)) (pt:=f.pt) (arr':=f.arr) (et':=f.et) (cells':=f.cells) f4 (fun i v x hv hx=>f5 _ _ i v x hv hx) (fun e=>absurd e f1)
  exact RelG.turnBoxes fs h1 (fun q hq=>by
   obtain⟨q1,⟨t1,c1,q2⟩,q3,q4,q5⟩:=hf q (by simp[hq])
   refine⟨q1,?_,q3,q4,q5⟩
   simp only[Z1]
   by_cases e:q.o=f.o
   ·exact⟨f.pt,f.cells,if_pos e⟩
   ·rw[if_neg e];exact⟨t1,c1,q2⟩)
inductive ArgsR (E:Env) (w:World) (S:Nat→Prop):List Sty→List Dat→List Value→List Nat→Prop
 |nil:ArgsR E w S [] [] [] []
 |rd (t:TypeId) (ti:TI) (v:Value) (cs:List Value) (d:List Dat) (ss:List Sty) (ds:List Dat) (vs:List Value) (bs:List Nat) (ht:E.T t=some ti) (hp:PackR [ti] [v] cs) (hd:RDs E w S ti.ls d cs)
   (h:ArgsR E w S ss ds vs bs):ArgsR E w S (.rd t::ss) (d++ds) (v::vs) bs
 |tk (t:TypeId) (ti:TI) (v:Value) (cs:List Value) (d:List Dat) (b:List Nat) (ss:List Sty) (ds:List Dat) (vs:List Value) (bs:List Nat) (ht:E.T t=some ti) (hp:PackR [ti] [v] cs) (hd:OTs E w ti.ls d cs b)
   (h:ArgsR E w S ss ds vs bs):ArgsR E w S (.tk t::ss) (d++ds) (v::vs) (b++bs)
 |io (t:TypeId) (ti:TI) (g:Nat) (arr:Array Value) (et:TypeId) (d:List Dat) (b:List Nat) (ss:List Sty) (ds:List Dat) (vs:List Value) (bs:List Nat) (ht:E.T t=some ti) (hg:w.heap[g]?=some (.cells arr et (0,0)))
   (hd:OTs E w ti.ls d arr.toList b) (h:ArgsR E w S ss ds vs bs):ArgsR E w S (.io t::ss) (d++ds) (.pointer (some ⟨g,0,none⟩)::vs) (g::(b++bs))
 |fn (f:FuncId) (n:Nat) (arr:Array Value) (ss:List Sty) (ds:List Dat) (vs:List Value) (bs:List Nat) (hn:arr.size=n) (h:ArgsR E w S ss ds (arr.toList++vs) bs):ArgsR E w S (.fn f n::ss) ds (.func (.func f) #[] arr::vs) bs
inductive PostR (E:Env) (w:World):List Sty→List Value→List Dat→List Nat→Prop
 |nil:PostR E w [] [] [] []
 |rd (t:TypeId) (v:Value) (ss:List Sty) (vs:List Value) (ds:List Dat) (bs:List Nat) (h:PostR E w ss vs ds bs):PostR E w (.rd t::ss) (v::vs) ds bs
 |tk (t:TypeId) (v:Value) (ss:List Sty) (vs:List Value) (ds:List Dat) (bs:List Nat) (h:PostR E w ss vs ds bs):PostR E w (.tk t::ss) (v::vs) ds bs
 |io (t:TypeId) (ti:TI) (g:Nat) (arr:Array Value) (et:TypeId) (d:List Dat) (b:List Nat) (ss:List Sty) (vs:List Value) (ds:List Dat) (bs:List Nat) (ht:E.T t=some ti) (hg:w.heap[g]?=some (.cells arr et (0,0)))
   (hd:OTs E w ti.ls d arr.toList b) (h:PostR E w ss vs ds bs):PostR E w (.io t::ss) (.pointer (some ⟨g,0,none⟩)::vs) (d++ds) (g::(b++bs))
 |fn (f:FuncId) (n:Nat) (arr:Array Value) (ss:List Sty) (vs:List Value) (ds:List Dat) (bs:List Nat) (h:PostR E w ss (arr.toList++vs) ds bs):PostR E w (.fn f n::ss) (.func (.func f) #[] arr::vs) ds bs
inductive IoR (E:Env) (G:Gh):List Sty→List Value→List (Id×TypeId×List Leaf)→Prop
 |nil:IoR E G [] [] []
 |rd (t:TypeId) (v:Value) (ss:List Sty) (vs:List Value) (ios:List (Id×TypeId×List Leaf)) (h:IoR E G ss vs ios):IoR E G (.rd t::ss) (v::vs) ios
 |tk (t:TypeId) (v:Value) (ss:List Sty) (vs:List Value) (ios:List (Id×TypeId×List Leaf)) (h:IoR E G ss vs ios):IoR E G (.tk t::ss) (v::vs) ios
 |io (t:TypeId) (ti:TI) (o:Id) (g:Nat) (ss:List Sty) (vs:List Value) (ios:List (Id×TypeId×List Leaf)) (ht:E.T t=some ti) (hr:G.root o=.pointer (some ⟨g,0,none⟩)) (h:IoR E G ss vs ios):
   IoR E G (.io t::ss) (.pointer (some ⟨g,0,none⟩)::vs) ((o,t,ti.ls)::ios)
 |fn (f:FuncId) (n:Nat) (arr:Array Value) (ss:List Sty) (vs:List Value) (ios:List (Id×TypeId×List Leaf)) (h:IoR E G ss (arr.toList++vs) ios):IoR E G (.fn f n::ss) (.func (.func f) #[] arr::vs) ios
def GenR (E:Env) (ss:List Sty) (rs:List TI) (vs:List Value) (bs:List Nat) (out:List Dat) (w:World) (v:Value) (w':World):Prop:=
 Kept w.heap.size bs w w'∧∃rvs rcells b0 outr outp b1,out=outr++outp∧outr.length=(joinLs rs).length∧v=oneOrV rvs∧PackR rs rvs rcells∧OTs E w' (joinLs rs) outr rcells b0∧PostR E w' ss vs outp b1∧(b0++b1).Nodup∧∀b∈b0++b1,b∈bs∨w.heap.size≤b
def GenFor (P:Program) (E:Env) (f:FuncId) (ss:List Sty) (g:List Dat→Option (List Dat)):Prop:=
 ∀fn rs ds out,E.F f=some fn→lsOf E fn.resultTypes.toList=some rs→g ds=some out→
  ∀(w:World) (S:Nat→Prop) (vs:List Value) (bs:List Nat),ArgsR E w S ss ds vs bs→bs.Nodup→(∀b,S b→b<w.heap.size∧b∉bs)→
   Calls P f vs.toArray w fun
    |.returned v,w'=>GenR E ss rs vs bs out w v w'
    |_,_=>False
def GenAt (P:Program) (E:Env) (f:FuncId) (g:List Dat→Option (List Dat)):Prop:=
 (∀ss,E.mode f=.gen ss→GenFor P E f ss g)∧∀alts (i:Nat) ss,E.mode f=.gens alts→alts[i]?=some ss→GenFor P E f ss (fun ds=>g (.int (Int.ofNat i)::ds))
def Fl.dead (f:Fl):Fl:={f with cells:=f.cells.map fun _=>.dead}
theorem Z1K:∀(t:Nat) (ls:List Leaf) (c:Nat) (ds:List Dat),(resAVs t c ls ds).map (fun _=>AV.dead)=deads ls
 |_,[],_,_=>rfl
 |t,l::ls,c,ds=>by cases l<;>simp only[resAVs,List.map_cons,deads,Z1K t ls]
theorem OTs.ones {ls:List Leaf} {ds:List Dat} {vs:List Value} {bs:List Nat} (h:OTs E w ls ds vs bs):∀x∈vs,oneV x:=by
 induction h with
 |nil=>intro x hx;cases hx
 |cons l d v b ls ds vs bs h1 _ ih=>
  intro x hx
  rcases List.mem_cons.mp hx with rfl|hx
  ·exact h1.one
  ·exact ih x hx
theorem Z0G {t:Nat}:∀(ls:List Leaf) (c:Nat) (ds:List Dat),(resAVs t c ls ds).length=ls.length
 |[],_,_=>rfl
 |l::ls,c,ds=>by cases l<;>simp[resAVs,Z0G ls]
theorem IoR.fls {G:Gh} (t:Nat) {ss:List Sty} {vs:List Value} {ios:List (Id×TypeId×List Leaf)} (hio:IoR E G ss vs ios):∀{c:Nat} {outp:List Dat} {b1:List Nat},PostR E w ss vs outp b1→ioFit t ios=true→
  ∃(fs:List Fl) (es:List NwT),flObjs fs=ioBoxes t c ios outp∧flObjs (fs.map Fl.dead)=ioDead ios∧entObjs es=ioObjs t c ios outp∧fs.map (·.o)=ioIds ios∧
   (∀f∈fs,f.o.1≠t∧G.root f.o=.pointer (some ⟨f.g,0,none⟩)∧w.heap[f.g]?=some (.cells f.arr f.et (0,0))∧f.arr.size=f.cells.length∧(∀x∈f.arr.toList,oneV x)∧
    ∀G':Gh,(∀x∈es,G'.root x.k=x.v)→∀(u:World) (ob:List (Id×Obj)),CellsR E u S0 G' ob f.cells f.arr.toList)∧
   (∀x∈es,OT E w (.sl x.e) x.d x.v x.bs∧x.k.1=t∧c≤x.k.2)∧(es.map (·.k)).Nodup∧b1.Perm (fs.map (·.g)++es.flatMap (·.bs)):=by
 induction hio with
 |nil=>
  intro c outp b1 hp _
  cases hp
  exact⟨[],[],rfl,rfl,rfl,rfl,(fun f hf=>by cases hf),(fun x hx=>by cases hx),List.nodup_nil,List.Perm.refl _⟩
 |rd t' v ss vs ios h ih=>
  intro c outp b1 hp hf
  cases hp with
  |rd _ _ _ _ _ _ hp=>exact ih hp hf
 |tk t' v ss vs ios h ih=>
  intro c outp b1 hp hf
  cases hp with
  |tk _ _ _ _ _ _ hp=>exact ih hp hf
 |fn f n arr ss vs ios h ih=>
  intro c outp b1 hp hf
  cases hp with
  |fn _ _ _ _ _ _ _ hp=>exact ih hp hf
 |io pt ti o g ss vs ios ht hr h ih=>
  intro c outp b1 hp hf
  simp only[ioFit,Bool.and_eq_true,Bool.not_eq_true']at hf
  obtain⟨f1,f2,f3⟩:=hf
  have f2:ti.ls.length≤100:=Nat.le_of_ble_eq_true f2
  have f1:o.1≠t:=fun e=>by rw[e,Nat.beq_refl]at f1;cases f1
  cases hp with
  |io _ ti' _ arr et d b _ _ ds bs ht' hg hd hp=>
   rw[ht]at ht'
   cases ht'
   obtain⟨fs,es,e1,e2,e3,e4,e5,e6,e7,e8⟩:=ih (c:=c+100) hp f3
   obtain⟨es0,q1,q2,q3,q4,q5⟩:=hd.ents t (c:=c)
   have hdl:=hd.len.1
   have hdrop:(d++ds).drop ti.ls.length=ds:=by rw[←hdl,List.drop_left]
   refine⟨⟨o,pt,resAVs t c ti.ls d,g,arr,et⟩::fs,es0++es,?_,?_,?_,?_,fun f hf=>?_,fun x hx=>?_,?_,?_⟩
   ·simp only[flObjs,ioBoxes,hdrop,e1,ZW hdl]
   ·simp only[List.map_cons,flObjs,Fl.dead,ioDead,Z1K]
    rw[←e2]
   ·rw[Zm]
    simp only[ioObjs,hdrop,ZY hdl,q1,e3]
   ·simp only[List.map_cons,ioIds,e4]
   ·rcases List.mem_cons.mp hf with rfl|hf
    ·have hal:arr.size=ti.ls.length:=by have:=hd.len.2;simpa using this
     refine⟨f1,hr,hg,by rw[Z0G];exact hal,hd.ones,fun G' hG u ob=>Zx hd (fun i e v hi hv=>?_) u ob⟩
     obtain⟨x,x1,x2,x3⟩:=q5 i e v hi hv
     rw[←x2,hG x (by simp[x1]),x3]
    ·obtain⟨p1,p2,p3,p4,p5,p6⟩:=e5 f hf
     exact⟨p1,p2,p3,p4,p5,fun G' hG=>p6 G' fun x hx=>hG x (by simp[hx])⟩
   ·rcases List.mem_append.mp hx with hx|hx
    ·obtain⟨p1,i,p2,p3⟩:=q3 x hx
     exact⟨p1,by rw[p3],by rw[p3];simp⟩
    ·obtain⟨p1,p2,p3⟩:=e6 x hx
     exact⟨p1,p2,by omega⟩
   ·rw[List.map_append,List.nodup_append]
    refine⟨q4,e7,fun k hk k' hk' e=>?_⟩
    obtain⟨x,x1,rfl⟩:=List.mem_map.mp hk
    obtain⟨y,y1,rfl⟩:=List.mem_map.mp hk'
    obtain⟨_,i,p2,p3⟩:=q3 x x1
    have:=(e6 y y1).2.2
    rw[←e,p3]at this
    simp only at this
    omega
   ·simp only[List.map_cons,List.cons_append,List.flatMap_append,q2]
    refine List.Perm.cons _ ?_
    have h1:(b++bs).Perm (b++(fs.map (·.g)++es.flatMap (·.bs))):=List.Perm.append_left b e8
    refine h1.trans ?_
    rw[←List.append_assoc,←List.append_assoc]
    exact List.Perm.append_right _ List.perm_append_comm
theorem Z1L {o:Id}:∀{nw:List (Id×Obj)} {st:St},o∉keys nw→(∃t c,getO st.ob o=some (.box t c))→∃t c,getO (clearAll nw st).ob o=some (.box t c)
 |[],_,_,h=>h
 |(k,x)::nw,st,ho,⟨t,c,h⟩=>by
  simp only[keys,List.mem_cons,not_or]at ho
  refine Z1L (nw:=nw) ho.2 ?_
  show∃t c,getO (killO k (delO st.ob k)) o=some (.box t c)
  rw[Zt,ZP,if_neg ho.1,h]
  exact⟨t,_,rfl⟩
theorem Z3l {fs:List Fl}:∀{ob:List (Id×Obj)} {o:Id},(∃t c,getO ob o=some (.box t c))→∃t c,getO (upAll (flObjs fs) ob) o=some (.box t c):=by
 induction fs with
 |nil=>exact fun h=>h
 |cons f fs ih=>
  intro ob o h
  refine ih (ob:=setO ob f.o (.box f.pt f.cells)) ?_
  rw[Z1]
  by_cases e:o=f.o
  ·rw[if_pos e];exact⟨_,_,rfl⟩
  ·rw[if_neg e];exact h
theorem Z3H {fs:List Fl}:∀{ob:List (Id×Obj)} {o:Id} {x:Obj},getO (upAll (flObjs fs) ob) o=some x→(∃f∈fs,f.o=o)∨getO ob o=some x:=by
 induction fs with
 |nil=>exact fun h=>.inr h
 |cons f fs ih=>
  intro ob o x h
  rcases ih (ob:=setO ob f.o (.box f.pt f.cells)) h with ⟨q,hq,e⟩|h
  ·exact .inl ⟨q,List.mem_cons_of_mem _ hq,e⟩
  ·rw[Z1]at h
   by_cases e:o=f.o
   ·exact .inl ⟨f,List.mem_cons_self,e.symm⟩
   ·rw[if_neg e]at h;exact .inr h
theorem Z3I {es:List NwT}:∀{ob:List (Id×Obj)} {o:Id},o∉es.map (·.k)→getO (upAll (entObjs es) ob) o=getO ob o:=by
 induction es with
 |nil=>exact fun _=>rfl
 |cons x es ih=>
  intro ob o h
  simp only[List.map_cons,List.mem_cons,not_or]at h
  show getO (upAll (entObjs es) (setO ob x.k _)) o=_
  rw[ih h.2,Z1,if_neg h.1]
theorem RelG.gen_end (h:RelG E base M S0 R0 w0 nt G st a w) {dst:Option Nat} (hd:inB nt dst=true) {t:Nat} (hti:t<1000000) {ids:List Id} {ios:List (Id×TypeId×List Leaf)} {ss:List Sty} {vs:List Value} {bs:List Nat} {rs:List TI} {out:List Dat} {v:Value}
  (hids:∀o∈ids,∃e rows dp vr hh,getO st.ob o=some (.row e rows dp vr hh)) (hios:∀o∈ioIds ios,o≠(1000000,0)∧∃t c,getO st.ob o=some (.box t c)) (hfit:ioFit t ios=true) (hio:IoR E G ss vs ios)
  (hbs:∀b∈bs,(∃o∈ids,b∈G.top o∨b∈G.ins o)∨∃o∈ioIds ios,b∈G.top o) (hr1:(joinLs rs).length≤100) (hg:GenR E ss rs vs bs out w v w'):
  Rel E base M S0 R0 w0 nt (applyD st dst {v:=oneOr (packAll rs (resAVs t 0 (joinLs rs) out)),nw:=resObjs t 0 (joinLs rs) out++ioObjs t 100 ios (out.drop (joinLs rs).length),dl:=ids,up:=ioDead ios,up2:=ioBoxes t 100 ios (out.drop (joinLs rs).length),nm:=true}) (a.put dst v) w':=by
 obtain⟨hk,rvs,rcells,b0,outr,outp,b1,rfl,hlen,rfl,p1,p2,p3,p4,p5⟩:=hg
 obtain⟨fs,es,e1,e2,e3,e4,e5,e6,e7,e8⟩:=hio.fls (S0:=S0) t (c:=100) p3 hfit
 obtain⟨es0,z1,z2,z3,z4,z5⟩:=p2.ents t (c:=0)
 rw[←hlen,List.drop_left,ZW hlen,ZY hlen,←z1,←e3,←e1,←e2,←Zm]
 have hfo:∀f∈fs,f.o∈ioIds ios:=fun f hf=>by rw[←e4];exact List.mem_map.mpr ⟨f,hf,rfl⟩
 have hof:∀o∈ioIds ios,∃f∈fs,f.o=o:=fun o ho=>by rw[←e4]at ho;exact List.mem_map.mp ho
 have topF:∀f∈fs,G.top f.o=[f.g]∧G.ins f.o=[]:=fun f hf=>by
  obtain⟨_,tt,cc,hb⟩:=hios _ (hfo f hf)
  obtain⟨g',arr,et,q1,q2,q3,_⟩:=(h.objs f.o _ hb:BoxR E w S0 G st.ob cc _ _ _)
  rw[(e5 f hf).2.1]at q1
  cases q1
  exact⟨q2,q3⟩
 have live:∀b∈bs,∃o x,getO st.ob o=some x∧(b∈G.top o∨b∈G.ins o)∧(o∈ids∨(o∈ioIds ios∧b∈G.top o)):=fun b hb=>by
  rcases hbs b hb with ⟨o,ho,hob⟩|⟨o,ho,hob⟩
  ·obtain⟨e,rows,dp,vr,hh,hx⟩:=hids o ho
   exact⟨o,_,hx,hob,.inl ho⟩
  ·obtain⟨_,tt,cc,hx⟩:=hios o ho
   exact⟨o,_,hx,.inl hob,.inr ⟨ho,hob⟩⟩
 have own:∀o x,getO st.ob o=some x→∀b,(b∈G.top o∨b∈G.ins o)→¬S0 b∧(base≤b∨b∈M)∧b<w.heap.size:=fun o x hx b hb=>by
  rcases hb with hb|hb
  ·obtain⟨q1,_,q3⟩:=h.tops o x hx b hb
   exact⟨q1,q3,h.top_lt hx b hb⟩
  ·obtain⟨q1,q2,q3⟩:=h.F b ((h.ins o x hx).1 b hb)
   exact⟨q1,q2,q3⟩
 have bsOwn:∀b∈bs,¬S0 b∧(base≤b∨b∈M)∧b<w.heap.size:=fun b hb=>by
  obtain⟨o,x,hx,hob,_⟩:=live b hb
  exact own o x hx b hob
 have notIds:∀o∈ioIds ios,o∉ids:=fun o ho hi=>by
  obtain⟨_,tt,cc,hx⟩:=hios o ho
  obtain⟨e,rows,dp,vr,hh,hy⟩:=hids o hi
  rw[hx]at hy;cases hy
 have stay:∀o x,getO st.ob o=some x→o∉ids→∀b,(b∈G.top o∨b∈G.ins o)→b∈bs→o∈ioIds ios∧b∈G.top o:=fun o x hx ho b hb hbb=>by
  obtain⟨o',x',hx',hob',hc⟩:=live b hbb
  have heq:o'=o:=Classical.byContradiction fun hne=>h.apart hx' hx hne hob' hb
  subst heq
  rcases hc with hc|hc
  ·exact absurd hc ho
  ·exact hc
 have h1:=h.dels ids
 have hob1:∀o x,getO (delAll ids st.ob) o=some x→o∉ids∧getO st.ob o=some x:=fun o x hx=>by
  rw[ZC]at hx
  split at hx
  ·cases hx
  ·rename_i hn;exact⟨hn,hx⟩
 let F':List Nat:=(keys (delAll ids st.ob)).flatMap fun o=>G.ins o
 have hF':∀b∈F',∃o x,getO st.ob o=some x∧o∉ids∧b∈G.ins o:=fun b hb=>by
  obtain⟨o,ho,hb⟩:=List.mem_flatMap.mp hb
  obtain⟨x,hx⟩:=Z1E ho
  obtain⟨q1,q2⟩:=hob1 o x hx
  exact⟨o,x,q2,q1,hb⟩
 have h2:=h1.numb F' (fun b hb=>by
  obtain⟨o,x,hx,_,hb⟩:=hF' b hb
  exact(h.ins o x hx).1 b hb) (fun o e rows v hh hx b hb=>List.mem_flatMap.mpr ⟨o,Z1F hx,hb⟩)
 have hob2:∀o x,getO (numbO (delAll ids st.ob)) o=some x→o∉ids∧∃y,getO st.ob o=some y:=fun o x hx=>by
  rw[ZG]at hx
  obtain⟨y,hy,_⟩:=Option.bind_eq_some_iff.mp hx
  obtain⟨q1,q2⟩:=hob1 o y hy
  exact⟨q1,y,q2⟩
 have box2:∀f∈fs,∃tt cc,getO (numbO (delAll ids st.ob)) f.o=some (.box tt cc):=fun f hf=>by
  obtain⟨_,tt,cc,hx⟩:=hios _ (hfo f hf)
  rw[ZG,ZC,if_neg (notIds _ (hfo f hf)),hx]
  exact⟨tt,_,rfl⟩
 have h3:=h2.turnBoxes (fs.map Fl.dead) (fun q hq=>by
  obtain⟨f,hf,rfl⟩:=List.mem_map.mp hq
  obtain⟨q1,q2,q3,q4,q5,_⟩:=e5 f hf
  refine⟨(hios _ (hfo f hf)).1,box2 f hf,q2,by simp[Fl.dead,q4],fun u ob i y x hy hx=>?_⟩
  have:y=.dead:=by
   simp only[Fl.dead,List.getElem?_map]at hy
   obtain⟨_,_,e⟩:=Option.map_eq_some_iff.mp hy
   exact e.symm
  subst this
  have hx:f.arr[i]?=some x:=hx
  exact⟨.dead _,q5 x (by
   have:=Array.mem_of_getElem? hx
   simpa using this)⟩)
 have gne:∀b,(∀f∈fs,b≠f.g)→∀q∈fs.map Fl.dead,b≠q.g:=fun b hb q hq=>by
  obtain⟨f,hf,rfl⟩:=List.mem_map.mp hq
  exact hb f hf
 have hnd:=List.nodup_append.mp p4
 have hperm:(fs.map (·.g)++es.flatMap (·.bs)).Nodup:=e8.nodup_iff.mp hnd.2.1
 have hgn:=(List.nodup_append.mp hperm).1
 have hsame:∀b,b<w.heap.size→b∉bs→w'.heap[b]?=w.heap[b]?:=fun b hb hn=>hk.heap b hb hn
 have hgl:∀f∈fs,f.g<w.heap.size:=fun f hf=>by
  obtain⟨_,tt,cc,hx⟩:=hios _ (hfo f hf)
  exact h.top_lt hx f.g (by rw[(topF f hf).1];simp)
 have eqW:∀b,b<w.heap.size→b∉bs→(∀f∈fs,b≠f.g)→w'.heap[b]?=(setBs w (fs.map Fl.dead)).heap[b]?:=fun b hb hn hg=>by
  rw[Z0b (gne b hg),hsame b hb hn]
 have gOwn:∀f∈fs,¬S0 f.g∧f.g∉G.F:=fun f hf=>by
  obtain⟨_,tt,cc,hx⟩:=hios _ (hfo f hf)
  have:=h.tops _ _ hx f.g (by rw[(topF f hf).1];simp)
  exact⟨this.1,this.2.1⟩
 have h4:=h3.world (w':=w') ⟨Nat.le_trans h.kept.size hk.size,fun b hb hm=>(hsame b (Nat.lt_of_lt_of_le hb h.kept.size) (fun hbb=>by
   rcases(bsOwn b hbb).2.1 with q|q
   ·omega
   ·exact hm q)).trans (h.kept.heap b hb hm),hk.os.trans h.kept.os,hk.tape.trans h.kept.tape,hk.output.trans h.kept.output⟩ (by rw[Z27];exact hk.size)
  (fun b hb=>eqW b (h.live_lt (.inl hb)) (fun hbb=>(bsOwn b hbb).1 hb) (fun f hf e=>(gOwn f hf).1 (e▸hb)))
  (fun b hb=>by
   obtain⟨o,x,hx,ho,hbi⟩:=hF' b hb
   have hbF:=(h.ins o x hx).1 b hbi
   refine eqW b (own o x hx b (.inr hbi)).2.2 (fun hbb=>?_) (fun f hf e=>(gOwn f hf).2 (e▸hbF))
   exact(h.tops o x hx b (stay o x hx ho b (.inr hbi) hbb).2).2.1 hbF)
  (fun o x hx b hb=>by
   have hb:b∈G.top o:=hb
   by_cases hio':o∈ioIds ios
   ·obtain⟨f,hf,rfl⟩:=hof o hio'
    rw[(topF f hf).1]at hb
    simp only[List.mem_singleton]at hb
    subst hb
    rw[(e5 f hf).2.2.1]
    have:=Z3G (w:=w) (fs:=fs.map Fl.dead) (by rw[List.map_map];exact hgn) f.dead (List.mem_map.mpr ⟨f,hf,rfl⟩) (hgl f hf)
    exact this.symm
   ·rcases Z3H hx with ⟨q,hq,e⟩|hx
    ·obtain⟨f,hf,rfl⟩:=List.mem_map.mp hq
     exact absurd (e▸hfo f hf) hio'
    ·obtain⟨q1,y,q2⟩:=hob2 o x hx
     refine eqW b (own o y q2 b (.inl hb)).2.2 (fun hbb=>hio' (stay o y q2 q1 b (.inl hb) hbb).1) (fun f hf e=>?_)
     obtain⟨_,tt,cc,hxf⟩:=hios _ (hfo f hf)
     exact h.tops2 o y f.o _ q2 hxf (fun e'=>hio' (e'▸hfo f hf)) b hb (by rw[(topF f hf).1,e];simp))
 have hkeys:∀x∈es0++es,x.k.1=t:=fun x hx=>by
  rcases List.mem_append.mp hx with hx|hx
  ·obtain⟨_,i,_,q⟩:=z3 x hx
   rw[q]
  ·exact(e6 x hx).2.1
 obtain⟨h5,n5,_,l5⟩:=h4.clears (entObjs (es0++es)) (fun k hk=>by
  rw[Z0q]at hk
  obtain⟨x,hx,rfl⟩:=List.mem_map.mp hk
  have:=hkeys x hx
  generalize x.k=k at this
  obtain⟨k1,k2⟩:=k
  simp only at this
  subst this
  exact Z0z hti _)
 have live5:∀o x,getO (clearAll (entObjs (es0++es)) {tm:=numbT st.tm,ob:=upAll (flObjs (fs.map Fl.dead)) (numbO (delAll ids st.ob))}).ob o=some x→o∉ids∧∃y,getO st.ob o=some y:=fun o x hx=>by
  obtain⟨_,y,hy,_⟩:=l5 o x hx
  rcases Z3H hy with ⟨q,hq,e⟩|hy
  ·obtain⟨f,hf,rfl⟩:=List.mem_map.mp hq
   have e:f.o=o:=e
   subst e
   obtain⟨_,tt,cc,hxf⟩:=hios _ (hfo f hf)
   exact⟨notIds _ (hfo f hf),_,hxf⟩
  ·exact hob2 o y hy
 have allB:∀b∈(es0++es).flatMap (·.bs),(b∈b0++b1)∧∀f∈fs,b≠f.g:=fun b hb=>by
  rw[List.flatMap_append,List.mem_append,z2]at hb
  rcases hb with hb|hb
  ·exact⟨List.mem_append.mpr (.inl hb),fun f hf e=>hnd.2.2 b hb f.g (e8.mem_iff.mpr (List.mem_append.mpr (.inl (List.mem_map.mpr ⟨f,hf,rfl⟩)))) e⟩
  ·exact⟨List.mem_append.mpr (.inr (e8.mem_iff.mpr (List.mem_append.mpr (.inr hb)))),fun f hf e=>(List.nodup_append.mp hperm).2.2 f.g (List.mem_map.mpr ⟨f,hf,rfl⟩) b hb e.symm⟩
 obtain⟨G6,h6,r6,s6⟩:=h5.addTrees (es0++es) (fun x hx=>by
   rcases List.mem_append.mp hx with hx|hx
   ·exact(z3 x hx).1
   ·exact(e6 x hx).1) (by
   rw[List.flatMap_append,z2,List.nodup_append]
   refine⟨hnd.1,(List.nodup_append.mp hperm).2.1,fun b hb b' hb' e=>?_⟩
   exact hnd.2.2 b hb b' (e8.mem_iff.mpr (List.mem_append.mpr (.inr hb'))) e) (fun b hb=>by
   obtain⟨m1,m2⟩:=allB b hb
   rcases p5 b m1 with q|q
   ·obtain⟨q1,q2,q3⟩:=bsOwn b q
    have key:∀o y,getO st.ob o=some y→o∉ids→b∉G.top o∧b∉G.ins o:=fun o y hy ho=>by
     have:¬(b∈G.top o∨b∈G.ins o):=fun hob=>by
      obtain⟨c1,c2⟩:=stay o y hy ho b hob q
      obtain⟨f,hf,rfl⟩:=hof o c1
      rw[(topF f hf).1]at c2
      exact m2 f hf (by simpa using c2)
     exact not_or.mp this
    refine⟨q1,fun hF=>?_,q2,fun o x hx=>?_⟩
    ·obtain⟨o,x,hx,ho,hbi⟩:=hF' b hF
     exact(key o x hx ho).2 hbi
    ·obtain⟨c1,y,c2⟩:=live5 o x hx
     exact key o y c2 c1
   ·obtain⟨q1,q2,q3,q4⟩:=h.old_lt q
    refine⟨q1,fun hF=>?_,.inl q3,fun o x hx=>?_⟩
    ·obtain⟨o,x,hx,ho,hbi⟩:=hF' b hF
     exact(q4 o x hx).2 hbi
    ·obtain⟨c1,y,c2⟩:=live5 o x hx
     exact q4 o y c2) (fun x hx=>n5 _ (by rw[Z0q];exact List.mem_map.mpr ⟨x,hx,rfl⟩)) (by
   rw[List.map_append,List.nodup_append]
   refine⟨z4,e7,fun k hk k' hk' e=>?_⟩
   obtain⟨x,hx,rfl⟩:=List.mem_map.mp hk
   obtain⟨y,hy,rfl⟩:=List.mem_map.mp hk'
   obtain⟨_,i,i1,i2⟩:=z3 x hx
   have:=(e6 y hy).2.2
   rw[←e,i2]at this
   simp only at this
   omega)
 have hnk:∀f∈fs,f.o∉(es0++es).map (·.k):=fun f hf hm=>by
  obtain⟨x,hx,e⟩:=List.mem_map.mp hm
  have:=hkeys x hx
  rw[e]at this
  exact(e5 f hf).1 this
 have h7:=h6.turnBoxes fs (fun f hf=>by
  obtain⟨q1,q2,q3,q4,q5,q6⟩:=e5 f hf
  refine⟨(hios _ (hfo f hf)).1,?_,?_,q4,fun u ob i y x hy hx=>(q6 G6 (fun x hx=>r6 x (by simp[hx])) u ob).2 i y x hy (by simpa using hx)⟩
  ·show∃tt cc,getO (upAll (entObjs (es0++es)) _) f.o=some (.box tt cc)
   rw[Z3I (hnk f hf)]
   exact Z1L (by rw[Z0q];exact hnk f hf) (Z3l (box2 f hf))
  ·rw[(s6 f.o (hnk f hf)).1];exact q2)
 rw[Z0r (fun f hf=>(e5 f hf).2.2.1)]at h7
 have hcells:CellsR E w' S0 G6 (upAll (flObjs fs) (upAll (entObjs (es0++es)) (clearAll (entObjs (es0++es)) {tm:=numbT st.tm,ob:=upAll (flObjs (fs.map Fl.dead)) (numbO (delAll ids st.ob))}).ob)) (resAVs t 0 (joinLs rs) outr) rcells:=
  Zx p2 (fun i e v hi hv=>by
   obtain⟨x,x1,x2,x3⟩:=z5 i e v hi hv
   rw[←x2,r6 x (by simp[x1]),x3]) _ _
 obtain⟨k1,k2⟩:=ZH p1 hcells
 rw[Z8]
 exact⟨G6,h7.putO hd (Z1m k1 k2)⟩
theorem Z4w {l:Leaf} {x:AV} {g:Given} (h:give look l x=some g):∀o∈g.ids,∃e rows dp vr hh,look o=some (.row e rows dp vr hh):=by
 unfold give at h
 split at h
 ·split at h
  ·rename_i hl
   obtain⟨_,h⟩:=Z0 h
   cases h
   intro o ho
   simp only[List.mem_singleton]at ho
   subst ho
   exact⟨_,_,_,_,_,hl⟩
  ·cases h
 ·split at h
  ·rename_i hl
   obtain⟨_,h⟩:=Z0 h
   cases h
   intro o ho
   simp only[List.mem_singleton]at ho
   subst ho
   exact⟨_,_,_,_,_,hl⟩
  ·cases h
 ·cases h;intro o ho;cases ho
 ·obtain⟨_,h⟩:=Z0 h;cases h;intro o ho;cases ho
 ·obtain⟨_,h⟩:=Z0 h;cases h;intro o ho;cases ho
 ·obtain⟨_,h⟩:=Z0 h;cases h;intro o ho;cases ho
 ·cases h;intro o ho;cases ho
 ·cases h;intro o ho;cases ho
 ·cases h
theorem Z0V:∀{ls:List Leaf} {xs:List AV} {g:Givens},gives look ls xs=some g→∀o∈g.ids,∃e rows dp vr hh,look o=some (.row e rows dp vr hh)
 |[],[],g,h=>by simp only[gives,Option.some.injEq]at h;subst h;intro o ho;cases ho
 |[],_::_,g,h=>by simp[gives]at h
 |_::_,[],g,h=>by simp[gives]at h
 |l::ls,x::xs,g,h=>by
  simp only[gives]at h
  split at h
  ·rename_i g1 h1
   split at h
   ·rename_i g2 h2
    cases h
    intro o ho
    rcases List.mem_append.mp ho with ho|ho
    ·exact Z4w h1 o ho
    ·exact Z0V h2 o ho
   ·cases h
  ·cases h
theorem Z0c (h:RelG E base M S0 R0 w0 nt G st a w) (hlook:∀i x,look i=some x→getO st.ob i=some x) {ls:List Leaf} (hel:∀e,Leaf.sl e∈ls→∃te,E.T e=some te) {xs:List AV} {cs:List Value} (hc:CellsR E w S0 G st.ob xs cs) {g:Givens} (hg:gives look ls xs=some g) (hd:g.deep=true) (hn:g.ids.Nodup):
  ∃b,OTs E w ls g.ds cs b∧b.Nodup∧(∀z∈b,∃o∈g.ids,z∈G.top o∨z∈G.ins o):=by
 obtain⟨⟨bs,q1⟩,q2,q3⟩:=Z0I h hlook hel (us:=fun i=>cs.getD i undef) (fun i y hy=>by
  have hi:i<cs.length:=by rw[←hc.1];exact(List.getElem?_eq_some_iff.mp hy).1
  exact(hc.2 i y _ hy (by rw[List.getD_eq_getElem?_getD,List.getElem?_eq_getElem hi];rfl)).1) hg hn
 rw[hd]at q1
 obtain⟨all,o1,o2,o3⟩:=q1.ots (by rw[←hc.1,q3])
 refine⟨all,o1,o2,fun z hz=>?_⟩
 obtain⟨i,hi⟩:=o3 z hz
 exact q1.sub i z hi
theorem Z55 {ti:TI} {x:AV} {v:Value} (hv:VR E w S0 G st.ob x v) (hf:(argFit ti x&&solid x)=true):∃cells,PackR [ti] [v] cells∧CellsR E w S0 G st.ob (flat x) cells:=by
 simp only[Bool.and_eq_true]at hf
 obtain⟨cells,q1,q2⟩:=Z01 (rs:=[ti]) (xs:=[x]) (vs:=[v]) rfl (fun i y u hy hu=>by
  cases i with
  |zero=>simp at hy hu;subst hy;subst hu;exact hv
  |succ i=>simp at hy) (by simp[argsFit,hf.1]) (by simp[allSolid,hf.2])
 exact⟨cells,q1,by simpa[flats]using q2⟩
theorem Z02 {ids:List Id}:∀{x y:List AV},rdOk look ids (x++y)=true→rdOk look ids x=true∧rdOk look ids y=true
 |[],_,h=>⟨rfl,h⟩
 |v::x,y,h=>by
  cases v<;>simp only[List.cons_append,rdOk,Bool.and_eq_true,Bool.false_eq_true]at h⊢
  all_goals first
   |exact Z02 h
   |exact⟨⟨h.1,(Z02 h.2).1⟩,(Z02 h.2).2⟩
def OwnS (S0:Nat→Prop) (G:Gh) (ob:List (Id×Obj)) (ids:List Id) (b:Nat):Prop:=S0 b∨∃o e rows vr,getO ob o=some (.row e rows true vr [])∧o∉ids∧(b∈G.top o∨b∈G.ins o)
theorem Z4Z (h:RelG E base M S0 R0 w0 nt G st a w) {ids:List Id} {o:Id} {e:TypeId} {rows:List (List Dat)} {vr:Nat} (hg:getO st.ob o=some (.row e rows true vr [])) (hn:o∉ids):RD E w (OwnS S0 G st.ob ids) (.sl e) (.sl rows) (G.root o):=
 (RowR.anyS (S':=fun _=>False) (h.objs o _ hg:RowR E w _ _ _ _ _ _ _ _)).rd (fun _ hb=>.inr ⟨o,_,_,_,hg,hn,.inl hb⟩) (fun _ hb=>.inr ⟨o,_,_,_,hg,hn,.inr hb⟩) (fun _ hb=>hb.elim)
theorem Z56 (h:RelG E base M S0 R0 w0 nt G st a w) (hlook:∀i x,look i=some x→getO st.ob i=some x) {ids:List Id}:∀{ls:List Leaf} {xs:List AV} {ds:List Dat} {cells:List Value},(∀e,Leaf.sl e∈ls→∃te,E.T e=some te)→toDats look ls xs=some ds→rdOk look ids xs=true→CellsR E w S0 G st.ob xs cells→RDs E w (OwnS S0 G st.ob ids) ls ds cells
 |[],[],ds,cells,_,hd,_,hc=>by
  simp only[toDats,Option.some.injEq]at hd
  subst hd
  have:cells=[]:=List.length_eq_zero_iff.mp hc.1.symm
  subst this
  exact .nil
 |[],_::_,_,_,_,hd,_,_=>by simp[toDats]at hd
 |_::_,[],_,_,_,hd,_,_=>by simp[toDats]at hd
 |_::_,_::_,_,[],_,_,_,hc=>by have:=hc.1;simp at this
 |l::ls,x::xs,ds,v::cells,hel,hd,ho,hc=>by
  simp only[toDats]at hd
  split at hd
  ·rename_i d hd1
   split at hd
   ·rename_i ds' hd2
    cases hd
    have ho':=Z02 (x:=[x]) (y:=xs) ho
    refine .cons _ _ _ _ _ _ ?_ (Z56 h hlook (fun e he=>hel e (by simp[he])) hd2 ho'.2 ⟨by have:=hc.1;simpa using this,fun i y u hy hu=>hc.2 (i+1) y u (by simpa using hy) (by simpa using hu)⟩)
    have ho:=ho'.1
    have hv:=(hc.2 0 x v rfl rfl).1
    cases l with
    |int k=>
     cases x<;>simp only[toDat,reduceCtorEq]at hd1
     obtain⟨hk,hd1⟩:=Z0 hd1
     cases hd1
     simp only[ikEq,decide_eq_true_eq]at hk
     subst hk
     cases hv
     exact .int _ (.int _)
    |bool=>
     cases x<;>simp only[toDat,reduceCtorEq]at hd1
     cases hd1
     cases hv
     exact .bool (.bool _)
    |str=>
     cases x<;>simp only[toDat,reduceCtorEq]at hd1
     cases hd1
     cases hv
     exact .str (.str _)
    |sl e=>
     simp only[toDat]at hd1
     split at hd1
     ·rename_i e' r hs
      obtain⟨he,hd1⟩:=Z0 hd1
      cases hd1
      obtain⟨te,hte⟩:=hel e (by simp)
      cases hv with
      |nil=>
       simp only[Vai.slOf,Option.some.injEq,Prod.mk.injEq]at hs
       obtain⟨rfl,rfl⟩:=hs
       exact Z4U ⟨te,hte⟩
      |ro e0 al rows _ hr=>
       simp only[Vai.slOf,Option.some.injEq,Prod.mk.injEq]at hs
       obtain⟨rfl,rfl⟩:=hs
       have:=Z3 he;subst this
       simp only[rdOk,Bool.and_true,Bool.not_eq_true']at ho
       subst ho
       exact hr.mono fun b hb=>hb.elim .inl (fun h=>by cases h.1)
      |nest=>simp[rdOk]at ho
      |own o _ hr h1=>
       simp only[Vai.slOf]at hs
       split at hs
       ·rename_i e0 rows dp vr hl
        simp only[Option.some.injEq,Prod.mk.injEq]at hs
        obtain⟨rfl,rfl⟩:=hs
        have:=Z3 he;subst this
        simp only[rdOk,hl,Bool.and_true]at ho
        have hg:=hlook _ _ hl
        cases dp with
        |false=>cases ho
        |true=>
         simp only[Bool.not_eq_true']at ho
         rw[hr _ _ _ _ _ hg]
         exact Z4Z h hg fun hm=>by rw[ZQ.mpr hm]at ho;cases ho
       ·cases hs
      |vw o lo n _ hr h1=>
       simp only[Vai.slOf]at hs
       split at hs
       ·rename_i e0 rows dp vr hl
        simp only[Option.some.injEq,Prod.mk.injEq]at hs
        obtain⟨rfl,rfl⟩:=hs
        have:=Z3 he;subst this
        simp only[rdOk,hl,Bool.and_true]at ho
        have hg:=hlook _ _ hl
        cases dp with
        |false=>cases ho
        |true=>
         simp only[Bool.not_eq_true']at ho
         exact(Z4Z h hg fun hm=>by rw[ZQ.mpr hm]at ho;cases ho).win hte (hr _ _ _ _ _ _ hg hte)
       ·cases hs
      |_=>simp[Vai.slOf]at hs
     ·cases hd1
   ·cases hd
  ·cases hd
theorem Zk (hE:EnvOk P E) (h:RelG E base M S0 R0 w0 nt G st a w) (hlook:∀i x,look i=some x→getO st.ob i=some x):∀{ss:List Sty} {xs:List AV} {vs:List Value} {g:GArgs},xs.length=vs.length→
  (∀(i:Nat) (x:AV) (v:Value),xs[i]?=some x→vs[i]?=some v→VR E w S0 G st.ob x v)→genArgs E look ss xs=some g→g.ids.Nodup→(ioIds g.ios).Nodup→∀{S:Nat→Prop} {ids:List Id},(S=LiveR S0 G st.ob∨(rdOk look ids g.rds=true∧S=OwnS S0 G st.ob ids))→
  ∃bs,ArgsR E w S ss g.ds vs bs∧bs.Nodup∧(∀b∈bs,(∃o∈g.ids,b∈G.top o∨b∈G.ins o)∨∃o∈ioIds g.ios,b∈G.top o)∧(∀o∈g.ids,∃e rows dp vr hh,getO st.ob o=some (.row e rows dp vr hh))∧
   (∀o∈ioIds g.ios,o≠(1000000,0)∧∃t c,getO st.ob o=some (.box t c))∧IoR E G ss vs g.ios
 |[],[],[],g,_,_,hg,_,_,S,ids,_=>by
  simp only[genArgs,Option.some.injEq]at hg
  subst hg
  exact⟨[],.nil,List.nodup_nil,(fun b hb=>by cases hb),(fun o ho=>by cases ho),(fun o ho=>by cases ho),.nil⟩
 |[],[],_::_,g,hl,_,_,_,_,S,ids,_=>by simp at hl
 |[],_::_,_,g,_,_,hg,_,_,S,ids,_=>by simp[genArgs]at hg
 |.rd t::ss,[],_,g,_,_,hg,_,_,S,ids,_=>by simp[genArgs]at hg
 |.tk t::ss,[],_,g,_,_,hg,_,_,S,ids,_=>by simp[genArgs]at hg
 |.io t::ss,[],_,g,_,_,hg,_,_,S,ids,_=>by simp[genArgs]at hg
 |.fn f n::ss,[],_,g,_,_,hg,_,_,S,ids,_=>by simp[genArgs]at hg
 |_,_::_,[],g,hl,_,_,_,_,S,ids,_=>by simp at hl
 |.rd t::ss,x::xs,v::vs,g,hl,hv,hg,hn,hn2,S,ids,hS=>by
  simp only[genArgs]at hg
  split at hg
  ·rename_i ti ht
   split at hg
   ·rename_i d g2 hd hg2
    obtain⟨hf,hg⟩:=Z0 hg
    cases hg
    obtain⟨bs,i1,i2,i3,i4,i5,i6⟩:=Zk hE h hlook (ss:=ss) (xs:=xs) (vs:=vs) (by simpa using hl) (fun i x v hx hv'=>hv (i+1) x v (by simpa using hx) (by simpa using hv')) hg2 hn hn2 (S:=S) (ids:=ids) (hS.imp id fun⟨q1,q2⟩=>⟨(Z02 q1).2,q2⟩)
    have hvx:=hv 0 x v rfl rfl
    have hTi:=hE.T t ti ht
    have key:∃cs,PackR [ti] [v] cs∧RDs E w S ti.ls d cs:=by
     rcases hS with rfl|⟨q1,rfl⟩
     ·obtain⟨cs,c1,c2⟩:=Z1Q h hlook (ps:=[ti]) (xs:=[x]) (vs:=[v]) (ds:=d) (fun e he=>hTi.elem e (by simpa[joinLs]using he)) rfl (fun i y u hy hu=>by
       cases i with
       |zero=>simp at hy hu;subst hy;subst hu;exact hvx
       |succ i=>simp at hy) (by simpa[joinLs,flats]using hd) (by simp only[Bool.and_eq_true]at hf;simp[argsFit,hf.1])
      exact⟨cs,c1,by simpa[joinLs]using c2⟩
     ·obtain⟨cs,c1,c2⟩:=Z55 hvx hf
      exact⟨cs,c1,Z56 h hlook hTi.elem hd (Z02 q1).1 c2⟩
    obtain⟨cs,c1,c2⟩:=key
    exact⟨bs,.rd t ti v cs d ss _ vs bs ht c1 c2 i1,i2,i3,i4,i5,.rd _ _ _ _ _ i6⟩
   ·cases hg
  ·cases hg
 |.tk t::ss,x::xs,v::vs,g,hl,hv,hg,hn,hn2,S,ids,hS=>by
  simp only[genArgs]at hg
  split at hg
  ·rename_i ti ht
   split at hg
   ·rename_i d g2 hd hg2
    obtain⟨hf,hg⟩:=Z0 hg
    cases hg
    simp only[Bool.and_eq_true]at hf
    simp only[List.nodup_append]at hn
    obtain⟨n1,n2,n3⟩:=hn
    obtain⟨bs,i1,i2,i3,i4,i5,i6⟩:=Zk hE h hlook (ss:=ss) (xs:=xs) (vs:=vs) (by simpa using hl) (fun i x v hx hv'=>hv (i+1) x v (by simpa using hx) (by simpa using hv')) hg2 n2 hn2 (S:=S) (ids:=ids) hS
    have hTi:=hE.T t ti ht
    obtain⟨cs,c1,c2⟩:=Z55 (ti:=ti) (hv 0 x v rfl rfl) (by simp[hf.2])
    obtain⟨b,b1,b2,b3⟩:=Z0c h hlook hTi.elem c2 hd hf.1 n1
    have hrow:∀o∈d.ids,∃e rows dp vr hh,getO st.ob o=some (.row e rows dp vr hh):=fun o ho=>by
     obtain⟨e,rows,dp,vr,hh,q⟩:=Z0V hd o ho
     exact⟨e,rows,dp,vr,hh,hlook _ _ q⟩
    refine⟨b++bs,.tk t ti v cs d.ds b ss _ vs bs ht c1 b1 i1,?_,fun z hz=>?_,fun o ho=>?_,i5,.tk _ _ _ _ _ i6⟩
    ·rw[List.nodup_append]
     refine⟨b2,i2,fun z hz z' hz' e=>?_⟩
     subst e
     obtain⟨o,ho,hob⟩:=b3 z hz
     obtain⟨_,_,_,_,_,hx⟩:=hrow o ho
     rcases i3 z hz' with ⟨o',ho',hob'⟩|⟨o',ho',hob'⟩
     ·obtain⟨_,_,_,_,_,hx'⟩:=i4 o' ho'
      exact h.apart hx hx' (n3 o ho o' ho') hob hob'
     ·obtain⟨_,_,_,hx'⟩:=i5 o' ho'
      exact h.apart hx hx' (fun e=>by rw[e,hx']at hx;cases hx) hob (.inl hob')
    ·rcases List.mem_append.mp hz with hz|hz
     ·obtain⟨o,ho,hob⟩:=b3 z hz
      exact .inl ⟨o,List.mem_append.mpr (.inl ho),hob⟩
     ·rcases i3 z hz with ⟨o,ho,hob⟩|q
      ·exact .inl ⟨o,List.mem_append.mpr (.inr ho),hob⟩
      ·exact .inr q
    ·rcases List.mem_append.mp ho with ho|ho
     ·exact hrow o ho
     ·exact i4 o ho
   ·cases hg
  ·cases hg
 |.io t::ss,x::xs,v::vs,g,hl,hv,hg,hn,hn2,S,ids,hS=>by
  cases x with
  |ptr o row off=>
   cases off with
   |succ off=>simp[genArgs]at hg
   |zero=>
    simp only[genArgs]at hg
    split at hg
    ·rename_i ti bt cells ht hlk
     split at hg
     ·rename_i d g2 hd hg2
      obtain⟨hf,hg⟩:=Z0 hg
      cases hg
      simp only[Bool.and_eq_true,Bool.not_eq_true']at hf
      simp only[List.nodup_append]at hn
      obtain⟨n1,n2,n3⟩:=hn
      simp only[ioIds,List.nodup_cons]at hn2
      obtain⟨m1,m2⟩:=hn2
      obtain⟨bs,i1,i2,i3,i4,i5,i6⟩:=Zk hE h hlook (ss:=ss) (xs:=xs) (vs:=vs) (by simpa using hl) (fun i x v hx hv'=>hv (i+1) x v (by simpa using hx) (by simpa using hv')) hg2 n2 m2 (S:=S) (ids:=ids) hS
      have hTi:=hE.T t ti ht
      have hob:=hlook _ _ hlk
      have hvx:=hv 0 _ v rfl rfl
      cases hvx with
      |ptr _ _ _ _ hp _=>
       obtain⟨_,gg,hroot,rfl⟩:=hp.1 _ _ hob
       obtain⟨g',arr,et,b1,b2,b3,b4,b5,b6⟩:=(h.objs o _ hob:BoxR E w S0 G st.ob cells _ _ _)
       rw[hroot]at b1
       cases b1
       have hcs:CellsR E w S0 G st.ob cells arr.toList:=⟨by simp[b5],fun i v x hv hx=>b6 i v x hv (by simpa using hx)⟩
       obtain⟨b,c1,c2,c3⟩:=Z0c h hlook hTi.elem hcs hd hf.1 n1
       have hgt:gg∈G.top o:=by rw[b2];simp
       have hrow:∀o∈d.ids,∃e rows dp vr hh,getO st.ob o=some (.row e rows dp vr hh):=fun o ho=>by
        obtain⟨e,rows,dp,vr,hh,q⟩:=Z0V hd o ho
        exact⟨e,rows,dp,vr,hh,hlook _ _ q⟩
       have hne:∀o',(∃e rows dp vr hh,getO st.ob o'=some (.row e rows dp vr hh))→o≠o':=fun o' ⟨_,_,_,_,_,q⟩ e=>by
        subst e
        rw[hob]at q;cases q
       refine⟨gg::(b++bs),.io t ti gg arr et d.ds b ss _ vs bs ht b4 c1 i1,?_,fun z hz=>?_,fun o' ho'=>?_,fun o' ho'=>?_,.io _ _ _ _ _ _ _ ht hroot i6⟩
       ·rw[List.nodup_cons,List.nodup_append]
        refine⟨fun hz=>?_,c2,i2,fun z hz z' hz' e=>?_⟩
        ·rcases List.mem_append.mp hz with hz|hz
         ·obtain⟨o',ho',hob'⟩:=c3 gg hz
          obtain⟨_,_,_,_,_,q⟩:=hrow o' ho'
          exact h.apart hob q (hne o' ⟨_,_,_,_,_,q⟩) (.inl hgt) hob'
         ·rcases i3 gg hz with ⟨o',ho',hob'⟩|⟨o',ho',hob'⟩
          ·obtain⟨_,_,_,_,_,q⟩:=i4 o' ho'
           exact h.apart hob q (hne o' ⟨_,_,_,_,_,q⟩) (.inl hgt) hob'
          ·obtain⟨_,_,_,q⟩:=i5 o' ho'
           exact h.apart hob q (fun e=>m1 (e▸ho')) (.inl hgt) (.inl hob')
        ·subst e
         obtain⟨o1,ho1,hob1⟩:=c3 z hz
         obtain⟨_,_,_,_,_,q1⟩:=hrow o1 ho1
         rcases i3 z hz' with ⟨o',ho',hob'⟩|⟨o',ho',hob'⟩
         ·obtain⟨_,_,_,_,_,q⟩:=i4 o' ho'
          exact h.apart q1 q (n3 o1 ho1 o' ho') hob1 hob'
         ·obtain⟨_,_,_,q⟩:=i5 o' ho'
          exact h.apart q1 q (fun e=>by rw[e,q]at q1;cases q1) hob1 (.inl hob')
       ·rcases List.mem_cons.mp hz with rfl|hz
        ·exact .inr ⟨o,by simp[ioIds],hgt⟩
        ·rcases List.mem_append.mp hz with hz|hz
         ·obtain⟨o',ho',hob'⟩:=c3 z hz
          exact .inl ⟨o',List.mem_append.mpr (.inl ho'),hob'⟩
         ·rcases i3 z hz with ⟨o',ho',hob'⟩|⟨o',ho',hob'⟩
          ·exact .inl ⟨o',List.mem_append.mpr (.inr ho'),hob'⟩
          ·exact .inr ⟨o',by simp[ioIds,ho'],hob'⟩
       ·rcases List.mem_append.mp ho' with ho'|ho'
        ·exact hrow o' ho'
        ·exact i4 o' ho'
       ·simp only[ioIds,List.mem_cons]at ho'
        rcases ho' with rfl|ho'
        ·exact⟨(fun e=>by
          have q:=hf.2
          rw[e,Z5.mpr rfl]at q
          cases q),_,_,hob⟩
        ·exact i5 o' ho'
     ·cases hg
    ·cases hg
  |_=>simp[genArgs]at hg
 |.fn f n::ss,x::xs,v::vs,g,hl,hv,hg,hn,hn2,S,ids,hS=>by
  cases x with
  |fn f' caps=>
   simp only[genArgs]at hg
   obtain⟨hf,hg'⟩:=Z0 hg
   clear hg
   simp only[Bool.and_eq_true]at hf
   have hf1:=Z3 hf.1
   have hf2:=Z3 hf.2
   subst hf1
   have hvx:=hv 0 _ v rfl rfl
   cases hvx with
   |fn _ _ arr hal har=>
    obtain⟨bs,i1,i2,i3,i4,i5,i6⟩:=Zk hE h hlook (ss:=ss) (xs:=caps++xs) (vs:=arr.toList++vs) (by simp[hal];simpa using hl) (fun i x v hx hv'=>by
     by_cases hi:i<caps.length
     ·rw[List.getElem?_append_left hi]at hx
      rw[List.getElem?_append_left (by simp;omega)]at hv'
      exact har i x v hx (by simpa using hv')
     ·rw[List.getElem?_append_right (by omega)]at hx
      rw[List.getElem?_append_right (by simp;omega)]at hv'
      exact hv (i-caps.length+1) x v (by simpa using hx) (by rw[List.getElem?_cons_succ,←hv'];congr 1;simp[hal])) hg' hn hn2 (S:=S) (ids:=ids) hS
    exact⟨bs,.fn f n arr ss _ vs bs (by rw[←hal];exact hf2) i1,i2,i3,i4,i5,.fn _ _ _ _ _ _ i6⟩
  |_=>simp[genArgs]at hg
theorem PostR.noIo {ss:List Sty} {vs:List Value} {ds:List Dat} {bs:List Nat} (hp:PostR E w' ss vs ds bs) {G:Gh} (hio:IoR E G ss vs []):ds=[]:=by
 induction hp with
 |nil=>rfl
 |rd t v ss vs ds bs h ih=>cases hio with|rd _ _ _ _ _ q=>exact ih q
 |tk t v ss vs ds bs h ih=>cases hio with|tk _ _ _ _ _ q=>exact ih q
 |io=>cases hio
 |fn f n arr ss vs ds bs h ih=>cases hio with|fn _ _ _ _ _ _ q=>exact ih q
theorem Z28 (hE:EnvOk P E) {call:FuncId→List Dat→Option (List Dat)} (h:RelG E base M S0 R0 w0 nt G st a w) (hlook:∀i x,look i=some x→getO st.ob i=some x) {dst:Option Nat} (hd:inB nt dst=true) {t:Nat} (hti:t<1000000) {f:FuncId} {ss:List Sty} (hC:GenFor P E f ss (call f)) {fn:Func} (hfn:E.F f=some fn) {rs:List TI} (hrs:lsOf E fn.resultTypes.toList=some rs)
  {xs:List AV} {vs:List Value} (hl:xs.length=vs.length) (hv:∀(i:Nat) (x:AV) (v:Value),xs[i]?=some x→vs[i]?=some v→VR E w S0 G st.ob x v) {r:OpRes} (hr:genCall E call look t f rs ss xs=some r) {out:List Dat} (ho:r.o=some out):
  Calls P f vs.toArray w fun
   |.returned v,w'=>Rel E base M S0 R0 w0 nt (applyD st dst (r.f out)) (a.put dst v) w'
   |_,_=>False:=by
 unfold genCall at hr
 split at hr
 ·rename_i g hg
  cases hno:noneOf g with
  |true=>
   rw[hno]at hr
   cases hr
   simp only at ho
   have hids:g.ids=[]∧g.ios=[]:=by
    unfold noneOf at hno
    split at hno
    ·rename_i q1 q2;exact⟨q1,q2⟩
    ·cases hno
   obtain⟨bs,i1,i2,i3,i4,i5,i6⟩:=Zk hE h hlook hl hv hg (by rw[hids.1];exact List.nodup_nil) (by rw[hids.2];exact List.nodup_nil) (S:=LiveR S0 G st.ob) (ids:=[]) (.inl rfl)
   have hbs:bs=[]:=by
    cases bs with
    |nil=>rfl
    |cons b bs=>
     rcases i3 b (by simp)with ⟨o,ho,_⟩|⟨o,ho,_⟩
     ·rw[hids.1]at ho;cases ho
     ·rw[hids.2]at ho;cases ho
   subst hbs
   refine(hC fn rs g.ds out hfn hrs ho w (LiveR S0 G st.ob) vs [] i1 i2 (fun b hb=>⟨h.live_lt hb.live,by simp⟩)).mono fun e w' hh=>?_
   cases e with
   |panicked c=>exact hh.elim
   |outgrown=>exact hh.elim
   |returned v=>
    obtain⟨hk,rvs,rcells,b0,outr,outp,b1,rfl,hlen,rfl,p1,p2,p3,p4,p5⟩:=hh
    rw[hids.2]at i6
    have:=p3.noIo i6
    subst this
    rw[List.append_nil]
    exact h.call_end hd hti hk p1 p2 (List.nodup_append.mp p4).1 (fun b hb=>by
     rcases p5 b (List.mem_append.mpr (.inl hb))with q|q
     ·cases q
     ·exact q)
  |false=>
   rw[hno]at hr
   simp only[cond_false]at hr
   obtain⟨hc,hr⟩:=Z0 hr
   cases hr
   simp only at ho
   simp only[Bool.and_eq_true]at hc
   obtain⟨c1,c2,c3,c4,c5⟩:=hc
   obtain⟨bs,i1,i2,i3,i4,i5,i6⟩:=Zk hE h hlook hl hv hg (ZA.mp c1) (ZA.mp c2) (S:=OwnS S0 G st.ob g.ids) (ids:=g.ids) (.inr ⟨c3,rfl⟩)
   refine(hC fn rs g.ds out hfn hrs ho w (OwnS S0 G st.ob g.ids) vs bs i1 i2 (fun b hb=>?_)).mono fun e w' hh=>?_
   ·have hown:∀o x,getO st.ob o=some x→(b∈G.top o∨b∈G.ins o)→¬S0 b∧b<w.heap.size:=fun o x hx hob=>by
     rcases hob with hob|hob
     ·exact⟨(h.tops o _ hx b hob).1,h.top_lt hx b hob⟩
     ·have:=h.F b ((h.ins o _ hx).1 b hob)
      exact⟨this.1,this.2.2⟩
    have hin:b∈bs→∃o' x',getO st.ob o'=some x'∧(b∈G.top o'∨b∈G.ins o')∧(o'∈g.ids∨∃tt cc,getO st.ob o'=some (.box tt cc)):=fun hbb=>by
     rcases i3 b hbb with ⟨o,ho,hob⟩|⟨o,ho,hob⟩
     ·obtain⟨_,_,_,_,_,hx⟩:=i4 o ho
      exact⟨o,_,hx,hob,.inl ho⟩
     ·obtain⟨_,tt,cc,hx⟩:=i5 o ho
      exact⟨o,_,hx,.inl hob,.inr ⟨tt,cc,hx⟩⟩
    rcases hb with hb|⟨o,e,rows,vr,hx,hn,hob⟩
    ·refine⟨h.live_lt (.inl hb),fun hbb=>?_⟩
     obtain⟨o',x',hx',hob',_⟩:=hin hbb
     exact(hown o' x' hx' hob').1 hb
    ·refine⟨(hown o _ hx hob).2,fun hbb=>?_⟩
     obtain⟨o',x',hx',hob',hc'⟩:=hin hbb
     refine h.apart hx hx' (fun e=>?_) hob hob'
     subst e
     rcases hc' with hc'|⟨tt,cc,hc'⟩
     ·exact hn hc'
     ·rw[hx]at hc';cases hc'
   ·cases e with
    |panicked c=>exact hh.elim
    |outgrown=>exact hh.elim
    |returned v=>exact h.gen_end hd hti i4 i5 c4 i6 i3 (Nat.le_of_ble_eq_true c5) hh
 ·cases hr
theorem Z29 (hE:EnvOk P E) {call:FuncId→List Dat→Option (List Dat)} (h:RelG E base M S0 R0 w0 nt G st a w) (hlook:∀i x,look i=some x→getO st.ob i=some x) {dst:Option Nat} (hd:inB nt dst=true) {t:Nat} (hti:t<1000000) {f:FuncId} (hC:GenAt P E f (call f))
  (hm:(∃ss,E.mode f=.gen ss)∨∃alts,E.mode f=.gens alts) {xs:List AV} {vs:List Value} (hl:xs.length=vs.length) (hv:∀(i:Nat) (x:AV) (v:Value),xs[i]?=some x→vs[i]?=some v→VR E w S0 G st.ob x v) {r:OpRes} (hr:opCall E call look t f xs=some r) {out:List Dat} (ho:r.o=some out):
  (∃fn,E.F f=some fn)∧Calls P f vs.toArray w fun
   |.returned v,w'=>Rel E base M S0 R0 w0 nt (applyD st dst (r.f out)) (a.put dst v) w'
   |_,_=>False:=by
 unfold opCall at hr
 split at hr
 ·cases hr
 ·rename_i fn hfn
  refine⟨⟨fn,hfn⟩,?_⟩
  rcases hm with ⟨ss,hm⟩|⟨alts,hm⟩
  ·rw[hm]at hr
   simp only at hr
   split at hr
   ·rename_i rs hrs
    exact Z28 hE h hlook hd hti (hC.1 ss hm) hfn hrs hl hv hr ho
   ·cases hr
  ·rw[hm]at hr
   simp only at hr
   split at hr
   ·rename_i rs hrs
    have key:∀(l:List (List Sty)) (i:Nat),(∀k ss,l[k]?=some ss→alts[i+k]?=some ss)→gensCall E call look t f rs xs i l=some r→Calls P f vs.toArray w fun
      |.returned v,w'=>Rel E base M S0 R0 w0 nt (applyD st dst (r.f out)) (a.put dst v) w'
      |_,_=>False:=by
     intro l
     induction l with
     |nil=>intro i _ hr;cases hr
     |cons ss l ih=>
      intro i hal hr
      simp only[gensCall]at hr
      cases hf:fnFit ss xs with
      |true=>
       rw[hf]at hr
       exact Z28 (call:=fun f ds=>call f (.int (Int.ofNat i)::ds)) hE h hlook hd hti (hC.2 alts i ss hm (by simpa using hal 0 ss rfl)) hfn hrs hl hv hr ho
      |false=>
       rw[hf]at hr
       exact ih (i+1) (fun k ss' hk=>by have:=hal (k+1) ss' (by simpa using hk);rw[←this];congr 1;omega) hr
    exact key alts 0 (fun k ss hk=>by simpa using hk) hr
   ·cases hr
inductive IoAt (R:Id→Value):Nat→List Sty→List Value→Prop
 |nil (j:Nat):IoAt R j [] []
 |rd (j:Nat) (t:TypeId) (v:Value) (ss:List Sty) (vs:List Value) (h:IoAt R (j+1) ss vs):IoAt R j (.rd t::ss) (v::vs)
 |tk (j:Nat) (t:TypeId) (v:Value) (ss:List Sty) (vs:List Value) (h:IoAt R (j+1) ss vs):IoAt R j (.tk t::ss) (v::vs)
 |io (j:Nat) (t:TypeId) (g:Nat) (ss:List Sty) (vs:List Value) (hr:R (2000000+j,0)=.pointer (some ⟨g,0,none⟩)) (h:IoAt R (j+1) ss vs):IoAt R j (.io t::ss) (.pointer (some ⟨g,0,none⟩)::vs)
 |fn (j:Nat) (f:FuncId) (n:Nat) (arr:Array Value) (ss:List Sty) (vs:List Value) (h:IoAt R (j+1) ss (arr.toList++vs)):IoAt R j (.fn f n::ss) (.func (.func f) #[] arr::vs)
structure InitR (E:Env) (w:World) (S:Nat→Prop) (j:Nat) (ss:List Sty) (vs:List Value) (bs:List Nat) (gi:GInit) (fs:List Fl) (es:List NwT):Prop where
 len:gi.avs.length=vs.length
 objs:entObjs es=gi.objs
 boxs:flObjs fs=gi.boxs
 dead:flObjs (fs.map Fl.dead)=gi.dead
 fl:∀f∈fs,(∃k,j≤k∧k<j+ss.length∧f.o=(2000000+k,0))∧w.heap[f.g]?=some (.cells f.arr f.et (0,0))∧f.arr.size=f.cells.length∧∀x∈f.arr.toList,oneV x
 flk:(fs.map (·.o)).Nodup
 ent:∀x∈es,OT E w (.sl x.e) x.d x.v x.bs∧∃k,j≤k∧k<j+ss.length∧x.k.1=900000+k
 entk:(es.map (·.k)).Nodup
 perm:bs.Perm (fs.map (·.g)++es.flatMap (·.bs))
 vals:∀G':Gh,(∀x∈es,G'.root x.k=x.v)→(∀f∈fs,G'.root f.o=.pointer (some ⟨f.g,0,none⟩))→(∀f∈fs,∀(u:World) (ob:List (Id×Obj)),CellsR E u S G' ob f.cells f.arr.toList)∧
  ∀ob:List (Id×Obj),(∀f∈fs,∃t c,getO ob f.o=some (.box t c))→∀(i:Nat) (y:AV) (v:Value),gi.avs[i]?=some y→vs[i]?=some v→VR E w S G' ob y v
 at_:∀R:Id→Value,(∀f∈fs,R f.o=.pointer (some ⟨f.g,0,none⟩))→IoAt R j ss vs
theorem Z3J {S:Nat→Prop} {ti:TI} {v:Value} {cs:List Value} {ob:List (Id×Obj)} {avs:List AV} (hp:PackR [ti] [v] cs) (hl:avs.length=ti.ls.length) (hc:CellsR E w S G ob avs cs):VR E w S G ob (pack ti.agg avs) v:=by
 obtain⟨_,k2⟩:=ZH hp hc
 have:=k2 0 _ v rfl rfl
 rwa [←hl,List.take_length]at this
theorem Z2A {al:Bool}:∀(ls:List Leaf) (ds:List Dat),(datAVs al ls ds).length=ls.length
 |[],_=>rfl
 |l::ls,ds=>by simp[datAVs,Z2A ls]
theorem ArgsR.init {S:Nat→Prop} {ss:List Sty} {ds:List Dat} {vs:List Value} {bs:List Nat} (ha:ArgsR E w S ss ds vs bs):∀{j:Nat} {gi:GInit},genInit E j ss ds=some gi→∃fs es,InitR E w S j ss vs bs gi fs es:=by
 induction ha with
 |nil=>
  intro j gi hg
  simp only[genInit,Option.some.injEq]at hg
  subst hg
  exact⟨[],[],⟨rfl,rfl,rfl,rfl,(fun f hf=>by cases hf),List.nodup_nil,(fun x hx=>by cases hx),List.nodup_nil,List.Perm.refl _,fun G' _ _=>⟨(fun f hf=>by cases hf),fun ob _ i y v hy=>by simp at hy⟩,fun R _=>.nil j⟩⟩
 |rd t ti v cs d ss ds vs bs ht hp hd h ih=>
  intro j gi hg
  have hdl:=hd.len.1
  simp only[genInit,ht]at hg
  rw[←hdl,List.drop_left]at hg
  split at hg
  ·rename_i g2 hg2
   cases hg
   obtain⟨fs,es,r⟩:=ih hg2
   refine⟨fs,es,⟨by simp[r.len],r.objs,r.boxs,r.dead,fun f hf=>?_,r.flk,fun x hx=>?_,r.entk,r.perm,fun G' h1 h2=>⟨(r.vals G' h1 h2).1,fun ob hob i y u hy hu=>?_⟩,fun R hR=>.rd _ _ _ _ _ (r.at_ R hR)⟩⟩
   ·obtain⟨⟨k,k1,k2,k3⟩,q⟩:=r.fl f hf
    exact⟨⟨k,by omega,by simp only[List.length_cons];omega,k3⟩,q⟩
   ·obtain⟨q,k,k1,k2,k3⟩:=r.ent x hx
    exact⟨q,k,by omega,by simp only[List.length_cons];omega,k3⟩
   ·cases i with
    |zero=>
     simp only[List.getElem?_cons_zero,Option.some.injEq]at hy hu
     subst hy;subst hu
     rw[Z0F hdl]
     exact Z3J hp (Z2A _ _) (RDs.cells hd)
    |succ i=>exact(r.vals G' h1 h2).2 ob hob i y u (by simpa using hy) (by simpa using hu)
  ·cases hg
 |tk t ti v cs d b ss ds vs bs ht hp hd h ih=>
  intro j gi hg
  have hdl:=hd.len.1
  simp only[genInit,ht]at hg
  rw[←hdl,List.drop_left]at hg
  split at hg
  ·rename_i g2 hg2
   cases hg
   obtain⟨fs,es,r⟩:=ih hg2
   obtain⟨es0,z1,z2,z3,z4,z5⟩:=hd.ents (900000+j) (c:=0)
   refine⟨fs,es0++es,⟨by simp[r.len],?_,r.boxs,r.dead,fun f hf=>?_,r.flk,fun x hx=>?_,?_,?_,fun G' h1 h2=>?_,fun R hR=>.tk _ _ _ _ _ (r.at_ R hR)⟩⟩
   ·rw[Zm,z1,r.objs,ZY hdl]
   ·obtain⟨⟨k,k1,k2,k3⟩,q⟩:=r.fl f hf
    exact⟨⟨k,by omega,by simp only[List.length_cons];omega,k3⟩,q⟩
   ·rcases List.mem_append.mp hx with hx|hx
    ·obtain⟨q,i,_,q2⟩:=z3 x hx
     exact⟨q,j,Nat.le_refl _,by simp only[List.length_cons];omega,by rw[q2]⟩
    ·obtain⟨q,k,k1,k2,k3⟩:=r.ent x hx
     exact⟨q,k,by omega,by simp only[List.length_cons];omega,k3⟩
   ·rw[List.map_append,List.nodup_append]
    refine⟨z4,r.entk,fun k hk k' hk' e=>?_⟩
    obtain⟨x,hx,rfl⟩:=List.mem_map.mp hk
    obtain⟨y,hy,rfl⟩:=List.mem_map.mp hk'
    obtain⟨_,i,_,i2⟩:=z3 x hx
    obtain⟨_,k,k1,_,k3⟩:=r.ent y hy
    rw[←e,i2]at k3
    simp only at k3
    omega
   ·rw[List.flatMap_append,z2]
    refine(List.Perm.append_left b r.perm).trans ?_
    rw[←List.append_assoc,←List.append_assoc]
    exact List.Perm.append_right _ List.perm_append_comm
   ·obtain⟨v1,v2⟩:=r.vals G' (fun x hx=>h1 x (by simp[hx])) h2
    refine⟨v1,fun ob hob i y u hy hu=>?_⟩
    cases i with
    |zero=>
     simp only[List.getElem?_cons_zero,Option.some.injEq]at hy hu
     subst hy;subst hu
     rw[ZW hdl]
     refine Z3J hp (Z0G _ _ _) (Zx hd (fun i e v hi hv=>?_) _ _)
     obtain⟨x,x1,x2,x3⟩:=z5 i e v hi hv
     rw[←x2,h1 x (by simp[x1]),x3]
    |succ i=>exact v2 ob hob i y u (by simpa using hy) (by simpa using hu)
  ·cases hg
 |io t ti g arr et d b ss ds vs bs ht hgg hd h ih=>
  intro j gi hg
  have hdl:=hd.len.1
  have hal:arr.size=ti.ls.length:=by have:=hd.len.2;simpa using this
  simp only[genInit,ht]at hg
  rw[←hdl,List.drop_left]at hg
  split at hg
  ·rename_i g2 hg2
   cases hg
   obtain⟨fs,es,r⟩:=ih hg2
   obtain⟨es0,z1,z2,z3,z4,z5⟩:=hd.ents (900000+j) (c:=0)
   refine⟨⟨(2000000+j,0),t,resAVs (900000+j) 0 ti.ls d,g,arr,et⟩::fs,es0++es,⟨by simp[r.len],?_,?_,?_,fun f hf=>?_,?_,fun x hx=>?_,?_,?_,fun G' h1 h2=>?_,fun R hR=>.io _ _ _ _ _ (hR _ List.mem_cons_self) (r.at_ R fun f hf=>hR f (List.mem_cons_of_mem _ hf))⟩⟩
   ·rw[Zm,z1,r.objs,ZY hdl]
   ·simp only[flObjs,r.boxs,ZW hdl]
   ·simp only[List.map_cons,flObjs,Fl.dead,Z1K]
    rw[←r.dead]
   ·rcases List.mem_cons.mp hf with rfl|hf
    ·exact⟨⟨j,Nat.le_refl _,by simp only[List.length_cons];omega,rfl⟩,hgg,by rw[Z0G];exact hal,hd.ones⟩
    ·obtain⟨⟨k,k1,k2,k3⟩,q⟩:=r.fl f hf
     exact⟨⟨k,by omega,by simp only[List.length_cons];omega,k3⟩,q⟩
   ·simp only[List.map_cons,List.nodup_cons]
    refine⟨fun hm=>?_,r.flk⟩
    obtain⟨f,hf,e⟩:=List.mem_map.mp hm
    obtain⟨⟨k,k1,k2,k3⟩,_⟩:=r.fl f hf
    rw[k3]at e
    simp only[Prod.mk.injEq,and_true]at e
    omega
   ·rcases List.mem_append.mp hx with hx|hx
    ·obtain⟨q,i,_,q2⟩:=z3 x hx
     exact⟨q,j,Nat.le_refl _,by simp only[List.length_cons];omega,by rw[q2]⟩
    ·obtain⟨q,k,k1,k2,k3⟩:=r.ent x hx
     exact⟨q,k,by omega,by simp only[List.length_cons];omega,k3⟩
   ·rw[List.map_append,List.nodup_append]
    refine⟨z4,r.entk,fun k hk k' hk' e=>?_⟩
    obtain⟨x,hx,rfl⟩:=List.mem_map.mp hk
    obtain⟨y,hy,rfl⟩:=List.mem_map.mp hk'
    obtain⟨_,i,_,i2⟩:=z3 x hx
    obtain⟨_,k,k1,_,k3⟩:=r.ent y hy
    rw[←e,i2]at k3
    simp only at k3
    omega
   ·rw[List.flatMap_append,z2]
    simp only[List.map_cons,List.cons_append]
    refine List.Perm.cons _ ((List.Perm.append_left b r.perm).trans ?_)
    rw[←List.append_assoc,←List.append_assoc]
    exact List.Perm.append_right _ List.perm_append_comm
   ·obtain⟨v1,v2⟩:=r.vals G' (fun x hx=>h1 x (by simp[hx])) (fun f hf=>h2 f (by simp[hf]))
    have hr:=h2 _ List.mem_cons_self
    refine⟨fun f hf u ob=>?_,fun ob hob i y u hy hu=>?_⟩
    ·rcases List.mem_cons.mp hf with rfl|hf
     ·refine Zx hd (fun i e v hi hv=>?_) _ _
      obtain⟨x,x1,x2,x3⟩:=z5 i e v hi hv
      rw[←x2,h1 x (by simp[x1]),x3]
     ·exact v1 f hf u ob
    ·cases i with
     |zero=>
      simp only[List.getElem?_cons_zero,Option.some.injEq]at hy hu
      subst hy;subst hu
      obtain⟨tt,cc,hb⟩:=hob _ List.mem_cons_self
      refine .ptr _ _ _ _ ⟨fun t' c' hg'=>⟨rfl,g,hr,rfl⟩,fun e rows dp vr hh te hg' _=>?_,fun kl el es hg'=>?_⟩ ⟨(fun _ h=>by cases h),(fun _ h=>by cases h)⟩
      all_goals
       have hb:getO ob (2000000+j,0)=some (.box tt cc):=hb
       rw[hb]at hg'
       cases hg'
     |succ i=>exact v2 ob (fun f hf=>hob f (by simp[hf])) i y u (by simpa using hy) (by simpa using hu)
  ·cases hg
 |fn f n arr ss ds vs bs hn h ih=>
  intro j gi hg
  simp only[genInit]at hg
  split at hg
  ·rename_i g2 hg2
   obtain⟨hle,hg⟩:=Z0 hg
   cases hg
   have hle:n≤g2.avs.length:=Nat.le_of_ble_eq_true hle
   obtain⟨fs,es,r⟩:=ih hg2
   have hlen:=r.len
   simp only[List.length_append,Array.length_toList,hn]at hlen
   refine⟨fs,es,⟨by simp;omega,r.objs,r.boxs,r.dead,fun q hq=>?_,r.flk,fun x hx=>?_,r.entk,r.perm,fun G' h1 h2=>⟨(r.vals G' h1 h2).1,fun ob hob i y u hy hu=>?_⟩,fun R hR=>.fn _ _ _ _ _ _ (r.at_ R hR)⟩⟩
   ·obtain⟨⟨k,k1,k2,k3⟩,q⟩:=r.fl q hq
    exact⟨⟨k,by omega,by simp only[List.length_cons];omega,k3⟩,q⟩
   ·obtain⟨q,k,k1,k2,k3⟩:=r.ent x hx
    exact⟨q,k,by omega,by simp only[List.length_cons];omega,k3⟩
   ·have key:=(r.vals G' h1 h2).2 ob hob
    cases i with
    |zero=>
     simp only[List.getElem?_cons_zero,Option.some.injEq]at hy hu
     subst hy;subst hu
     refine .fn _ _ _ (by simp[hn];omega) (fun i y u hy hu=>?_)
     have hi:i<arr.size:=(Array.getElem?_eq_some_iff.mp hu).1
     rw[List.getElem?_take,if_pos (by omega)]at hy
     exact key i y u hy (by rw[List.getElem?_append_left (by simpa using hi)];simpa using hu)
    |succ i=>
     simp only[List.getElem?_cons_succ]at hy hu
     rw[List.getElem?_drop]at hy
     refine key (n+i) y u hy ?_
     rw[List.getElem?_append_right (by simp[hn]),←hu]
     congr 1
     simp[hn]
  ·cases hg
def rootOf:List Fl→Id→Value
 |[],_=>undef
 |f::r,o=>if f.o=o then .pointer (some ⟨f.g,0,none⟩)else rootOf r o
def topOf:List Fl→Id→List Nat
 |[],_=>[]
 |f::r,o=>if f.o=o then[f.g]else topOf r o
theorem Z2e:∀{fs:List Fl},(fs.map (·.o)).Nodup→∀f∈fs,rootOf fs f.o=.pointer (some ⟨f.g,0,none⟩)∧topOf fs f.o=[f.g]
 |[],_,f,hf=>by cases hf
 |q::fs,hn,f,hf=>by
  simp only[List.map_cons,List.nodup_cons]at hn
  simp only[rootOf,topOf]
  rcases List.mem_cons.mp hf with rfl|hf
  ·rw[if_pos rfl,if_pos rfl];exact⟨rfl,rfl⟩
  ·have:q.o≠f.o:=fun e=>hn.1 (List.mem_map.mpr ⟨f,hf,e.symm⟩)
   rw[if_neg this,if_neg this]
   exact Z2e hn.2 f hf
theorem Z2f:∀{fs:List Fl} {o:Id},rootOf fs o≠undef→∃f∈fs,f.o=o
 |[],_,h=>absurd rfl h
 |f::fs,o,h=>by
  simp only[rootOf]at h
  split at h
  ·rename_i e;exact⟨f,List.mem_cons_self,e⟩
  ·obtain⟨q,hq,e⟩:=Z2f h
   exact⟨q,List.mem_cons_of_mem _ hq,e⟩
theorem ZR {fs:List Fl} {o:Id} {x:Obj}:getO (flObjs (fs.map Fl.dead)) o=some x→∃f∈fs,f.o=o∧x=.box f.pt (f.cells.map fun _=>.dead):=by
 induction fs with
 |nil=>intro h;cases h
 |cons f fs ih=>
  intro h
  simp only[List.map_cons,flObjs,getO]at h
  cases hk:idEq f.dead.o o<;>rw[hk]at h
  ·obtain⟨q,hq,e⟩:=ih h
   exact⟨q,List.mem_cons_of_mem _ hq,e⟩
  ·cases h
   exact⟨f,List.mem_cons_self,Z5.mp hk,rfl⟩
theorem Z4a {fs:List Fl}:∀f∈fs,∃t c,getO (flObjs (fs.map Fl.dead)) f.o=some (.box t c):=by
 induction fs with
 |nil=>intro f hf;cases hf
 |cons q fs ih=>
  intro f hf
  simp only[List.map_cons,flObjs,getO]
  cases hk:idEq q.dead.o f.o with
  |true=>exact⟨_,_,rfl⟩
  |false=>
   rcases List.mem_cons.mp hf with rfl|hf
   ·rw[show idEq f.dead.o f.o=true from Z5.mpr rfl]at hk;cases hk
   ·exact ih f hf
theorem Z2g:∀(cs:List AV),idsL (cs.map fun _=>AV.dead)=[]
 |[]=>rfl
 |_::cs=>by simp only[List.map_cons,idsL,idsA,List.nil_append,Z2g cs]
theorem Z3K {S:Nat→Prop} {ss:List Sty} {ds:List Dat} {vs:List Value} {bs:List Nat} (ha:ArgsR E w S ss ds vs bs) (hnd:bs.Nodup) (hS:∀b,S b→b<w.heap.size∧b∉bs) {gi:GInit} {j0:Nat} (hg:genInit E j0 ss ds=some gi) (hlen:j0+ss.length<100000) {n:Nat} (hN:gi.avs.length≤n):
  ∃R0,(IoAt R0 j0 ss vs∧∀k,R0 (2000000+k,0)≠undef→j0≤k∧k<j0+ss.length)∧Rel E w.heap.size bs S R0 w n {tm:=numbered 0 gi.avs,ob:=upAll gi.boxs (upAll gi.objs gi.dead)} {tmps:=vs.toArray++Array.replicate (n-vs.toArray.size) undef,defers:=[]} w:=by
 obtain⟨fs,es,r⟩:=ha.init hg
 have hp:=r.perm.nodup_iff.mp hnd
 obtain⟨g1,g2,g3⟩:=List.nodup_append.mp hp
 have hgb:∀f∈fs,f.g∈bs:=fun f hf=>r.perm.mem_iff.mpr (List.mem_append.mpr (.inl (List.mem_map.mpr ⟨f,hf,rfl⟩)))
 have heb:∀b∈es.flatMap (·.bs),b∈bs:=fun b hb=>r.perm.mem_iff.mpr (List.mem_append.mpr (.inr hb))
 have hroot:=Z2e r.flk
 refine⟨rootOf fs,⟨r.at_ _ fun f hf=>(hroot f hf).1,fun k hk=>?_⟩,?_⟩
 ·obtain⟨f,hf,e⟩:=Z2f hk
  obtain⟨⟨k',k1,k2,k3⟩,_⟩:=r.fl f hf
  rw[k3]at e
  simp only[Prod.mk.injEq,and_true]at e
  omega
 have ginj:∀f∈fs,∀q∈fs,f.g=q.g→f.o=q.o:=by
  have key:∀l:List Fl,(l.map (·.g)).Nodup→∀f∈l,∀q∈l,f.g=q.g→f.o=q.o:=by
   intro l
   induction l with
   |nil=>intro _ f hf;cases hf
   |cons x l ih=>
    intro hn f hf q hq e
    simp only[List.map_cons,List.nodup_cons]at hn
    rcases List.mem_cons.mp hf with h1|h1<;>rcases List.mem_cons.mp hq with h2|h2
    ·rw[h1,h2]
    ·exact absurd (List.mem_map.mpr ⟨q,h2,by rw[←e,h1]⟩) hn.1
    ·exact absurd (List.mem_map.mpr ⟨f,h1,by rw[e,h2]⟩) hn.1
    ·exact ih hn.2 f h1 q h2 e
  exact key fs g1
 let act:Act:={tmps:=vs.toArray++Array.replicate (n-vs.toArray.size) undef,defers:=[]}
 have h0:RelG E w.heap.size bs S (rootOf fs) w n ⟨rootOf fs,topOf fs,fun _=>[],[]⟩ {tm:=[],ob:=gi.dead} act w:=by
  rw[←r.dead]
  refine⟨⟨Nat.le_refl _,fun _ _ _=>rfl,rfl,rfl,rfl⟩,fun b hb=>hS b hb,fun o x hx=>?_,fun o x hx b hb=>?_,fun o x o' x' hx hx' hne b hb hb'=>?_,(fun o x hx=>⟨(fun b hb=>by cases hb),List.nodup_nil⟩),(fun o x o' x' _ _ _ b hb=>by cases hb),(fun b hb=>by cases hb),(fun t=>.dead _),rfl,?_,fun o x _ hx=>rfl,.none fun t cells hx=>?_⟩
  ·obtain⟨f,hf,rfl,rfl⟩:=ZR hx
   obtain⟨_,q1,q2,q3⟩:=r.fl f hf
   refine⟨f.g,f.arr,f.et,(hroot f hf).1,(hroot f hf).2,rfl,q1,by simp[q2],fun i v x hv hxx=>?_⟩
   rw[List.getElem?_map]at hv
   obtain⟨_,_,e⟩:=Option.map_eq_some_iff.mp hv
   subst e
   exact⟨.dead _,q3 x (by simpa using Array.mem_of_getElem? hxx)⟩
  ·obtain⟨f,hf,rfl,rfl⟩:=ZR hx
   have hb:b∈topOf fs f.o:=hb
   rw[(hroot f hf).2]at hb
   simp only[List.mem_singleton]at hb
   subst hb
   exact⟨fun hSb=>(hS _ hSb).2 (hgb f hf),(by simp),.inr (hgb f hf)⟩
  ·obtain⟨f,hf,rfl,rfl⟩:=ZR hx
   obtain⟨q,hq,rfl,rfl⟩:=ZR hx'
   have hb:b∈topOf fs f.o:=hb
   have hb':b∈topOf fs q.o:=hb'
   rw[(hroot f hf).2]at hb
   rw[(hroot q hq).2]at hb'
   simp only[List.mem_singleton]at hb hb'
   exact hne (ginj f hf q hq (hb.symm.trans hb'))
  ·have:=r.len
   simp[act];omega
  ·obtain⟨f,hf,e,_⟩:=ZR hx
   obtain⟨⟨k,_,_,q⟩,_⟩:=r.fl f hf
   rw[q]at e
   simp only[Prod.mk.injEq,and_true]at e
   omega
 have hfe:∀f∈fs,f.o∉es.map (·.k):=fun f hf hm=>by
  obtain⟨x,hx,e⟩:=List.mem_map.mp hm
  obtain⟨⟨k,_,_,q⟩,_⟩:=r.fl f hf
  obtain⟨_,k',_,q2,q3⟩:=r.ent x hx
  rw[e,q]at q3
  simp only at q3
  omega
 have c1:∀b∈es.flatMap (·.bs),∀o x,getO gi.dead o=some x→b∉topOf fs o:=fun b hb o x hx hbt=>by
  rw[←r.dead]at hx
  obtain⟨f,hf,rfl,rfl⟩:=ZR hx
  rw[(hroot f hf).2]at hbt
  simp only[List.mem_singleton]at hbt
  subst hbt
  exact g3 f.g (List.mem_map.mpr ⟨f,hf,rfl⟩) f.g hb rfl
 have c2:∀x∈es,NoRef x.k {tm:=[],ob:=gi.dead}:=fun x hx=>by
  refine⟨(fun t=>by simp[getT,idsA]),fun o t cells hx'=>?_,?_,?_⟩
  ·have hx':getO gi.dead o=some (.box t cells):=hx'
   rw[←r.dead]at hx'
   obtain⟨f,hf,_,e⟩:=ZR hx'
   cases e
   rw[Z2g]
   simp
  ·show getO gi.dead x.k=none
   cases hq:getO gi.dead x.k with
   |none=>rfl
   |some y=>
    rw[←r.dead]at hq
    obtain⟨f,hf,e,_⟩:=ZR hq
    exact absurd (List.mem_map.mpr ⟨x,hx,e.symm⟩) (hfe f hf)
  ·obtain⟨_,k,_,k2,k3⟩:=r.ent x hx
   generalize x.k=kk at k3
   obtain⟨a1,a2⟩:=kk
   simp only at k3
   subst k3
   exact Z0z (by omega) _
 obtain⟨G6,h6,r6,s6⟩:=h0.addTrees es (fun x hx=>(r.ent x hx).1) g2 (fun b hb=>⟨fun hSb=>(hS b hSb).2 (heb b hb),(by simp),.inr (heb b hb),fun o x hx=>⟨c1 b hb o x hx,(by simp)⟩⟩) c2 r.entk
 have hbox6:∀f∈fs,∃t c,getO (upAll (entObjs es) gi.dead) f.o=some (.box t c):=fun f hf=>by
  rw[Z3I (hfe f hf),←r.dead]
  exact Z4a f hf
 have hr6:∀f∈fs,G6.root f.o=.pointer (some ⟨f.g,0,none⟩):=fun f hf=>by
  rw[(s6 f.o (hfe f hf)).1]
  exact(hroot f hf).1
 obtain⟨v1,v2⟩:=r.vals G6 r6 hr6
 have h7:=h6.turnBoxes fs (fun f hf=>by
  obtain⟨⟨k,_,_,q⟩,q1,q2,q3⟩:=r.fl f hf
  refine⟨fun e=>?_,hbox6 f hf,hr6 f hf,q2,fun u ob i y x hy hx=>(v1 f hf u ob).2 i y x hy (by simpa using hx)⟩
  rw[q]at e
  simp only[Prod.mk.injEq,and_true]at e
  omega)
 rw[Z0r (fun f hf=>(r.fl f hf).2.1),r.boxs,r.objs]at h7
 refine⟨G6,⟨h7.kept,h7.old,h7.objs,h7.tops,h7.tops2,h7.ins,h7.ins2,h7.F,fun t=>?_,h7.defers,h7.size,h7.par,h7.fix⟩⟩
 refine Z1D r.len (fun i y v hy hv=>v2 _ (fun f hf=>?_) i y v hy hv) _ t
 rw[←r.boxs,←r.objs]
 exact Z3l (hbox6 f hf)
theorem OTs.split:∀{l1 l2:List Leaf} {ds:List Dat} {v1 v2:List Value} {bs:List Nat},v1.length=l1.length→OTs E w (l1++l2) ds (v1++v2) bs→∃d1 d2 b1 b2,ds=d1++d2∧bs=b1++b2∧OTs E w l1 d1 v1 b1∧OTs E w l2 d2 v2 b2
 |[],l2,ds,[],v2,bs,_,h=>⟨[],ds,[],bs,rfl,rfl,.nil,h⟩
 |[],_,_,_::_,_,_,hl,_=>by simp at hl
 |_::_,_,_,[],_,_,hl,_=>by simp at hl
 |l::l1,l2,_,v::v1,v2,_,hl,h=>by
  cases h with
  |cons _ d _ b _ ds _ bs h1 h=>
   obtain⟨d1,d2,b1,b2,rfl,rfl,q1,q2⟩:=OTs.split (by simpa using hl) h
   exact⟨d::d1,d2,b++b1,b2,rfl,by simp,.cons _ _ _ _ _ _ _ _ h1 q1,q2⟩
theorem CellsR.app {ob:List (Id×Obj)} {x y:List AV} {u v:List Value} (h1:CellsR E w S0 G ob x u) (h2:CellsR E w S0 G ob y v):CellsR E w S0 G ob (x++y) (u++v):=by
 refine⟨by simp[h1.1,h2.1],fun i z q hz hq=>?_⟩
 by_cases hi:i<x.length
 ·rw[List.getElem?_append_left hi]at hz
  rw[List.getElem?_append_left (by rw[←h1.1];exact hi)]at hq
  exact h1.2 i z q hz hq
 ·rw[List.getElem?_append_right (by omega)]at hz
  rw[List.getElem?_append_right (by rw[←h1.1];omega),←h1.1]at hq
  exact h2.2 _ z q hz hq
theorem Z43 (hE:EnvOk P E) (h:RelG E base M S0 R0 w0 nt G st a w) {ss:List Sty} {vs:List Value} {j:Nat} (hio:IoAt R0 j ss vs):∀{ls:List Leaf} {cs:List AV},ioCells E st.ob j ss=some (ls,cs)→
  (∀e,Leaf.sl e∈ls→∃te,E.T e=some te)∧∃us gs,CellsR E w S0 G st.ob cs us∧cs.length=ls.length∧(∀g∈gs,∃k tt cc,j≤k∧getO st.ob (2000000+k,0)=some (.box tt cc)∧g∈G.top (2000000+k,0))∧gs.Nodup∧
   ∀{d:List Dat} {b:List Nat},OTs E w ls d us b→∃b1,PostR E w ss vs d b1∧b1.Perm (gs++b):=by
 induction hio with
 |nil j=>
  intro ls cs hc
  simp only[ioCells,Option.some.injEq,Prod.mk.injEq]at hc
  obtain⟨rfl,rfl⟩:=hc
  refine⟨(fun e he=>by cases he),[],[],⟨rfl,fun i v x hv=>by simp at hv⟩,rfl,(fun g hg=>by cases hg),List.nodup_nil,fun{d b} hd=>?_⟩
  cases hd
  exact⟨[],.nil,List.Perm.refl _⟩
 |rd j t v ss vs hh ih=>
  intro ls cs hc
  obtain⟨i1,us,gs,i2,i3,i4,i5,i6⟩:=ih (by simpa only[ioCells]using hc)
  refine⟨i1,us,gs,i2,i3,fun g hg=>?_,i5,fun hd=>?_⟩
  ·obtain⟨k,tt,cc,q1,q2⟩:=i4 g hg
   exact⟨k,tt,cc,by omega,q2⟩
  ·obtain⟨b1,q1,q2⟩:=i6 hd
   exact⟨b1,.rd _ _ _ _ _ _ q1,q2⟩
 |tk j t v ss vs hh ih=>
  intro ls cs hc
  obtain⟨i1,us,gs,i2,i3,i4,i5,i6⟩:=ih (by simpa only[ioCells]using hc)
  refine⟨i1,us,gs,i2,i3,fun g hg=>?_,i5,fun hd=>?_⟩
  ·obtain⟨k,tt,cc,q1,q2⟩:=i4 g hg
   exact⟨k,tt,cc,by omega,q2⟩
  ·obtain⟨b1,q1,q2⟩:=i6 hd
   exact⟨b1,.tk _ _ _ _ _ _ q1,q2⟩
 |fn j f n arr ss vs hh ih=>
  intro ls cs hc
  obtain⟨i1,us,gs,i2,i3,i4,i5,i6⟩:=ih (by simpa only[ioCells]using hc)
  refine⟨i1,us,gs,i2,i3,fun g hg=>?_,i5,fun hd=>?_⟩
  ·obtain⟨k,tt,cc,q1,q2⟩:=i4 g hg
   exact⟨k,tt,cc,by omega,q2⟩
  ·obtain⟨b1,q1,q2⟩:=i6 hd
   exact⟨b1,.fn _ _ _ _ _ _ _ q1,q2⟩
 |io j t g ss vs hr hh ih=>
  intro ls cs hc
  simp only[ioCells]at hc
  split at hc
  ·rename_i ti bt cells ls2 cs2 ht hob hc2
   obtain⟨hl,hc⟩:=Z0 hc
   have hl:=Z3 hl
   simp only[Option.some.injEq,Prod.mk.injEq]at hc
   obtain⟨rfl,rfl⟩:=hc
   obtain⟨i1,us,gs,i2,i3,i4,i5,i6⟩:=ih hc2
   obtain⟨g',arr,et,b1,b2,b3,b4,b5,b6⟩:=(h.objs _ _ hob:BoxR E w S0 G st.ob cells _ _ _)
   have hpar:isPar (2000000+j,0)=true:=Nat.ble_eq.mpr (by show 1000000≤2000000+j;omega)
   rw[h.par _ _ hpar hob,hr]at b1
   cases b1
   have hcs:CellsR E w S0 G st.ob cells arr.toList:=⟨by simp[b5],fun i v x hv hx=>b6 i v x hv (by simpa using hx)⟩
   have hTi:=hE.T t ti ht
   have hgt:g∈G.top (2000000+j,0):=by rw[b2];simp
   refine⟨fun e he=>?_,arr.toList++us,g::gs,hcs.app i2,by simp[hl,i3],fun g2 hg2=>?_,?_,fun{d b} hd=>?_⟩
   ·rcases List.mem_append.mp he with he|he
    ·exact hTi.elem e he
    ·exact i1 e he
   ·rcases List.mem_cons.mp hg2 with rfl|hg2
    ·exact⟨j,_,_,Nat.le_refl _,hob,hgt⟩
    ·obtain⟨k,tt,cc,q1,q2⟩:=i4 g2 hg2
     exact⟨k,tt,cc,by omega,q2⟩
   ·rw[List.nodup_cons]
    refine⟨fun hm=>?_,i5⟩
    obtain⟨k,tt,cc,q1,q2,q3⟩:=i4 g hm
    refine h.tops2 _ _ _ _ hob q2 (fun e=>?_) g hgt q3
    simp only[Prod.mk.injEq,and_true]at e
    omega
   ·obtain⟨d1,d2,b1',b2',rfl,rfl,q1,q2⟩:=hd.split (by simp[b5,hl])
    obtain⟨b3',q3,q4⟩:=i6 q2
    refine⟨g::(b1'++b3'),.io _ ti _ arr et _ _ _ _ _ _ ht b4 q1 q3,?_⟩
    rw[List.cons_append]
    refine List.Perm.cons _ ((List.Perm.append_left b1' q4).trans ?_)
    rw[←List.append_assoc,←List.append_assoc]
    exact List.Perm.append_right _ List.perm_append_comm
  ·cases hc
theorem Z2h:∀{rs:List TI} {xs:List AV},argsFit rs xs=true→(∀e,Leaf.sl e∈joinLs rs→∃te,E.T e=some te)→(flats xs).length=(joinLs rs).length
 |[],[],_,_=>rfl
 |[],_::_,h,_=>by cases h
 |_::_,[],h,_=>by cases h
 |ti::rs,x::xs,h,he=>by
  simp only[argsFit,Bool.and_eq_true]at h
  have ih:=Z2h (rs:=rs) (xs:=xs) h.2 (fun e q=>he e (by simp[joinLs,q]))
  simp only[flats,joinLs,List.length_append,ih]
  congr 1
  have h1:=h.1
  cases x<;>simp only[argFit,Bool.and_eq_true]at h1<;>simp only[flat]<;>first|exact Z3 h1.2|(have:=Z3 h1.2;simpa using this)
theorem Z1g (hE:EnvOk P E) {fn:Func} {ss:List Sty} {rs:List TI} {vs:List Value} {bs:List Nat} {j0:Nat} (hrs:lsOf E fn.resultTypes.toList=some rs) (hio:IoAt R0 j0 ss vs) {out:List Dat}
  (h:Rel E w0.heap.size bs S0 R0 w0 fn.ntmps st a w) {xs:List AV} (hvs:resVal E st fn.results.toList=some xs) (hc:(argsFit rs xs&&allSolid xs)=true) (hfi:finGen E st.ob j0 rs xs ss=some out):
  ∃v,(results fn a.tmps).run P w=.ok v w∧GenR E ss rs vs bs out w0 v w:=by
 obtain⟨G,h⟩:=h
 simp only[Bool.and_eq_true]at hc
 unfold finGen at hfi
 split at hfi
 ·rename_i ls cs hcs
  split at hfi
  ·rename_i g hg
   obtain⟨hq,hfi⟩:=Z0 hfi
   cases hfi
   simp only[Bool.and_eq_true,Bool.not_eq_true']at hq
   obtain⟨us,u1,u2,u3⟩:=Zw hE h hvs
   obtain⟨rcells,p1,p2⟩:=Z01 u1.symm u3 hc.1 hc.2
   obtain⟨i1,cu,gs,i2,i3,i4,i5,i6⟩:=Z43 hE h hio hcs
   have hel:∀e,Leaf.sl e∈joinLs rs++ls→∃te,E.T e=some te:=fun e he=>(List.mem_append.mp he).elim (ZI hE hrs e) (i1 e)
   obtain⟨all,o1,o2,o3⟩:=Z0c h (fun _ _ hx=>hx) hel (p2.app i2) hg hq.1 (ZA.mp hq.2.1)
   have hrl:rcells.length=(joinLs rs).length:=by rw[←p2.1];exact Z2h hc.1 (ZI hE hrs)
   obtain⟨d1,d2,b0,b,hd,rfl,q1,q2⟩:=o1.split hrl
   obtain⟨b1,q3,q4⟩:=i6 q2
   have hrow:=Z0V hg
   have gOwn:∀z∈gs,z∈bs∨w0.heap.size≤z:=fun z hz=>by
    obtain⟨k,tt,cc,_,k1,k2⟩:=i4 z hz
    exact((h.tops _ _ k1 z k2).2.2).symm
   have aOwn:∀z∈b0++b,z∈bs∨w0.heap.size≤z:=fun z hz=>by
    obtain⟨o,ho,hob⟩:=o3 z hz
    obtain⟨_,_,_,_,_,hx⟩:=hrow o ho
    rcases hob with hob|hob
    ·exact((h.tops _ _ hx z hob).2.2).symm
    ·exact((h.F z ((h.ins _ _ hx).1 z hob)).2.1).symm
   have hsep:∀z∈b0++b,z∉gs:=fun z hz hzg=>by
    obtain⟨o,ho,hob⟩:=o3 z hz
    obtain⟨_,_,_,_,_,hx⟩:=hrow o ho
    obtain⟨k,tt,cc,_,k1,k2⟩:=i4 z hzg
    exact h.apart hx k1 (fun e=>by rw[e,k1]at hx;cases hx) hob (.inl k2)
   obtain⟨n1,n2,n3⟩:=List.nodup_append.mp o2
   refine⟨_,u2,h.kept,us,rcells,b0,d1,d2,b1,hd,q1.len.1,rfl,p1,q1,q3,?_,fun z hz=>?_⟩
   ·rw[List.nodup_append]
    refine⟨n1,q4.nodup_iff.mpr ?_,fun z hz z' hz' e=>?_⟩
    ·rw[List.nodup_append]
     exact⟨i5,n2,fun z hz z' hz' e=>hsep z' (List.mem_append.mpr (.inr hz')) (e▸hz)⟩
    ·subst e
     rcases List.mem_append.mp (q4.mem_iff.mp hz')with hz'|hz'
     ·exact hsep z (List.mem_append.mpr (.inl hz)) hz'
     ·exact n3 z hz z hz' rfl
   ·rcases List.mem_append.mp hz with hz|hz
    ·exact aOwn z (List.mem_append.mpr (.inl hz))
    ·rcases List.mem_append.mp (q4.mem_iff.mp hz)with hz|hz
     ·exact gOwn z hz
     ·exact aOwn z (List.mem_append.mpr (.inr hz))
  ·cases hfi
 ·cases hfi
theorem Z1h {f:FuncId} {fn:Func} {rs:List TI} {ss:List Sty} {alts:List (List Sty)} {out:List Dat} (hm:E.mode f=.gen ss∨E.mode f=.gens alts) (hrs:lsOf E fn.resultTypes.toList=some rs) (hfi:finish E f fn st=some out):
  ∃xs,resVal E st fn.results.toList=some xs∧(argsFit rs xs&&allSolid xs)=true∧(E.mode f=.gen ss→finGen E st.ob 0 rs xs ss=some out)∧(E.mode f=.gens alts→finGens E st.ob rs xs 0 alts=some out):=by
 unfold finish at hfi
 rcases hm with hm|hm
 all_goals
  rw[hm,hrs]at hfi
  simp only at hfi
  split at hfi
  ·rename_i rs' xs hrs' hvs
   cases hrs'
   obtain⟨hc,hfi⟩:=Z0 hfi
   exact⟨xs,hvs,hc,fun h=>by rw[hm]at h;cases h<;>exact hfi,fun h=>by rw[hm]at h;cases h<;>exact hfi⟩
  ·cases hfi
theorem Z44 (hE:EnvOk P E) {f:FuncId} {fn:Func} {ss:List Sty} {rs:List TI} {vs:List Value} {bs:List Nat} (hm:E.mode f=.gen ss) (hrs:lsOf E fn.resultTypes.toList=some rs) (hio:IoAt R0 0 ss vs) {out:List Dat}
  (h:Rel E w0.heap.size bs S0 R0 w0 fn.ntmps st a w) (hfi:finish E f fn st=some out):
  ∃v,(results fn a.tmps).run P w=.ok v w∧GenR E ss rs vs bs out w0 v w:=by
 obtain⟨xs,q1,q2,q3,_⟩:=Z1h (alts:=[]) (.inl hm) hrs hfi
 exact Z1g hE hrs hio h q1 q2 (q3 hm)
theorem Z2i {ob:List (Id×Obj)}:∀{ss:List Sty} {j:Nat},anyBox ob j ss=true→∃k t c,j≤k∧k<j+ss.length∧getO ob (2000000+k,0)=some (.box t c)
 |[],_,h=>by cases h
 |s::ss,j,h=>by
  have next:anyBox ob (j+1) ss=true→∃k t c,j≤k∧k<j+(s::ss).length∧getO ob (2000000+k,0)=some (.box t c):=fun h=>by
   obtain⟨k,t,c,k1,k2,k3⟩:=Z2i h
   exact⟨k,t,c,by omega,by simp only[List.length_cons];omega,k3⟩
  cases s with
  |io t=>
   simp only[anyBox,Bool.or_eq_true]at h
   rcases h with h|h
   ·cases hq:getO ob (2000000+j,0)with
    |none=>rw[hq]at h;cases h
    |some x=>
     rw[hq]at h
     cases x with
     |row=>cases h
     |mp=>cases h
     |box t c=>exact⟨j,t,c,Nat.le_refl _,by simp only[List.length_cons];omega,hq⟩
   ·exact next h
  |rd t=>exact next h
  |tk t=>exact next h
  |fn f n=>exact next h
theorem Z3e (hE:EnvOk P E) {f:FuncId} {fn:Func} {alts:List (List Sty)} {i0:Nat} {ss:List Sty} {rs:List TI} {vs:List Value} {bs:List Nat} (hm:E.mode f=.gens alts) (hi0:alts[i0]?=some ss) (hlen:ss.length≤1000) (hrs:lsOf E fn.resultTypes.toList=some rs)
  (hio:IoAt R0 (1000*i0) ss vs) (hR:∀k,R0 (2000000+k,0)≠undef→1000*i0≤k∧k<1000*i0+ss.length) {out:List Dat}
  (h:Rel E w0.heap.size bs S0 R0 w0 fn.ntmps st a w) (hfi:finish E f fn st=some out):
  ∃v,(results fn a.tmps).run P w=.ok v w∧GenR E ss rs vs bs out w0 v w:=by
 obtain⟨xs,q1,q2,_,q3⟩:=Z1h (ss:=[]) (.inr hm) hrs hfi
 have q3:=q3 hm
 have key:∀(l:List (List Sty)) (i:Nat),(∀k ss,l[k]?=some ss→alts[i+k]?=some ss)→finGens E st.ob rs xs i l=some out→∃v,(results fn a.tmps).run P w=.ok v w∧GenR E ss rs vs bs out w0 v w:=by
  intro l
  induction l with
  |nil=>intro i _ hr;cases hr
  |cons s l ih=>
   intro i hal hr
   simp only[finGens]at hr
   cases hf:anyBox st.ob (1000*i) s with
   |true=>
    rw[hf]at hr
    simp only[cond_true]at hr
    obtain⟨hc,hr⟩:=Z0 hr
    have hc:s.length≤1000:=Nat.le_of_ble_eq_true hc
    obtain⟨k,t,c,k1,k2,k3⟩:=Z2i hf
    have hii:i=i0:=by
     obtain⟨G,hG⟩:=h
     obtain⟨g',arr,et,b1,b2,b3,b4,b5,b6⟩:=(hG.objs _ _ k3:BoxR E w S0 G st.ob c _ _ _)
     have hpar:isPar (2000000+k,0)=true:=Nat.ble_eq.mpr (by show 1000000≤2000000+k;omega)
     rw[hG.par _ _ hpar k3]at b1
     have:=hR k (fun e=>by rw[e]at b1;cases b1)
     omega
    subst hii
    have hs:=hal 0 s rfl
    rw[Nat.add_zero,hi0]at hs
    cases hs
    exact Z1g hE hrs hio h q1 q2 hr
   |false=>
    rw[hf]at hr
    exact ih (i+1) (fun k ss' hk=>by have:=hal (k+1) ss' (by simpa using hk);rw[←this];congr 1;omega) hr
 exact key alts 0 (fun k ss hk=>by simpa using hk) q3
end
end Go.Proofs.YtnihikajdbcoaaaGreat.Vai
