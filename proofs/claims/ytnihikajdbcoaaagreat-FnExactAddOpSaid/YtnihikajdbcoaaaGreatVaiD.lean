import Derived.Test.YtnihikajdbcoaaaGreatVaiG
import Derived.ChangeArms
import Derived.WideShapes
import Derived.SizedLaws
import Derived.Laws.StructEq
import Derived.ChangeKeysEq
import Derived.WalkKit
import Derived.ProofKit
import Derived.OpenShut
import Derived.ShutString
import Derived.ChangeOld
import Derived.Below
import Derived.Carry
namespace Go.Proofs.YtnihikajdbcoaaaGreat.Vai
open Go
section
variable {P:Program} {E:Env} {base:Nat} {M:List Nat} {S0:Nat→Prop} {R0:Id→Value} {w0:World} {nt:Nat} {G:Gh} {st:St} {a:Act} {w:World} {look:Look}
def PlainAt (P:Program) (E:Env) (f:FuncId) (g:List Dat→Option (List Dat)):Prop:=
 ∀fn ps rs ds out,E.F f=some fn→E.mode f=.plain→lsOf E fn.params.toList=some ps→lsOf E fn.resultTypes.toList=some rs→g ds=some out→
  ∀(w:World) (S:Nat→Prop) (vs cells:List Value),PackR ps vs cells→RDs E w S (joinLs ps) ds cells→(∀b,S b→b<w.heap.size)→
   Calls P f vs.toArray w fun
    |.returned v,w'=>PlainR E rs out w v w'
    |_,_=>False
def ModeOk (_E:Env):Prop:=True
structure CallsAt (P:Program) (E:Env) (f:FuncId) (g:List Dat→Option (List Dat)):Prop where
 plain:PlainAt P E f g
 muts:MutsAt P E f g
 sorts:SortsAt P E f g
 cur:CurAt P E f g
 make:MkAt P E f g
 gen:GenAt P E f g
theorem PlainOk.of_at {call:FuncId→List Dat→Option (List Dat)} (h:∀f,PlainAt P E f (call f)):PlainOk P E call:=fun f fn ps rs ds out h1 h2 h3 h4 h5=>h f fn ps rs ds out h1 h2 h3 h4 h5
def LoopOk (P:Program) (E:Env) (f:FuncId) (lp:List Item→St→Option (List Dat)):Prop:=
 ∀fn,E.F f=some fn→∀(base:Nat) (M:List Nat) (S0:Nat→Prop) (R0:Id→Value) (w0:World) (R:Value→World→Prop) (out:List Dat),
  (∀st a w,Rel E base M S0 R0 w0 fn.ntmps st a w→finish E f fn st=some out→∃v,(results fn a.tmps).run P w=.ok v w∧R v w)→
  ∀c r st a w,Rel E base M S0 R0 w0 fn.ntmps st a w→lp (.inLoop c::r) st=some out→RunTo P f R (.code c::.inLoop c::r) a w
theorem Z3L (hE:EnvOk P E) (_hmo:ModeOk E) {call:FuncId→List Dat→Option (List Dat)} (hC:∀f,CallsAt P E f (call f)):CallR P E base M S0 R0 w0 nt call:=
 fun _ _ _ _ _ _ f _ _ _ _ _ h hlook hd hti hl hv hr _ ho=>by
  cases hm:E.mode f with
  |plain=>exact Z31 hE (PlainOk.of_at fun f=>(hC f).plain) h hlook hd hti hm hl hv hr ho
  |muts=>exact Z3d h hlook hd (hC f).muts hm hl hv hr ho
  |sorts q=>exact Z3C h hlook hd (hC f).sorts hm hl hv hr ho
  |cur pt=>exact Z25 hE h hlook hd hti (hC f).cur (.inl hm) hl hv hr ho
  |capt pt=>exact Z25 hE h hlook hd hti (hC f).cur (.inr hm) hl hv hr ho
  |mk pt=>exact Z4V hE h hlook hd hti (hC f).make hm hl hv hr ho
  |gen ss=>exact Z29 hE h hlook hd hti (hC f).gen (.inl ⟨ss,hm⟩) hl hv hr ho
  |gens alts=>exact Z29 hE h hlook hd hti (hC f).gen (.inr ⟨alts,hm⟩) hl hv hr ho
theorem Zy (hE:EnvOk P E) (hmo:ModeOk E) {f:FuncId} {fn:Func} (hfn:E.F f=some fn) {lp:List Item→St→Option (List Dat)} {call:FuncId→List Dat→Option (List Dat)} (hC:∀f,CallsAt P E f (call f)) (hL:LoopOk P E f lp)
  {out:List Dat} {R:Value→World→Prop} (hfin:∀st a w,Rel E base M S0 R0 w0 fn.ntmps st a w→finish E f fn st=some out→∃v,(results fn a.tmps).run P w=.ok v w∧R v w)
  (n:Nat) (items:List Item) (st:St) (a:Act) (w:World) (h:Rel E base M S0 R0 w0 fn.ntmps st a w) (hr:runN E f fn lp call n items st=some out):RunTo P f R items a w:=
 Z5C hE (hE.F f fn hfn).1 (hE.N f fn hfn).2 (Z3L hE hmo hC) hfin (fun c r st a w h' hr'=>hL fn hfn base M S0 R0 w0 R out hfin c r st a w h' hr')
  (fun _ _ _ _ _ _ _ _ h' hK hr'=>Z5H hE (hE.N f fn hfn).2 (Z3L hE hmo hC) h' hK hr') n items st a w h hr
theorem PackR.len {ps:List TI} {vs cells:List Value} (h:PackR ps vs cells):vs.length=ps.length:=by
 induction h with
 |nil=>rfl
 |cons ti v cs tis vs rest h1 h2 h ih=>simp[ih]
theorem Z45 (f:FuncId) (h:∀ds,(fun _=>none:List Dat→Option (List Dat)) ds=none):CallsAt P E f (fun _=>none):=
 have _:=h
 ⟨(fun _ _ _ _ _ _ _ _ _ h=>by cases h),(fun _ _ _ _ _ _ _ _ _ h=>by cases h),(fun _ _ _ _ _ _ _ _ _ _ h=>by cases h),(fun _ _ _ _ _ _ _ _ _ _ _ _ _ h=>by cases h),(fun _ _ _ _ _ _ _ _ _ _ h=>by cases h),⟨(fun _ _ _ _ _ _ _ _ h=>by cases h),fun _ _ _ _ _ _ _ _ _ _ _ h=>by cases h⟩⟩
theorem Z3M (hE:EnvOk P E) (hmo:ModeOk E) (hX:∀f g,E.X f=some g→CallsAt P E f g):∀k,(∀f,CallsAt P E f ((level E k).1 f))∧∀f,LoopOk P E f ((level E k).2 f)
 |0=>⟨(fun f=>Z45 f fun _=>rfl),(fun f fn _ base M S0 R0 w0 R out _ c r st a w _ h=>by cases h)⟩
 |k+1=>by
  obtain⟨i1,i2⟩:=Z3M hE hmo hX k
  refine⟨fun f=>?_,fun f fn hfn base M S0 R0 w0 R out hfin c r st a w h hr=>?_⟩
  ·cases hx:E.X f with
   |some g=>
    have:(level E (k+1)).1 f=g:=by funext ds;simp only[level,hx]
    rw[this]
    exact hX f g hx
   |none=>
    have open_:∀{fn ds out},E.F f=some fn→(level E (k+1)).1 f ds=some out→∃c st,fn.body=some c∧init E f fn ds=some st∧runN E f fn ((level E k).2 f) (level E k).1 budget [.code c] st=some out:=fun{fn ds out} hfn hr=>by
     simp only[level,hx,hfn]at hr
     split at hr
     ·rename_i c st0 hb hi;exact⟨c,st0,hb,hi,hr⟩
     ·cases hr
    refine⟨fun fn ps rs ds out hfn hm hps hrs hr=>?_,fun fn ps rs ds out hfn hm hps hrs hr=>?_,fun fn q ps rs ds out hfn hm hps hrs hr=>?_,fun fn pt ti ps rs dcs ds out hfn hm hps hti hrs hr=>?_,fun fn pt ti ps ds out hfn hm hps hti hr=>?_,⟨fun ss hm fn rs ds out hfn hrs hr=>?_,fun alts i ss hm hi0 fn rs ds out hfn hrs hr=>?_⟩⟩
    ·obtain⟨c,st0,hb,hi,hr⟩:=open_ hfn hr
     intro w S vs cells hp hd hS
     refine ZK (hE.F f fn hfn).1 hb ?_
     unfold init at hi
     rw[hm,hps]at hi
     simp only[Option.some.injEq]at hi
     subst hi
     have hlen:=ZM hps
     exact Zy (R0:=fun _=>undef) hE hmo hfn i1 (i2 f) (fun st a w' h' hf'=>Z38 hE hm hrs h' hf') _ _ _ _ _ (Z20 (hE.N f fn hfn).1 (by simpa using hlen) hp hd hS) hr
    ·obtain⟨c,st0,hb,hi,hr⟩:=open_ hfn hr
     intro w vs cells bs hp hot hnd
     refine ZK (R:=fun v w'=>MutsR E ps rs cells bs out w v w') (hE.F f fn hfn).1 hb ?_
     unfold init at hi
     rw[hm,hps]at hi
     simp only[Option.some.injEq]at hi
     subst hi
     have hlen:=ZM hps
     have hN:=(hE.N f fn hfn).1
     have key:=Z2b (E:=E) (xa:=[]) (xv:=[]) rfl (fun _ _ i y v hy=>by simp at hy) (fn:=fn) (by simp at hlen⊢;omega) hp hot hnd
     simp only[List.append_nil]at key
     exact Zy hE hmo hfn i1 (i2 f) (fun st a w' h' hf'=>Z1f hE (.inl ⟨hm,hps⟩) hrs hot.len.2 h' hf') _ _ _ _ _ key hr
    ·obtain⟨c,st0,hb,hi,hr⟩:=open_ hfn hr
     intro w vs cells bs hp hot hnd
     refine ZK (R:=fun v w'=>MutsR E ps rs cells bs out w v w') (hE.F f fn hfn).1 hb ?_
     unfold init at hi
     rw[hm]at hi
     simp only[hps]at hi
     obtain⟨hpos,hi⟩:=Z0 hi
     have hpos:0<fn.params.size:=Nat.le_of_ble_eq_true hpos
     simp only[Option.some.injEq]at hi
     subst hi
     have hlen:=ZM hps
     have hN:=(hE.N f fn hfn).1
     have key:=Z2b (E:=E) (xa:=[.fn q []]) (xv:=[.func (.func q) #[] #[]]) rfl (fun _ _ i y v hy hv=>by
      cases i with
      |zero=>simp at hy hv;subst hy;subst hv;exact .fn q [] #[] rfl (fun i v x hv=>by simp at hv)
      |succ i=>simp at hy) (fn:=fn) (by
       simp only[List.length_dropLast,Array.length_toList]at hlen
       simp;omega) hp hot hnd
     exact Zy hE hmo hfn i1 (i2 f) (fun st a w' h' hf'=>Z1f hE (.inr ⟨⟨q,hm⟩,hps⟩) hrs hot.len.2 h' hf') _ _ _ _ _ key hr
    ·obtain⟨c,st0,hb,hi,hr⟩:=open_ hfn hr
     intro w S1 S pg arr et vs cells h1 h2 h9 h3 h4' h5 h6
     have h4:RDs E w S ti.ls dcs arr.toList:=h4'.frame (fun _ _=>rfl) h9
     refine ZK (R:=fun v w'=>CurR E ti rs S1 arr pg out w v w') (hE.F f fn hfn).1 hb ?_
     have hN:=(hE.N f fn hfn).1
     have hdl:=h4.len.1
     unfold init at hi
     rcases hm with hm|hm<;>rw[hm]at hi hps⊢<;>simp only[curPs]at hps<;>simp only[hti,hps]at hi
     ·obtain⟨hpos,hi⟩:=Z0 hi
      have hpos:0<fn.params.size:=Nat.le_of_ble_eq_true hpos
      simp only[Option.some.injEq]at hi
      rw[←hdl,List.drop_left,Z0F hdl]at hi
      subst hi
      obtain⟨k1,k2⟩:=ZH (E:=E) (w:=w) (S0:=S) (G:=curGh pg) (ob:=[((1000000,0),.box pt (datAVs false ti.ls dcs))]) h5 (RDs.cells h6)
      have hlen:=ZM hps
      have key:=Z3F (E:=E) (pt:=pt) h1 h2 h3 h4 (L:=.ptr (1000000,0) 0 0::packAll ps (datAVs false (joinLs ps) ds)) (V:=.pointer (some ⟨pg,0,none⟩)::vs) (by simp[k1]) (fun i y v hy hv=>by
       cases i with
       |zero=>simp at hy hv;subst hy;subst hv;exact Z4W
       |succ i=>exact k2 i y v (by simpa using hy) (by simpa using hv)) (n:=fn.ntmps) ?_
      ·exact Zy hE hmo hfn i1 (i2 f) (fun st a w' h' hf'=>Z26 hE (.inl hm) hti hrs h9 h4' h' hf') _ _ _ _ _ key hr
      ·have:=h5.len
       simp at hlen⊢
       omega
     ·obtain⟨hlt,hi⟩:=Z0 hi
      simp only[Option.some.injEq]at hi
      rw[←hdl,List.drop_left,Z0F hdl]at hi
      subst hi
      have hlt:fn.params.size<fn.ntmps:=Nat.le_of_ble_eq_true hlt
      obtain⟨k1,k2⟩:=ZH (E:=E) (w:=w) (S0:=S) (G:=curGh pg) (ob:=[((1000000,0),.box pt (datAVs false ti.ls dcs))]) h5 (RDs.cells h6)
      have hlen:=ZM hps
      have key:=Z3F (E:=E) (pt:=pt) h1 h2 h3 h4 (L:=packAll ps (datAVs false (joinLs ps) ds)++[.ptr (1000000,0) 0 0]) (V:=vs++[.pointer (some ⟨pg,0,none⟩)]) (by simp[k1]) (fun i y v hy hv=>by
       by_cases hi:i<vs.length
       ·rw[List.getElem?_append_left (by omega)]at hy
        rw[List.getElem?_append_left hi]at hv
        exact k2 i y v hy hv
       ·rw[List.getElem?_append_right (by omega)]at hy
        rw[List.getElem?_append_right (by omega),←k1]at hv
        generalize i-(packAll ps (datAVs false (joinLs ps) ds)).length=j at hy hv
        cases j with
        |zero=>simp at hy hv;subst hy;subst hv;exact Z4W
        |succ i=>simp at hy) (n:=fn.ntmps) ?_
      ·exact Zy hE hmo hfn i1 (i2 f) (fun st a w' h' hf'=>Z26 hE (.inr hm) hti hrs h9 h4' h' hf') _ _ _ _ _ key hr
      ·have:=h5.len
       simp at hlen⊢
       omega
    ·obtain⟨c,st0,hb,hi,hr⟩:=open_ hfn hr
     intro w S vs cells hp hd hS
     refine ZK (R:=fun v w'=>MkR E ti S out w v w') (hE.F f fn hfn).1 hb ?_
     unfold init at hi
     rw[hm]at hi
     simp only[hps,Option.some.injEq]at hi
     subst hi
     have hlen:=ZM hps
     exact Zy (R0:=fun _=>undef) hE hmo hfn i1 (i2 f) (fun st a w' h' hf'=>Z4X hE hm hti h' hf') _ _ _ _ _ (Z20 (hE.N f fn hfn).1 (by simpa using hlen) hp hd hS) hr
    ·obtain⟨c,st0,hb,hi,hr⟩:=open_ hfn hr
     intro w S vs bs ha hnd hS
     refine ZK (R:=fun v w'=>GenR E ss rs vs bs out w v w') (hE.F f fn hfn).1 hb ?_
     unfold init at hi
     rw[hm]at hi
     simp only at hi
     split at hi
     ·rename_i gi hgi
      obtain⟨hc,hi⟩:=Z0 hi
      simp only[Bool.and_eq_true]at hc
      simp only[Option.some.injEq]at hi
      subst hi
      obtain⟨R0,k1,k2⟩:=Z3K ha hnd hS hgi (by have:=Nat.le_of_ble_eq_true hc.1;omega) (Nat.le_of_ble_eq_true hc.2)
      exact Zy hE hmo hfn i1 (i2 f) (fun st a w' h' hf'=>Z44 hE hm hrs k1.1 h' hf') _ _ _ _ _ k2 hr
     ·cases hi
    ·obtain⟨c,st0,hb,hi,hr⟩:=open_ hfn hr
     intro w S vs bs ha hnd hS
     refine ZK (R:=fun v w'=>GenR E ss rs vs bs out w v w') (hE.F f fn hfn).1 hb ?_
     unfold init at hi
     rw[hm]at hi
     simp only[hi0]at hi
     split at hi
     ·rename_i gi hgi
      obtain⟨hc,hi⟩:=Z0 hi
      simp only[Bool.and_eq_true]at hc
      simp only[Option.some.injEq]at hi
      subst hi
      obtain⟨R0,k1,k2⟩:=Z3K ha hnd hS hgi (Nat.le_of_ble_eq_true hc.1) (Nat.le_of_ble_eq_true hc.2.2)
      exact Zy hE hmo hfn i1 (i2 f) (fun st a w' h' hf'=>Z3e hE hm hi0 (Nat.le_of_ble_eq_true hc.2.1) hrs k1.1 k1.2 h' hf') _ _ _ _ _ k2 hr
     ·cases hi
  ·simp only[level,hfn]at hr
   exact Zy hE hmo hfn i1 (i2 f) hfin _ _ _ _ _ h hr
theorem icall_ok (hE:EnvOk P E) (hmo:ModeOk E) (hX:∀f g,E.X f=some g→CallsAt P E f g) (k:Nat) (f:FuncId):CallsAt P E f (icall E k f):=(Z3M hE hmo hX k).1 f
end
end Go.Proofs.YtnihikajdbcoaaaGreat.Vai
namespace Go.Proofs.YtnihikajdbcoaaaGreat.Vai
open Go
section
variable {E:Env}
abbrev CallT:=FuncId→List Dat→Option (List Dat)
theorem Z1M {call:CallT} {look:Look} {t:Nat} {f:FuncId} {ps rs:List TI} {vs:List AV} {r:OpRes} (h:mutCall call look t f ps rs vs=some r):
  ∃ds,r.o=call f ds∧∀call':CallT,mutCall call' look t f ps rs vs=some ⟨r.g,call' f ds,r.f⟩:=by
 unfold mutCall at h⊢
 split at h
 ·rename_i ds ms hds hms
  try rw[hds]
  try rw[hms]
  try simp only
  obtain⟨hb,h⟩:=Z0 h
  try rw[hb]
  cases h
  exact⟨ds,rfl,fun _=>rfl⟩
 ·cases h
theorem Z1N {call:CallT} {look:Look} {t:Nat} {f:FuncId} {pt:TypeId} {ti:TI} {ps rs:List TI} {us:List AV} {p:AV} {r:OpRes} (h:curCall call look t f pt ti ps rs us p=some r):
  ∃ds,r.o=call f ds∧∀call':CallT,curCall call' look t f pt ti ps rs us p=some ⟨r.g,call' f ds,r.f⟩:=by
 unfold curCall at h⊢
 split at h
 ·split at h
  ·rename_i bt cells hl
   try rw[hl]
   try simp only
   split at h
   ·rename_i cs ds hcs hds
    try rw[hcs]
    try rw[hds]
    try simp only
    obtain⟨hb,h⟩:=Z0 h
    try rw[hb]
    cases h
    exact⟨_,rfl,fun _=>rfl⟩
   ·cases h
  ·cases h
 ·cases h
theorem Z1O {call:CallT} {look:Look} {t:Nat} {f:FuncId} {rs:List TI} {ss:List Sty} {vs:List AV} {r:OpRes} (h:genCall E call look t f rs ss vs=some r):
  ∃ds,r.o=call f ds∧∀call':CallT,genCall E call' look t f rs ss vs=some ⟨r.g,call' f ds,r.f⟩:=by
 unfold genCall at h⊢
 split at h
 ·rename_i g hg
  cases hn:noneOf g with
  |true=>
   rw[hn]at h
   cases h
   exact⟨g.ds,rfl,fun _=>rfl⟩
  |false=>
   rw[hn]at h
   simp only[cond_false]at h⊢
   obtain⟨hb,h⟩:=Z0 h
   rw[hb]
   cases h
   exact⟨g.ds,rfl,fun _=>rfl⟩
 ·cases h
theorem Z0x {call:CallT} {look:Look} {t:Nat} {f:FuncId} {rs:List TI} {vs:List AV}:∀{alts:List (List Sty)} {i:Nat} {r:OpRes},gensCall E call look t f rs vs i alts=some r→
  ∃ds,r.o=call f ds∧∀call':CallT,gensCall E call' look t f rs vs i alts=some ⟨r.g,call' f ds,r.f⟩
 |[],_,_,h=>by cases h
 |ss::alts,i,r,h=>by
  simp only[gensCall]at h⊢
  cases hf:fnFit ss vs with
  |true=>
   rw[hf]at h
   simp only[cond_true]at h⊢
   obtain⟨ds,h1,h2⟩:=Z1O h
   exact⟨.int (Int.ofNat i)::ds,h1,fun call'=>h2 fun f ds=>call' f (.int (Int.ofNat i)::ds)⟩
  |false=>
   rw[hf]at h
   simp only[cond_false]at h⊢
   exact Z0x h
theorem Z1i {call:CallT} {look:Look} {t:Nat} {f:FuncId} {vs:List AV} {r:OpRes} (h:opCall E call look t f vs=some r):
  ∃ds,r.o=call f ds∧∀call':CallT,opCall E call' look t f vs=some ⟨r.g,call' f ds,r.f⟩:=by
 unfold opCall at h⊢
 split at h
 ·cases h
 ·rename_i fn hfn
  try rw[hfn]
  try simp only
  split at h
  ·rename_i hm
   try rw[hm]
   try simp only
   split at h
   ·rename_i ps rs hps hrs
    try rw[hps]
    try rw[hrs]
    try simp only
    split at h
    ·cases h
    ·rename_i ds hds
     try rw[hds]
     try simp only
     cases hf:argsFit ps vs<;>rw[hf]at h
     ·cases h
     ·cases h
      exact⟨ds,rfl,fun _=>rfl⟩
   ·cases h
  ·rename_i hm
   try rw[hm]
   try simp only
   split at h
   ·rename_i ps rs hps hrs
    try rw[hps]
    try rw[hrs]
    try simp only
    exact Z1M h
   ·cases h
  ·rename_i q hm
   try rw[hm]
   try simp only
   split at h
   ·rename_i us q' ps rs hsp hps hrs
    try rw[hsp]
    try rw[hps]
    try rw[hrs]
    try simp only
    obtain⟨hb,h⟩:=Z0 h
    try rw[hb]
    try simp only[cond_true]
    exact Z1M h
   ·cases h
  ·rename_i pt hm
   try rw[hm]
   try simp only
   split at h
   ·rename_i p us ti ps rs hti hps hrs
    try rw[hti]
    try rw[hps]
    try rw[hrs]
    try simp only
    exact Z1N h
   ·cases h
  ·rename_i pt hm
   try rw[hm]
   try simp only
   split at h
   ·rename_i us p ti ps rs hsp hti hps hrs
    try rw[hsp]
    try rw[hti]
    try rw[hps]
    try rw[hrs]
    try simp only
    exact Z1N h
   ·cases h
  ·rename_i ss hm
   try rw[hm]
   try simp only
   split at h
   ·rename_i rs hrs
    try rw[hrs]
    try simp only
    exact Z1O h
   ·cases h
  ·rename_i alts hm
   try rw[hm]
   try simp only
   split at h
   ·rename_i rs hrs
    try rw[hrs]
    try simp only
    exact Z0x h
   ·cases h
  ·rename_i pt hm
   try rw[hm]
   try simp only
   split at h
   ·rename_i ti ps hti hps
    try rw[hti]
    try rw[hps]
    try simp only
    split at h
    ·rename_i ds hds
     try rw[hds]
     try simp only
     obtain⟨hb,h⟩:=Z0 h
     try rw[hb]
     cases h
     exact⟨_,rfl,fun _=>rfl⟩
    ·cases h
   ·cases h
theorem Z3N {call:CallT} {look:Look} {tm:List (Nat×AV)} {o:Oper} {r:OpRes} (h:iop E call look tm o=some r):
  (∀call':CallT,iop E call' look tm o=some r)∨∃f ds,r.o=call f ds∧∀call':CallT,iop E call' look tm o=some ⟨r.g,call' f ds,r.f⟩:=by
 unfold iop at h⊢
 cases hop:o.op<;>rw[hop]at h<;>simp only at h⊢
 all_goals first
  |(exact .inl fun _=>h)
  |skip
 case slice ty x lo hi mx=>
  cases mx with
  |none=>exact .inl fun _=>h
  |some m=>cases h
 case makeMap ty res=>
  cases res with
  |none=>exact .inl fun _=>h
  |some x=>cases h
 case call c=>
  obtain⟨cal,args,tys⟩:=c
  cases cal with
  |builtin b=>exact .inl fun _=>h
  |value f=>
   cases f with
   |func f=>
    obtain⟨ds,h1,h2⟩:=Z1i h
    exact .inr ⟨f,ds,h1,h2⟩
   |tmp c=>
    simp only at h⊢
    split at h
    ·rename_i f caps hc
     try rw[hc]
     try simp only
     obtain⟨ds,h1,h2⟩:=Z1i h
     exact .inr ⟨f,ds,h1,h2⟩
    ·cases h
   |_=>cases h
  |_=>cases h
 case makeFunc fn first captured=>
  cases fn with
  |func f=>exact .inl fun _=>h
  |_=>cases h
def LeO {α:Type} (x y:Option α):Prop:=∀a,x=some a→y=some a
theorem Z2j {nt:Nat} {call call':CallT} (hc:∀f ds,LeO (call f ds) (call' f ds)) {ops:List Oper} {fin fin':List Rec→St→Option (List Dat)} (hf:∀rs st,LeO (fin rs st) (fin' rs st)):
  ∀(rest:List Oper) (j:Nat) (rs:List Rec) (st:St),LeO (runOps E nt call ops fin rest j rs st) (runOps E nt call' ops fin' rest j rs st)
 |[],j,rs,st=>hf rs st
 |o::rest,j,rs,st=>by
  have ih:=Z2j (nt:=nt) (ops:=ops) hc hf rest (j+1)
  intro out h
  have exec:(let touch:=touchOf st o
   let look:Look:=fun i=>bif memId i touch then getO st.ob i else none
   match iop E call look st.tm o with
   |none=>none
   |some r=>bif inB nt o.dst&&r.g then r.o.bind fun ds=>
     let d:=r.f ds
     let st':=applyD st o.dst d
     let rc:Rec:=recOf ops j o st touch d
     bif guarded ops j then match d.v,o.dst with
      |.b t,some dt=>bif t then runOps E nt call ops fin rest (j+1) (rc::rs) {st' with tm:=putT st'.tm dt (.b true)}
        else runOps E nt call ops fin rest (j+1) (rc::rs) {st' with tm:=putT st'.tm dt (.b false)}
      |_,_=>none
     else bif idxed E ops o.dst then forkI d.v o.dst (fun dt v=>runOps E nt call ops fin rest (j+1) (rc::rs) {st' with tm:=putT st'.tm dt v})
     else runOps E nt call ops fin rest (j+1) (rc::rs) st'
    else none)=some out→(let touch:=touchOf st o
   let look:Look:=fun i=>bif memId i touch then getO st.ob i else none
   match iop E call' look st.tm o with
   |none=>none
   |some r=>bif inB nt o.dst&&r.g then r.o.bind fun ds=>
     let d:=r.f ds
     let st':=applyD st o.dst d
     let rc:Rec:=recOf ops j o st touch d
     bif guarded ops j then match d.v,o.dst with
      |.b t,some dt=>bif t then runOps E nt call' ops fin' rest (j+1) (rc::rs) {st' with tm:=putT st'.tm dt (.b true)}
        else runOps E nt call' ops fin' rest (j+1) (rc::rs) {st' with tm:=putT st'.tm dt (.b false)}
      |_,_=>none
     else bif idxed E ops o.dst then forkI d.v o.dst (fun dt v=>runOps E nt call' ops fin' rest (j+1) (rc::rs) {st' with tm:=putT st'.tm dt v})
     else runOps E nt call' ops fin' rest (j+1) (rc::rs) st'
    else none)=some out:=fun hX=>by
   simp only at hX⊢
   split at hX
   ·cases hX
   ·rename_i r hiop
    obtain⟨hg,hX2⟩:=Z0 hX
    simp only[Option.bind_eq_some_iff]at hX2
    obtain⟨ds,hds,hX3⟩:=hX2
    have hiop':∃r',iop E call' (fun i=>bif memId i (touchOf st o)then getO st.ob i else none) st.tm o=some r'∧r'.g=r.g∧r'.o=some ds∧r'.f=r.f:=by
     rcases Z3N hiop with h1|⟨f,ds',h1,h2⟩
     ·exact⟨r,h1 call',rfl,hds,rfl⟩
     ·refine⟨_,h2 call',rfl,hc _ _ _ ?_,rfl⟩
      rw[←h1];exact hds
    obtain⟨r',q1,q2,q3,q4⟩:=hiop'
    rw[q1]
    simp only[q2,hg,cond_true,q3,Option.bind_some,q4]
    cases hgd:guarded ops j<;>rw[hgd]at hX3
    ·simp only[cond_false]at hX3⊢
     cases hix:idxed E ops o.dst<;>rw[hix]at hX3
     ·exact ih _ _ _ hX3
     ·simp only[cond_true]at hX3⊢
      obtain⟨dt,hdst,hrun,hall⟩:=Z0D hX3
      rw[hall]
      exact ih _ _ _ hrun
    ·simp only[cond_true]at hX3⊢
     split at hX3
     ·rename_i t dt hdv hdst
      try rw[hdv]
      try simp only
      cases t
      ·exact ih _ _ _ hX3
      ·exact ih _ _ _ hX3
     ·cases hX3
  simp only[runOps]at h⊢
  cases hgu:o.guard with
  |none=>
   rw[hgu]at h
   exact exec h
  |some p=>
   obtain⟨i,want⟩:=p
   rw[hgu]at h
   simp only at h⊢
   split at h
   ·cases h
   ·rename_i ti hti
    try rw[hti]
    try simp only
    have pass:(bif !inB nt o.dst then none else runOps E nt call ops fin rest (j+1) (⟨j,o.dst,guardT ops o,[],[],[],[],false,false,true,false,[],[]⟩::rs) (applyD st o.dst {v:=.tup []}))=some out→
      (bif !inB nt o.dst then none else runOps E nt call' ops fin' rest (j+1) (⟨j,o.dst,guardT ops o,[],[],[],[],false,false,true,false,[],[]⟩::rs) (applyD st o.dst {v:=.tup []}))=some out:=fun hp=>by
     cases hb:inB nt o.dst<;>rw[hb]at hp
     ·cases hp
     ·exact ih _ _ _ hp
    split at h
    ·rename_i x hx
     try rw[hx]
     try simp only
     cases hxw:(x==want)<;>rw[hxw]at h
     ·exact pass h
     ·exact exec h
    ·rename_i hx
     try rw[hx]
     exact pass h
    ·cases h
theorem Z1T {f:FuncId} {fn:Func} {again again':List Item→St→Option (List Dat)} {call call':CallT} (hc:∀f ds,LeO (call f ds) (call' f ds)) (ha:∀items st,LeO (again items st) (again' items st)):
  ∀(n:Nat) (items:List Item) (st:St),LeO (runN E f fn again call n items st) (runN E f fn again' call' n items st):=by
 intro n
 induction n with
 |zero=>intro items st out h;simp[runN]at h
 |succ n ih=>
  intro items st out h
  simp only[runN]at h⊢
  split at h
  ·exact h
  ·exact h
  ·exact ih _ _ _ h
  ·exact ih _ _ _ h
  ·exact ih _ _ _ h
  ·split at h
   ·rename_i t ht
    cases t
    ·exact ih _ _ _ h
    ·exact ih _ _ _ h
   ·cases h
  ·exact ih _ _ _ h
  ·exact ha _ _ _ h
  ·exact ha _ _ _ h
  ·split at h
   ·exact ih _ _ _ h
   ·cases h
  ·refine Z2j hc (fun rs st' out' h'=>?_) _ _ _ _ _ h
   obtain⟨hb,h'⟩:=Z0 h'
   rw[hb]
   exact ih _ _ _ h'
  ·cases h
theorem Z0M:∀(k:Nat),(∀f ds,LeO ((level E k).1 f ds) ((level E (k+1)).1 f ds))∧∀f items st,LeO ((level E k).2 f items st) ((level E (k+1)).2 f items st)
 |0=>⟨fun f ds out h=>(by cases h),fun f items st out h=>(by cases h)⟩
 |k+1=>by
  obtain⟨i1,i2⟩:=Z0M k
  refine⟨fun f ds out h=>?_,fun f items st out h=>?_⟩
  ·rw[level]at h
   rw[level]
   simp only at h⊢
   cases hx:E.X f with
   |some g=>rw[hx]at h;exact h
   |none=>
    rw[hx]at h
    simp only at h⊢
    cases hfn:E.F f with
    |none=>rw[hfn]at h;cases h
    |some fn=>
     rw[hfn]at h
     simp only at h⊢
     cases hb:fn.body with
     |none=>rw[hb]at h;cases h
     |some c=>
      cases hi:init E f fn ds with
      |none=>rw[hb,hi]at h;cases h
      |some st0=>
       rw[hb,hi]at h
       exact Z1T i1 (i2 f) _ _ _ _ h
  ·rw[level]at h
   rw[level]
   simp only at h⊢
   cases hfn:E.F f with
   |none=>rw[hfn]at h;cases h
   |some fn=>
    rw[hfn]at h
    try simp only at h
    try simp only
    split at h
    ·rename_i heq
     cases heq
     exact Z1T i1 (i2 f) _ _ _ _ h
    ·cases h
theorem Zq {k k':Nat} (h:k≤k'):(∀f ds,LeO ((level E k).1 f ds) ((level E k').1 f ds))∧∀f items st,LeO ((level E k).2 f items st) ((level E k').2 f items st):=by
 induction h with
 |refl=>exact⟨fun _ _ _ h=>h,fun _ _ _ _ h=>h⟩
 |step h ih=>exact⟨fun f ds out hh=>(Z0M _).1 f ds out (ih.1 f ds out hh),fun f items st out hh=>(Z0M _).2 f items st out (ih.2 f items st out hh)⟩
noncomputable def callI (E:Env) (f:FuncId) (ds:List Dat):Option (List Dat):=
 open Classical in if h:∃k out,(level E k).1 f ds=some out then some h.choose_spec.choose else none
noncomputable def loopI (E:Env) (f:FuncId) (items:List Item) (st:St):Option (List Dat):=
 open Classical in if h:∃k out,(level E k).2 f items st=some out then some h.choose_spec.choose else none
theorem callI_iff {f:FuncId} {ds out:List Dat}:callI E f ds=some out↔∃k,(level E k).1 f ds=some out:=by
 unfold callI
 constructor
 ·intro h
  split at h
  ·rename_i hx
   cases h
   exact⟨hx.choose,hx.choose_spec.choose_spec⟩
  ·cases h
 ·rintro ⟨k,h⟩
  have hx:∃k out,(level E k).1 f ds=some out:=⟨k,out,h⟩
  rw[dif_pos hx]
  have h1:=hx.choose_spec.choose_spec
  have h2:=(Zq (E:=E) (Nat.le_max_left k hx.choose)).1 f ds out h
  have h3:=(Zq (E:=E) (Nat.le_max_right k hx.choose)).1 f ds _ h1
  rw[h2]at h3
  exact h3.symm
theorem Z0A {f:FuncId} {items:List Item} {st:St} {out:List Dat}:loopI E f items st=some out↔∃k,(level E k).2 f items st=some out:=by
 unfold loopI
 constructor
 ·intro h
  split at h
  ·rename_i hx
   cases h
   exact⟨hx.choose,hx.choose_spec.choose_spec⟩
  ·cases h
 ·rintro ⟨k,h⟩
  have hx:∃k out,(level E k).2 f items st=some out:=⟨k,out,h⟩
  rw[dif_pos hx]
  have h1:=hx.choose_spec.choose_spec
  have h2:=(Zq (E:=E) (Nat.le_max_left k hx.choose)).2 f items st out h
  have h3:=(Zq (E:=E) (Nat.le_max_right k hx.choose)).2 f items st _ h1
  rw[h2]at h3
  exact h3.symm
def Evt (x:Nat→Option (List Dat)) (out:List Dat):Prop:=∃k,∀k',k≤k'→x k'=some out
theorem Z4b {f:FuncId} {ds out:List Dat} (h:callI E f ds=some out):Evt (fun k=>(level E k).1 f ds) out:=by
 obtain⟨k,hk⟩:=callI_iff.mp h
 exact⟨k,fun k' h'=>(Zq h').1 f ds out hk⟩
theorem Z2k {f:FuncId} {items:List Item} {st:St} {out:List Dat} (h:loopI E f items st=some out):Evt (fun k=>(level E k).2 f items st) out:=by
 obtain⟨k,hk⟩:=Z0A.mp h
 exact⟨k,fun k' h'=>(Zq h').2 f items st out hk⟩
theorem Z2B {nt:Nat} {ops:List Oper} {fin:List Rec→St→Option (List Dat)} {fink:Nat→List Rec→St→Option (List Dat)} (hf:∀rs st out,fin rs st=some out→Evt (fun k=>fink k rs st) out):
  ∀(rest:List Oper) (j:Nat) (rs:List Rec) (st:St) (out:List Dat),runOps E nt (callI E) ops fin rest j rs st=some out→Evt (fun k=>runOps E nt (level E k).1 ops (fink k) rest j rs st) out
 |[],j,rs,st,out,h=>hf rs st out h
 |o::rest,j,rs,st,out,h=>by
  have ih:=Z2B (nt:=nt) (ops:=ops) hf rest (j+1)
  have exec:(let touch:=touchOf st o
   let look:Look:=fun i=>bif memId i touch then getO st.ob i else none
   match iop E (callI E) look st.tm o with
   |none=>none
   |some r=>bif inB nt o.dst&&r.g then r.o.bind fun ds=>
     let d:=r.f ds
     let st':=applyD st o.dst d
     let rc:Rec:=recOf ops j o st touch d
     bif guarded ops j then match d.v,o.dst with
      |.b t,some dt=>bif t then runOps E nt (callI E) ops fin rest (j+1) (rc::rs) {st' with tm:=putT st'.tm dt (.b true)}
        else runOps E nt (callI E) ops fin rest (j+1) (rc::rs) {st' with tm:=putT st'.tm dt (.b false)}
      |_,_=>none
     else bif idxed E ops o.dst then forkI d.v o.dst (fun dt v=>runOps E nt (callI E) ops fin rest (j+1) (rc::rs) {st' with tm:=putT st'.tm dt v})
     else runOps E nt (callI E) ops fin rest (j+1) (rc::rs) st'
    else none)=some out→Evt (fun k=>(let touch:=touchOf st o
   let look:Look:=fun i=>bif memId i touch then getO st.ob i else none
   match iop E (level E k).1 look st.tm o with
   |none=>none
   |some r=>bif inB nt o.dst&&r.g then r.o.bind fun ds=>
     let d:=r.f ds
     let st':=applyD st o.dst d
     let rc:Rec:=recOf ops j o st touch d
     bif guarded ops j then match d.v,o.dst with
      |.b t,some dt=>bif t then runOps E nt (level E k).1 ops (fink k) rest (j+1) (rc::rs) {st' with tm:=putT st'.tm dt (.b true)}
        else runOps E nt (level E k).1 ops (fink k) rest (j+1) (rc::rs) {st' with tm:=putT st'.tm dt (.b false)}
      |_,_=>none
     else bif idxed E ops o.dst then forkI d.v o.dst (fun dt v=>runOps E nt (level E k).1 ops (fink k) rest (j+1) (rc::rs) {st' with tm:=putT st'.tm dt v})
     else runOps E nt (level E k).1 ops (fink k) rest (j+1) (rc::rs) st'
    else none)) out:=fun hX=>by
   simp only at hX⊢
   split at hX
   ·cases hX
   ·rename_i r hiop
    obtain⟨hg,hX2⟩:=Z0 hX
    simp only[Option.bind_eq_some_iff]at hX2
    obtain⟨ds,hds,hX3⟩:=hX2
    have hiop':∃k1,∀k,k1≤k→∃r',iop E (level E k).1 (fun i=>bif memId i (touchOf st o)then getO st.ob i else none) st.tm o=some r'∧r'.g=r.g∧r'.o=some ds∧r'.f=r.f:=by
     rcases Z3N hiop with h1|⟨f,ds',h1,h2⟩
     ·exact⟨0,fun k _=>⟨r,h1 _,rfl,hds,rfl⟩⟩
     ·rw[h1]at hds
      obtain⟨k1,hk1⟩:=Z4b hds
      exact⟨k1,fun k hk=>⟨_,h2 _,rfl,hk1 k hk,rfl⟩⟩
    obtain⟨k1,hk1⟩:=hiop'
    have fin':∀{rs':List Rec} {st':St},runOps E nt (callI E) ops fin rest (j+1) rs' st'=some out→∃k2,∀k,k2≤k→runOps E nt (level E k).1 ops (fink k) rest (j+1) rs' st'=some out:=fun hh=>ih _ _ _ hh
    cases hgd:guarded ops j<;>rw[hgd]at hX3
    ·simp only[cond_false]at hX3
     cases hix:idxed E ops o.dst<;>rw[hix]at hX3
     ·simp only[cond_false]at hX3
      obtain⟨k2,hk2⟩:=fin' hX3
      refine⟨max k1 k2,fun k hk=>?_⟩
      obtain⟨r',q1,q2,q3,q4⟩:=hk1 k (by omega)
      simp only[q1,q2,hg,cond_true,q3,Option.bind_some,q4,cond_false]
      exact hk2 k (by omega)
     ·simp only[cond_true]at hX3
      obtain⟨dt,hdst,hrun,hall⟩:=Z0D hX3
      obtain⟨k2,hk2⟩:=fin' hrun
      refine⟨max k1 k2,fun k hk=>?_⟩
      obtain⟨r',q1,q2,q3,q4⟩:=hk1 k (by omega)
      simp only[q1,q2,hg,cond_true,q3,Option.bind_some,q4,cond_false,hall]
      exact hk2 k (by omega)
    ·simp only[cond_true]at hX3
     split at hX3
     ·rename_i t dt hdv hdst
      have both:∀b:Bool,t=b→runOps E nt (callI E) ops fin rest (j+1) (recOf ops j o st (touchOf st o) (r.f ds)::rs) {applyD st o.dst (r.f ds)with tm:=putT (applyD st o.dst (r.f ds)).tm dt (.b b)}=some out→Evt (fun k=>(match iop E (level E k).1 (fun i=>bif memId i (touchOf st o)then getO st.ob i else none) st.tm o with
        |none=>none
        |some r=>bif inB nt o.dst&&r.g then r.o.bind fun ds=>
         bif true then match(r.f ds).v,o.dst with
          |.b t,some dt=>bif t then runOps E nt (level E k).1 ops (fink k) rest (j+1) (recOf ops j o st (touchOf st o) (r.f ds)::rs) {applyD st o.dst (r.f ds)with tm:=putT (applyD st o.dst (r.f ds)).tm dt (.b true)}
            else runOps E nt (level E k).1 ops (fink k) rest (j+1) (recOf ops j o st (touchOf st o) (r.f ds)::rs) {applyD st o.dst (r.f ds)with tm:=putT (applyD st o.dst (r.f ds)).tm dt (.b false)}
          |_,_=>none
         else bif idxed E ops o.dst then forkI (r.f ds).v o.dst (fun dt v=>runOps E nt (level E k).1 ops (fink k) rest (j+1) (recOf ops j o st (touchOf st o) (r.f ds)::rs) {applyD st o.dst (r.f ds)with tm:=putT (applyD st o.dst (r.f ds)).tm dt v})
         else runOps E nt (level E k).1 ops (fink k) rest (j+1) (recOf ops j o st (touchOf st o) (r.f ds)::rs) (applyD st o.dst (r.f ds))
        else none)) out:=fun b hb hr=>by
       obtain⟨k2,hk2⟩:=fin' hr
       refine⟨max k1 k2,fun k hk=>?_⟩
       obtain⟨r',q1,q2,q3,q4⟩:=hk1 k (by omega)
       have hg2:(inB nt (some dt)&&r.g)=true:=by rw[←hdst];exact hg
       simp only[q1,q2,hg2,cond_true,q3,Option.bind_some,q4,hdv,hdst]
       have:=hk2 k (by omega)
       rw[hdst]at this
       subst hb
       cases t
       ·simpa using this
       ·simpa using this
      have hh:∃b,t=b∧runOps E nt (callI E) ops fin rest (j+1) (recOf ops j o st (touchOf st o) (r.f ds)::rs) {applyD st o.dst (r.f ds)with tm:=putT (applyD st o.dst (r.f ds)).tm dt (.b b)}=some out:=by
       cases t
       ·exact⟨false,rfl,hX3⟩
       ·exact⟨true,rfl,hX3⟩
      obtain⟨b,hb1,hb2⟩:=hh
      exact both b hb1 hb2
     ·cases hX3
  simp only[runOps]at h⊢
  cases hgu:o.guard with
  |none=>
   rw[hgu]at h
   exact exec h
  |some p=>
   obtain⟨i,want⟩:=p
   rw[hgu]at h
   simp only at h⊢
   cases hti:(ops[i]?).bind (·.dst)with
   |none=>rw[hti]at h;cases h
   |some ti=>
    rw[hti]at h
    simp only at h⊢
    have pass:(bif !inB nt o.dst then none else runOps E nt (callI E) ops fin rest (j+1) (⟨j,o.dst,guardT ops o,[],[],[],[],false,false,true,false,[],[]⟩::rs) (applyD st o.dst {v:=.tup []}))=some out→
      Evt (fun k=>(bif !inB nt o.dst then none else runOps E nt (level E k).1 ops (fink k) rest (j+1) (⟨j,o.dst,guardT ops o,[],[],[],[],false,false,true,false,[],[]⟩::rs) (applyD st o.dst {v:=.tup []}))) out:=fun hp=>by
     cases hb:inB nt o.dst<;>rw[hb]at hp
     ·cases hp
     ·exact ih _ _ _ hp
    split at h
    ·rename_i x hx
     try simp only[hx]
     cases hxw:(x==want)<;>rw[hxw]at h
     ·exact pass h
     ·exact exec h
    ·rename_i hx
     try simp only[hx]
     exact pass h
    ·cases h
theorem Z3O {f:FuncId} {fn:Func}:∀(n:Nat) (items:List Item) (st:St) (out:List Dat),runN E f fn (loopI E f) (callI E) n items st=some out→Evt (fun k=>runN E f fn ((level E k).2 f) (level E k).1 n items st) out:=by
 intro n
 induction n with
 |zero=>intro items st out h;simp[runN]at h
 |succ n ih=>
  intro items st out h
  simp only[runN]at h⊢
  split at h
  ·exact⟨0,fun _ _=>h⟩
  ·exact⟨0,fun _ _=>h⟩
  ·exact ih _ _ _ h
  ·exact ih _ _ _ h
  ·exact ih _ _ _ h
  ·split at h
   ·rename_i t ht
    cases t
    ·(try simp only[ht]);exact ih _ _ _ h
    ·(try simp only[ht]);exact ih _ _ _ h
   ·cases h
  ·exact ih _ _ _ h
  ·exact Z2k h
  ·exact Z2k h
  ·split at h
   ·rename_i r' hx
    try simp only[hx]
    exact ih _ _ _ h
   ·cases h
  ·refine Z2B (fun rs st' out' h'=>?_) _ _ _ _ _ h
   obtain⟨hb,h'⟩:=Z0 h'
   simp only[hb,cond_true]
   exact ih _ _ _ h'
  ·cases h
theorem Z4x {f:FuncId} {fn:Func} {c:Code} {ds:List Dat} {st:St} (hx:E.X f=none) (hf:E.F f=some fn) (hb:fn.body=some c) (hi:init E f fn ds=some st):
  callI E f ds=runN E f fn (loopI E f) (callI E) budget [.code c] st:=by
 have hk:∀k,(level E (k+1)).1 f ds=runN E f fn ((level E k).2 f) (level E k).1 budget [.code c] st:=fun k=>by
  rw[level]
  simp only[hx,hf,hb,hi]
 have h1:∀out,callI E f ds=some out→runN E f fn (loopI E f) (callI E) budget [.code c] st=some out:=fun out h=>by
  obtain⟨k,hk'⟩:=callI_iff.mp h
  have:=(Z0M (E:=E) k).1 f ds out hk'
  rw[hk]at this
  exact Z1T (fun f ds out h=>callI_iff.mpr ⟨k,h⟩) (fun items st out h=>Z0A.mpr ⟨k,h⟩) _ _ _ _ this
 have h2:∀out,runN E f fn (loopI E f) (callI E) budget [.code c] st=some out→callI E f ds=some out:=fun out h=>by
  obtain⟨k,hk'⟩:=Z3O _ _ _ _ h
  have h3:=hk' k (Nat.le_refl _)
  simp only at h3
  rw[←hk]at h3
  exact callI_iff.mpr ⟨k+1,h3⟩
 cases h:callI E f ds with
 |some out=>exact(h1 out h).symm
 |none=>
  cases h':runN E f fn (loopI E f) (callI E) budget [.code c] st with
  |none=>rfl
  |some out=>rw[h2 out h']at h;cases h
theorem Z4y {f:FuncId} {fn:Func} {c:Code} {r:List Item} {st:St} (hf:E.F f=some fn):
  loopI E f (.inLoop c::r) st=runN E f fn (loopI E f) (callI E) budget (.code c::.inLoop c::r) st:=by
 have hk:∀k,(level E (k+1)).2 f (.inLoop c::r) st=runN E f fn ((level E k).2 f) (level E k).1 budget (.code c::.inLoop c::r) st:=fun k=>by
  rw[level]
  simp only[hf]
 have h1:∀out,loopI E f (.inLoop c::r) st=some out→runN E f fn (loopI E f) (callI E) budget (.code c::.inLoop c::r) st=some out:=fun out h=>by
  obtain⟨k,hk'⟩:=Z0A.mp h
  have:=(Z0M (E:=E) k).2 f _ st out hk'
  rw[hk]at this
  exact Z1T (fun f ds out h=>callI_iff.mpr ⟨k,h⟩) (fun items st out h=>Z0A.mpr ⟨k,h⟩) _ _ _ _ this
 have h2:∀out,runN E f fn (loopI E f) (callI E) budget (.code c::.inLoop c::r) st=some out→loopI E f (.inLoop c::r) st=some out:=fun out h=>by
  obtain⟨k,hk'⟩:=Z3O _ _ _ _ h
  have h3:=hk' k (Nat.le_refl _)
  simp only at h3
  rw[←hk]at h3
  exact Z0A.mpr ⟨k+1,h3⟩
 cases h:loopI E f (.inLoop c::r) st with
 |some out=>exact(h1 out h).symm
 |none=>
  cases h':runN E f fn (loopI E f) (callI E) budget (.code c::.inLoop c::r) st with
  |none=>rfl
  |some out=>rw[h2 out h']at h;cases h
def isLoop:List Item→Bool
 |.inLoop _::_=>true
 |_=>false
def enterL:List Item→List Item
 |.inLoop c::r=>.code c::.inLoop c::r
 |x=>x
theorem Z4z {f:FuncId} {fn:Func} {items:List Item} {st:St} (hf:E.F f=some fn) (hl:isLoop items=true):
  loopI E f items st=runN E f fn (loopI E f) (callI E) budget (enterL items) st:=by
 unfold isLoop at hl
 split at hl
 ·exact Z4y hf
 ·cases hl
def loopsOf:Code→List Item→List (List Item)
 |.seq a b,r=>loopsOf a (.code b::r)++loopsOf b r
 |.block id c,r=>loopsOf c (.inBlock id::r)
 |.cond _ x y,r=>loopsOf x r++loopsOf y r
 |.loop c,r=>(.inLoop c::r)::loopsOf c (.inLoop c::r)
 |_,_=>[]
def loopAt (fn:Func) (k:Nat):List Item:=match fn.body with
 |some c=>(loopsOf c []).getD k []
 |none=>[]
noncomputable def runF (E:Env) (f:FuncId) (ds:List Dat):Option (List Dat):=match E.F f with
 |some fn=>match fn.body,init E f fn ds with
  |some c,some st=>runN E f fn (loopI E f) (callI E) budget [.code c] st
  |_,_=>none
 |none=>none
noncomputable def runL (E:Env) (f:FuncId) (k:Nat) (st:St):Option (List Dat):=match E.F f with
 |some fn=>runN E f fn (loopI E f) (callI E) budget (enterL (loopAt fn k)) st
 |none=>none
noncomputable def loopK (E:Env) (f:FuncId) (k:Nat) (st:St):Option (List Dat):=match E.F f with
 |some fn=>loopI E f (loopAt fn k) st
 |none=>none
theorem callI_run {f:FuncId} {ds:List Dat} (hx:E.X f=none) (hd:(match E.F f with
  |some fn=>fn.body.isSome&&(init E f fn ds).isSome
  |none=>false)=true):callI E f ds=runF E f ds:=by
 unfold runF
 split at hd
 ·rename_i fn hf
  try rw[hf]
  simp only[Bool.and_eq_true]at hd
  obtain⟨c,hc⟩:=Option.isSome_iff_exists.mp hd.1
  obtain⟨st,hs⟩:=Option.isSome_iff_exists.mp hd.2
  simp only[hc,hs]
  exact Z4x hx hf hc hs
 ·cases hd
theorem loopK_run {f:FuncId} {k:Nat} {st:St} (hd:(match E.F f with
  |some fn=>isLoop (loopAt fn k)
  |none=>false)=true):loopK E f k st=runL E f k st:=by
 unfold loopK runL
 split at hd
 ·rename_i fn hf
  try rw[hf]
  exact Z4z hf hd
 ·cases hd
end
end Go.Proofs.YtnihikajdbcoaaaGreat.Vai
namespace Go.Proofs.YtnihikajdbcoaaaGreat.Vai
open Go
inductive OkD (E:Env):Leaf→Dat→Prop
 |int (k:IntKind) (n:Int) (h:(Lit.int k n).wf=true):OkD E (.int k) (.int n)
 |bool (b:Bool):OkD E .bool (.bool b)
 |str (s:ByteArray) (h:s.size≤reachBytes):OkD E .str (.str s)
 |sl (e:TypeId) (te:TI) (rows:List (List Dat)) (ht:E.T e=some te) (hn:rows.length*te.by_≤reachBytes) (hl:∀r∈rows,r.length=te.ls.length)
   (h:∀r∈rows,∀(i:Nat) (l:Leaf),te.ls[i]?=some l→OkD E l (r.getD i default)):OkD E (.sl e) (.sl rows)
def flatOk (E:Env) (ls:List Leaf):Nat→List (Nat×TypeId)→Bool
 |cur,[]=>Nat.beq cur ls.length
 |cur,(off,ft)::r=>Nat.beq off cur&&match E.T ft with
  |some fi=>liesIn fi.ls cur ls&&flatOk E ls (cur+fi.ls.length) r
  |none=>false
section
variable {P:Program} {E:Env} {w:World}
variable {H:Type} {enc:TypeId×Value→H} {base:Nat} {spare:Nat→Bool} {held:Bool}
def RowOk (E:Env) (w:World) (ls:List Leaf) (ds:List Dat) (cs:List Value):Prop:=
 ds.length=ls.length∧cs.length=ls.length∧∀(i:Nat) (l:Leaf),ls[i]?=some l→OkD E l (ds.getD i default)∧RD E w (fun b=>b<w.heap.size) l (ds.getD i default) (cs.getD i undef)
theorem Z2l {ls:List Leaf} {cs:List Value} (hcs:cs.length=ls.length):∀(fs:List (Nat×TypeId)) (cur:Nat),flatOk E ls cur fs=true→cur≤ls.length→(∀fo ft fi,(fo,ft)∈fs→E.T ft=some fi→∃ds,RowOk E w fi.ls ds ((cs.drop fo).take fi.ls.length))→
  ∃ds:List Dat,ds.length=ls.length-cur∧∀(i:Nat) (l:Leaf),ls[cur+i]?=some l→OkD E l (ds.getD i default)∧RD E w (fun b=>b<w.heap.size) l (ds.getD i default) (cs.getD (cur+i) undef)
 |[],cur,h,_,_=>by
  have:=Z3 h
  subst this
  exact⟨[],by simp,fun i l hl=>by rw[List.getElem?_eq_none (by omega)]at hl;cases hl⟩
 |(off,ft)::r,cur,h,hle,hf=>by
  simp only[flatOk,Bool.and_eq_true]at h
  obtain⟨h1,h2⟩:=h
  have h1:=Z3 h1
  subst h1
  split at h2
  ·rename_i fi hfi
   simp only[Bool.and_eq_true]at h2
   have hl:=Z0g _ _ _ h2.1
   have hle2:off+fi.ls.length≤ls.length:=by
    rcases Nat.eq_zero_or_pos fi.ls.length with h0|h0
    ·omega
    ·have:=hl (fi.ls.length-1) _ (List.getElem?_eq_getElem (by omega))
     have:=(List.getElem?_eq_some_iff.mp this).1
     omega
   obtain⟨ds1,a1,a2,a3⟩:=hf off ft fi (by simp) hfi
   obtain⟨ds2,b1,b2⟩:=Z2l hcs r (off+fi.ls.length) h2.2 hle2 (fun fo ft' fi' hm ht'=>hf fo ft' fi' (by simp[hm]) ht')
   refine⟨ds1++ds2,by simp[a1,b1];omega,fun i l hil=>?_⟩
   by_cases hi:i<fi.ls.length
   ·have e1:(ds1++ds2).getD i default=ds1.getD i default:=by
     simp only[List.getD_eq_getElem?_getD];rw[List.getElem?_append_left (by omega)]
    have hl':fi.ls[i]?=some l:=by
     have:=hl i _ (List.getElem?_eq_getElem hi)
     rw[hil]at this
     rw[List.getElem?_eq_getElem hi]
     exact this.symm
    have:=a3 i l hl'
    have e2:((cs.drop off).take fi.ls.length).getD i undef=cs.getD (off+i) undef:=by
     simp only[List.getD_eq_getElem?_getD,List.getElem?_take,if_pos hi,List.getElem?_drop]
    rw[e2]at this
    rw[e1]
    exact this
   ·have e1:(ds1++ds2).getD i default=ds2.getD (i-fi.ls.length) default:=by
     simp only[List.getD_eq_getElem?_getD];rw[List.getElem?_append_right (by omega),a1]
    rw[e1]
    have:=b2 (i-fi.ls.length) l (by rw[←hil];congr 1;omega)
    rw[show off+fi.ls.length+(i-fi.ls.length)=off+i by omega]at this
    exact this
  ·cases h2
theorem Z3P {a:Addr} {n:Nat} {cs:List Value} (h:w.cells? base a n=some cs):cs.length=n∧∀i,i<n→w.cell? (a.add i)=some (cs.getD i undef):=by
 unfold World.cells? at h
 split at h
 ·have hl:=mapM_some_length h
  refine⟨by simpa using hl,fun i hi=>?_⟩
  have:=mapM_some_get h i i (by simp[hi])
  rw[this,List.getD_eq_getElem?_getD,List.getElem?_eq_getElem (by simp at hl;omega)]
  rfl
 ·cases h
theorem Z2m {a:Addr} {v:Value} (h:w.cell? a=some v):a.spot=none∧a.block<w.heap.size:=by
 unfold World.cell? at h
 split at h
 ·rename_i hb
  have hlt:=(Array.getElem?_eq_some_iff.mp hb).1
  refine⟨?_,hlt⟩
  cases hs:a.spot with
  |none=>rfl
  |some s=>rw[hs]at h;simp at h
 ·cases h
theorem Z3Q {a:Addr} (n:Nat) (h:a.spot=none):a.add n=⟨a.block,a.off+n,none⟩:=by
 unfold Addr.add
 split
 ·rename_i h0;subst h0;cases a;simp_all
 ·rfl
theorem Z50 (hE:EnvOk P E) (hfl:∀t ti,E.T t=some ti→ti.agg=true→flatOk E ti.ls 0 ti.fs=true):∀(fuel:Nat) (t:TypeId) (ti:TI) (cs:List Value) (x:DataW H×List MemPlace),E.T t=some ti→
  DataW.trod enc P w base spare held fuel t cs=some x→(∀n∈x.1.weights P t,n≤reachBytes)→∃ds,RowOk E w ti.ls ds cs:=by
 intro fuel
 induction fuel with
 |zero=>intro t ti cs x _ h;simp[DataW.trod]at h
 |succ fuel ih=>
  intro t ti cs x ht h hw
  have hT:=hE.T t ti ht
  cases hag:ti.agg with
  |true=>
   obtain⟨fields,hu,hfs⟩:=hE.struct ht hag
   obtain⟨xs,n,hn,rfl,hlen,hxl,hx⟩:=DataW.trod_struct hu h
   cases hn
   rw[hT.cellsOf]at hlen
   have hflat:=hfl t ti ht hag
   obtain⟨ds,d1,d2⟩:=Z2l (w:=w) (E:=E) hlen ti.fs 0 hflat (Nat.zero_le _) (fun fo ft fi hm hfi=>by
    rw[←hfs]at hm
    obtain⟨fd,hfd,e⟩:=List.mem_map.mp hm
    cases e
    obtain⟨i,hi⟩:=List.getElem?_of_mem hfd
    have hx':=hx i fd (by simpa using hi)
    have hli:i<xs.length:=by
     have:=(List.getElem?_eq_some_iff.mp hi).1
     simp at this
     omega
    rw[List.getElem?_eq_getElem hli]at hx'
    rw[(hE.T _ fi hfi).cellsOf]at hx'
    refine ih fd.type fi _ xs[i] hfi hx' fun m hm'=>hw m ?_
    simp only[DataW.weights,hu]
    exact DataW.weights_mem_each (j:=i) (t:=fd.type) (d:=xs[i].1) (by simp[hi]) (by simp[hli]) m hm')
   exact⟨ds,by simpa using d1,hlen,fun i l hl=>by simpa using d2 i l (by simpa using hl)⟩
  |false=>
   obtain⟨l,hls,hu⟩:=hT.single hag
   rw[hls]
   have one:∀(d:Dat) (v:Value),cs=[v]→OkD E l d→RD E w (fun b=>b<w.heap.size) l d v→∃ds,RowOk E w [l] ds cs:=fun d v hc h1 h2=>by
    subst hc
    refine⟨[d],rfl,rfl,fun i l' hl'=>?_⟩
    cases i with
    |zero=>simp at hl';subst hl';exact⟨h1,h2⟩
    |succ i=>simp at hl'
   cases l with
   |int k=>
    obtain⟨n,h1,rfl,h3⟩:=DataW.trod_int hu h
    exact one (.int n) _ h1 (.int k n h3) (.int k (.int n))
   |bool=>
    obtain⟨b,h1,rfl⟩:=DataW.trod_bool hu h
    exact one (.bool b) _ h1 (.bool b) (.bool (.bool b))
   |str=>
    obtain⟨s,h1,rfl,h3⟩:=DataW.trod_string hu h
    refine one (.str s) _ h1 (.str s ?_) (.str (.str s))
    have:=hw s.data.toList.length (by simp[DataW.weights])
    simpa using this
   |sl e=>
    obtain⟨te,hte⟩:=hT.elem e (by rw[hls];simp)
    have hE':=hE.T e te hte
    rcases DataW.trod_slice hu h with ⟨h1,rfl⟩|⟨a,len,cap,elems,rest,n,hn,h1,rfl,h3,h4,h5,h6,h7,_,_⟩
    ·refine one (.sl []) _ h1 (.sl e te [] hte (by simp) (by simp) (by simp)) ?_
     exact .sl e te (.sl []) none 0 (fun _ _=>undef) hte (Nat.le_refl _) (fun j r hr=>by simp[Dat.rows]at hr) (fun j i hj=>by simp[Dat.rows]at hj) (fun j i r l hr=>by simp[Dat.rows]at hr)
    ·cases hn
     rw[hE'.cellsOf]at h7
     have each:∀j:Nat,∃p:List Dat×List Value,j<len→RowOk E w te.ls p.1 p.2∧w.cells? base (a.add (j*te.ls.length)) te.ls.length=some p.2:=fun j=>by
      by_cases hj:j<len
      ·have hb:=h7 j hj
       rw[List.getElem?_eq_getElem (by omega)]at hb
       simp only[Option.bind_eq_some_iff]at hb
       obtain⟨cs',hc1,hc2⟩:=hb
       obtain⟨ds,hds⟩:=ih e te cs' _ hte hc2 (fun m hm=>hw m (by
        simp only[DataW.weights,hu,descOf,List.mem_cons,List.mem_append]
        refine .inr (.inl ?_)
        have key:∀(l:List (DataW H)) (d:DataW H),d∈l→m∈d.weights P e→m∈DataW.weightsAll P e l:=by
         intro l
         induction l with
         |nil=>intro d hd;cases hd
         |cons y l ih=>
          intro d hd hm
          simp only[DataW.weightsAll,List.mem_append]
          rcases List.mem_cons.mp hd with rfl|hd
          ·exact .inl hm
          ·exact .inr (ih d hd hm)
        exact key _ _ (List.mem_map.mpr ⟨_,List.getElem_mem (l:=elems) (n:=j) (by omega),rfl⟩) hm))
       exact⟨(ds,cs'),fun _=>⟨hds,hc1⟩⟩
      ·exact⟨([],[]),fun h=>absurd h hj⟩
     obtain⟨p,hp⟩:=Classical.axiomOfChoice each
     let rows:List (List Dat):=(List.range len).map fun j=>(p j).1
     have hrl:rows.length=len:=by simp[rows]
     have hget:∀(j:Nat) (r:List Dat),rows[j]?=some r→j<len∧r=(p j).1:=fun j r hr=>by
      have hj:j<len:=by have:=(List.getElem?_eq_some_iff.mp hr).1;omega
      simp[rows,hj]at hr
      exact⟨hj,hr.symm⟩
     have hmem:∀r∈rows,∃j,j<len∧r=(p j).1:=fun r hr=>by
      obtain⟨j,hj⟩:=List.getElem?_of_mem hr
      obtain⟨h1,h2⟩:=hget j r hj
      exact⟨j,h1,h2⟩
     refine one (.sl rows) _ h1 (.sl e te rows hte ?_ (fun r hr=>?_) (fun r hr i l hl=>?_)) ?_
     ·have:=hw ((elems.length+rest.length)*P.bytesOf e) (by simp[DataW.weights,hu,descOf])
      obtain⟨inf,i1,i2,i3,i4⟩:=hE'.info
      have hby:P.bytesOf e=te.by_:=by simp[Program.bytesOf,i1,i3]
      rw[hby]at this
      rw[hrl]
      exact Nat.le_trans (Nat.mul_le_mul_right _ (by omega)) this
     ·obtain⟨j,hj,rfl⟩:=hmem r hr
      exact(hp j hj).1.1
     ·obtain⟨j,hj,rfl⟩:=hmem r hr
      exact((hp j hj).1.2.2 i l hl).1
     ·have:=RD.sl (E:=E) (w:=w) (S:=fun b=>b<w.heap.size) e te (.sl rows) (some a) cap (fun j i=>(p j).2.getD i undef) hte (by show rows.length≤cap;omega)
       (fun j r hr=>by obtain⟨hj,rfl⟩:=hget j r hr;exact(hp j hj).1.1)
       (fun j i hj hi=>by
        have hj:j<len:=by rw[←hrl];exact hj
        obtain⟨c1,c2⟩:=Z3P (hp j hj).2
        have hc:=c2 i hi
        obtain⟨s1,s2⟩:=Z2m hc
        have c0:=c2 0 (by omega)
        have hz:(a.add (j*te.ls.length)).add 0=a.add (j*te.ls.length):=by simp[Addr.add]
        have hsp:a.spot=none:=by
         have hj0:0<len:=by omega
         have c00:=(Z3P (hp 0 hj0).2).2 0 (by omega)
         have:=(Z2m c00).1
         simpa[Addr.add]using this
        rw[Z3Q _ hsp,Z3Q _ rfl]at hc s2
        refine⟨a,rfl,hsp,s2,?_⟩
        rw[show a.off+(j*te.ls.length+i)=a.off+j*te.ls.length+i by omega]
        exact hc)
       (fun j i r l hr hl=>by
        obtain⟨hj,rfl⟩:=hget j r hr
        exact((hp j hj).1.2.2 i l hl).2)
      have e:(Dat.sl rows).rows.length=len:=hrl
      rw[e]at this
      exact this
theorem RowOk.rds {ls:List Leaf} {ds:List Dat} {cs:List Value} (h:RowOk E w ls ds cs):RDs E w (fun b=>b<w.heap.size) ls ds cs:=by
 induction ls generalizing ds cs with
 |nil=>
  obtain⟨h1,h2,_⟩:=h
  have:ds=[]:=List.length_eq_zero_iff.mp h1
  subst this
  have:cs=[]:=List.length_eq_zero_iff.mp h2
  subst this
  exact .nil
 |cons l ls ih=>
  obtain⟨h1,h2,h3⟩:=h
  match ds,cs,h1,h2 with
  |d::ds,c::cs,h1,h2=>
   refine .cons _ _ _ _ _ _ (by simpa using(h3 0 l rfl).2) (ih ⟨by simpa using h1,by simpa using h2,fun i l' hl'=>by simpa using h3 (i+1) l' (by simpa using hl')⟩)
theorem RDs.app {S:Nat→Prop} {ls1 ls2:List Leaf} {d1 d2:List Dat} {c1 c2:List Value} (h1:RDs E w S ls1 d1 c1) (h2:RDs E w S ls2 d2 c2):RDs E w S (ls1++ls2) (d1++d2) (c1++c2):=by
 induction h1 with
 |nil=>exact h2
 |cons l d v ls ds vs h1 _ ih=>exact .cons _ _ _ _ _ _ h1 ih
inductive OkDs (E:Env):List Leaf→List Dat→Prop
 |nil:OkDs E [] []
 |cons (l:Leaf) (d:Dat) (ls:List Leaf) (ds:List Dat) (h1:OkD E l d) (h:OkDs E ls ds):OkDs E (l::ls) (d::ds)
theorem RowOk.oks {ls:List Leaf} {ds:List Dat} {cs:List Value} (h:RowOk E w ls ds cs):OkDs E ls ds:=by
 induction ls generalizing ds cs with
 |nil=>
  have:ds=[]:=List.length_eq_zero_iff.mp h.1
  subst this
  exact .nil
 |cons l ls ih=>
  obtain⟨h1,h2,h3⟩:=h
  match ds,cs,h1,h2 with
  |d::ds,c::cs,h1,h2=>
   exact .cons _ _ _ _ (by simpa using(h3 0 l rfl).1) (ih (cs:=cs) ⟨by simpa using h1,by simpa using h2,fun i l' hl'=>by simpa using h3 (i+1) l' (by simpa using hl')⟩)
theorem OkDs.app {ls1 ls2:List Leaf} {d1 d2:List Dat} (h1:OkDs E ls1 d1) (h2:OkDs E ls2 d2):OkDs E (ls1++ls2) (d1++d2):=by
 induction h1 with
 |nil=>exact h2
 |cons l d ls ds h1 _ ih=>exact .cons _ _ _ _ h1 ih
theorem Z1P (hE:EnvOk P E) (hfl:∀t ti,E.T t=some ti→ti.agg=true→flatOk E ti.ls 0 ti.fs=true):∀(ts:List TypeId) (ps:List TI) (vs:List Value) (dw:List (DataW H)) (mp:List MemPlace),lsOf E ts=some ps→
  DataW.TrodAll enc P w base spare held ts vs dw mp→(∀n∈DataW.weightsEach P ts dw,n≤reachBytes)→(∀(j:Nat) t v,ts[j]?=some t→vs[j]?=some v→Value.okWide P w .any base t v)→
  ∃cells ds,PackR ps vs cells∧RDs E w (fun b=>b<w.heap.size) (joinLs ps) ds cells∧OkDs E (joinLs ps) ds
 |[],ps,[],[],mp,hps,_,_,_=>by
  simp only[lsOf,Option.some.injEq]at hps
  subst hps
  exact⟨[],[],.nil,.nil,.nil⟩
 |[],_,_::_,_,_,_,h,_,_=>by simp[DataW.TrodAll]at h
 |[],_,[],_::_,_,_,h,_,_=>by simp[DataW.TrodAll]at h
 |_::_,_,[],_,_,_,h,_,_=>by simp[DataW.TrodAll]at h
 |_::_,_,_::_,[],_,_,h,_,_=>by simp[DataW.TrodAll]at h
 |t::ts,ps,v::vs,d::dw,mp,hps,h,hw,hok=>by
  obtain⟨ti,q,ht,hq,rfl⟩:=Z13 hps
  obtain⟨p,q',⟨fuel,h1⟩,h2,_⟩:=h
  obtain⟨cells,ds,i1,i2,i3⟩:=Z1P hE hfl ts q vs dw q' hq h2 (fun n hn=>hw n (by simp[DataW.weightsEach,hn])) (fun j t v hj hv=>hok (j+1) t v (by simpa using hj) (by simpa using hv))
  obtain⟨ds1,r⟩:=Z50 hE hfl fuel t ti _ _ ht h1 (fun n hn=>hw n (by simp[DataW.weightsEach,hn]))
  have hT:=hE.T t ti ht
  have hov:=hok 0 t v rfl rfl
  have hpk:Packed ti.agg v v.cells.toList:=by
   have rd:=r.rds
   have hone:∀u∈v.cells.toList,oneV u:=fun u hu=>by
    obtain⟨i,hi⟩:=List.getElem?_of_mem hu
    have hil:i<ti.ls.length:=by have:=(List.getElem?_eq_some_iff.mp hi).1;have:=r.2.1;omega
    have:=(r.2.2 i _ (List.getElem?_eq_getElem hil)).2.one
    rw[List.getD_eq_getElem?_getD,hi]at this
    exact this
   refine⟨hone,?_⟩
   cases hag:ti.agg with
   |true=>
    obtain⟨fields,hu,_⟩:=hE.struct ht hag
    obtain⟨cs,rfl,_⟩:=WideShapes.okWide_struct hu hov
    simp[Value.cells]
   |false=>
    obtain⟨l,hls,hu⟩:=hT.single hag
    have:∃v',v=v'∧v'.cells= #[v']:=by
     cases l with
     |int k=>obtain⟨n,rfl⟩:=WideShapes.okWide_int hu hov;exact⟨_,rfl,rfl⟩
     |bool=>obtain⟨n,rfl⟩:=WideShapes.okWide_bool hu hov;exact⟨_,rfl,rfl⟩
     |str=>obtain⟨n,rfl⟩:=WideShapes.okWide_string hu hov;exact⟨_,rfl,rfl⟩
     |sl e=>obtain⟨a,n,c,rfl⟩:=WideShapes.okWide_slice hu hov;exact⟨_,rfl,rfl⟩
    obtain⟨v',rfl,hc⟩:=this
    simp[hc]
  exact⟨v.cells.toList++cells,ds1++ds,.cons _ _ _ _ _ _ hpk r.2.1 i1,r.rds.app i2,r.oks.app i3⟩
end
end Go.Proofs.YtnihikajdbcoaaaGreat.Vai
namespace Go.Proofs.YtnihikajdbcoaaaGreat.Vai
open Go
def lookN {α:Type}:List (Nat×α)→Nat→Option α
 |[],_=>none
 |(k,v)::r,t=>bif Nat.beq k t then some v else lookN r t
theorem Zr {α:Type} {v:α} {t:Nat}:∀{l:List (Nat×α)},lookN l t=some v→(t,v)∈l
 |[],h=>by cases h
 |(k,u)::r,h=>by
  simp only[lookN]at h
  cases hb:Nat.beq k t<;>rw[hb]at h
  ·exact List.mem_cons_of_mem _ (Zr h)
  ·cases h
   rw[Z3 hb]
   exact List.mem_cons_self
def keepOf:List (Nat×Nat×List Nat)→Nat→Nat→List Nat
 |[],_,_=>[]
 |(a,b,l)::r,f,k=>bif Nat.beq a f&&Nat.beq b k then l else keepOf r f k
def zIs:Leaf→Value→Bool
 |.int k,.int k' n=>ikEq k k'&&n==0
 |.bool,.bool b=> !b
 |.str,.string s=>Nat.beq s.data.toList.length 0
 |.sl _,.slice none 0 0=>true
 |_,_=>false
def zAll:List Leaf→List Value→Bool
 |[],[]=>true
 |l::ls,v::vs=>zIs l v&&zAll ls vs
 |_,_=>false
theorem Z5R {l:Leaf} {v:Value} (h:zIs l v=true):v=zeroV l:=by
 unfold zIs at h
 split at h
 ·simp only[Bool.and_eq_true,ikEq,decide_eq_true_eq,beq_iff_eq]at h
  rw[h.1,h.2];rfl
 ·simp only[Bool.not_eq_true']at h
  rw[h];rfl
 ·rename_i s
  have:=Z3 h
  have h2:s.data.toList=[]:=List.length_eq_zero_iff.mp this
  have h3:s.data= #[]:=Array.toList_inj.mp (by simpa using h2)
  have:s=⟨#[]⟩:=by cases s;simp_all
  rw[this];rfl
 ·rfl
 ·cases h
theorem Z2J:∀{ls:List Leaf} {vs:List Value},zAll ls vs=true→vs=ls.map zeroV
 |[],[],_=>rfl
 |[],_::_,h=>by cases h
 |_::_,[],h=>by cases h
 |l::ls,v::vs,h=>by
  simp only[zAll,Bool.and_eq_true]at h
  rw[Z5R h.1,Z2J h.2]
  rfl
def descIs:Leaf→TypeDesc→Bool
 |.int k,.int k'=>ikEq k k'
 |.bool,.bool=>true
 |.str,.string=>true
 |.sl e,.slice e'=>Nat.beq e e'
 |_,_=>false
theorem Z2n {l:Leaf} {d:TypeDesc} (h:descIs l d=true):d=descOf l:=by
 unfold descIs at h
 split at h
 ·simp only[ikEq,decide_eq_true_eq]at h
  rw[h];rfl
 ·rfl
 ·rfl
 ·rw[Z3 h];rfl
 ·cases h
def fsEq:List (Nat×Nat)→List (Nat×Nat)→Bool
 |[],[]=>true
 |(a,b)::r,(c,d)::s=>Nat.beq a c&&(Nat.beq b d&&fsEq r s)
 |_,_=>false
theorem Z3m:∀{a b:List (Nat×Nat)},fsEq a b=true→a=b
 |[],[],_=>rfl
 |[],_::_,h=>by cases h
 |_::_,[],h=>by cases h
 |(a,b)::r,(c,d)::s,h=>by
  simp only[fsEq,Bool.and_eq_true]at h
  rw[Z3 h.1,Z3 h.2.1,Z3m h.2.2]
def infoB (P:Program) (t:TypeId) (ti:TI):Bool:=match P.info? t with
 |some i=>Nat.beq i.size ti.ls.length&&(Nat.beq i.bytes ti.by_&&match i.zero with
  |some v=>(match ti.agg,v with
   |true,.agg arr=>zAll ti.ls arr.toList
   |false,v=>zAll ti.ls [v]&&Nat.beq ti.ls.length 1
   |_,_=>false)
  |none=>false)
 |none=>false
def descB (P:Program) (t:TypeId) (ti:TI):Bool:=match ti.agg,P.underlying t with
 |true,some (.struct fs)=>fsEq (fs.toList.map fun f=>(f.offset,f.type)) ti.fs
 |false,some d=>(match ti.ls with
  |[l]=>descIs l d
  |_=>false)
 |_,_=>false
def elemB (E:Env):List Leaf→Bool
 |[]=>true
 |.sl e::r=>(E.T e).isSome&&elemB E r
 |_::r=>elemB E r
def fldB (E:Env) (n:Nat):List (Nat×TypeId)→Bool
 |[]=>true
 |(fo,ft)::r=>(match E.T ft with
  |some fi=>Nat.ble (fo+fi.ls.length) n
  |none=>false)&&fldB E n r
def tokB (P:Program) (E:Env) (t:TypeId) (ti:TI):Bool:=
 infoB P t ti&&(descB P t ti&&(Nat.blt 0 ti.ls.length&&(Nat.blt 0 ti.by_&&(elemB E ti.ls&&(fldB E ti.ls.length ti.fs&&(!ti.agg||flatOk E ti.ls 0 ti.fs))))))
theorem Z1q {E:Env}:∀{ls:List Leaf},elemB E ls=true→∀e,Leaf.sl e∈ls→∃te,E.T e=some te
 |[],_,e,he=>by cases he
 |l::r,h,e,he=>by
  rcases List.mem_cons.mp he with he|he
  ·subst he
   simp only[elemB,Bool.and_eq_true]at h
   exact Option.isSome_iff_exists.mp h.1
  ·refine Z1q (ls:=r) ?_ e he
   cases l<;>simp only[elemB,Bool.and_eq_true]at h
   ·exact h
   ·exact h
   ·exact h
   ·exact h.2
theorem Z2K {E:Env} {n:Nat}:∀{fs:List (Nat×TypeId)},fldB E n fs=true→∀(f fo:Nat) (ft:TypeId),fs[f]?=some (fo,ft)→∃fi,E.T ft=some fi∧fo+fi.ls.length≤n
 |[],_,f,fo,ft,h=>by simp at h
 |(a,b)::r,h,f,fo,ft,hf=>by
  simp only[fldB,Bool.and_eq_true]at h
  cases f with
  |zero=>
   simp only[List.getElem?_cons_zero,Option.some.injEq,Prod.mk.injEq]at hf
   obtain⟨rfl,rfl⟩:=hf
   have h1:=h.1
   split at h1
   ·rename_i fi hfi
    exact⟨fi,hfi,Nat.le_of_ble_eq_true h1⟩
   ·cases h1
  |succ f=>exact Z2K h.2 f fo ft (by simpa using hf)
theorem Z3R {P:Program} {t:TypeId} {ti:TI} (h1:infoB P t ti=true):∃i,P.info? t=some i∧i.size=ti.ls.length∧i.bytes=ti.by_∧
  i.zero=some (if ti.agg then .agg (ti.ls.map zeroV).toArray else zeroV (ti.ls.headD .bool)):=by
 unfold infoB at h1
 split at h1
 ·rename_i i hi
  simp only[Bool.and_eq_true]at h1
  obtain⟨q1,q2,q3⟩:=h1
  refine⟨i,hi,Z3 q1,Z3 q2,?_⟩
  split at q3
  ·rename_i v hv
   rw[hv]
   split at q3
   ·rename_i arr hag
    rw[hag]
    have:=Z2J q3
    simp only[if_true]
    rw[←this]
   ·rename_i hag
    rw[hag]
    simp only[Bool.and_eq_true]at q3
    have:=Z2J q3.1
    have hl:=Z3 q3.2
    obtain⟨l,hl⟩:=List.length_eq_one_iff.mp hl
    rw[hl]at this⊢
    simp only[List.map_cons,List.map_nil,List.cons.injEq,and_true]at this
    simp[this]
   ·cases q3
  ·cases q3
 ·cases h1
theorem Z51 {P:Program} {t:TypeId} {ti:TI} (h2:descB P t ti=true):if ti.agg then∃fields:Array Field,P.underlying t=some (.struct fields)∧fields.toList.map (fun f=>(f.offset,f.type))=ti.fs else∃l,ti.ls=[l]∧P.underlying t=some (descOf l):=by
 unfold descB at h2
 split at h2
 ·rename_i fs hag hu
  rw[hag]
  exact⟨fs,hu,Z3m h2⟩
 ·rename_i d hag hu
  rw[hag]
  simp only[Bool.false_eq_true,if_false]
  split at h2
  ·rename_i l hl
   exact⟨l,hl,by rw[hu,Z2n h2]⟩
  ·cases h2
 ·cases h2
theorem Z5K {P:Program} {E:Env} {t:TypeId} {ti:TI} (h:tokB P E t ti=true):TOk P E t ti∧(ti.agg=true→flatOk E ti.ls 0 ti.fs=true∧∃fields:Array Field,P.underlying t=some (.struct fields)∧fields.toList.map (fun f=>(f.offset,f.type))=ti.fs):=by
 simp only[tokB,Bool.and_eq_true]at h
 obtain⟨h1,h2,h3,h4,h5,h6,h7⟩:=h
 have hd:=Z51 h2
 refine⟨⟨Z3R h1,?_,⟨Nat.le_of_ble_eq_true h3,Nat.le_of_ble_eq_true h4⟩,Z1q h5,Z2K h6⟩,fun ha=>?_⟩
 ·cases ha:ti.agg with
  |true=>
   rw[ha]at hd
   simp only[if_true]at hd⊢
   obtain⟨fs,hu,_⟩:=hd
   exact .inl ⟨fs,hu⟩
  |false=>
   rw[ha]at hd
   simpa using hd
 ·rw[ha]at h7 hd
  exact⟨by simpa using h7,by simpa using hd⟩
def arrB (P:Program) (t e:TypeId) (n:Nat):Bool:=match P.underlying t with
 |some (.array m e')=>Nat.beq m n&&Nat.beq e' e
 |_=>false
def tokA (P:Program) (E:Env) (t e:TypeId) (ti:TI):Bool:=infoB P t ti&&(ti.agg&&(arrB P t e ti.fs.length&&(Nat.blt 0 ti.ls.length&&(Nat.blt 0 ti.by_&&(elemB E ti.ls&&fldB E ti.ls.length ti.fs)))))
theorem Z5L {P:Program} {E:Env} {t e:TypeId} {ti:TI} (h:tokA P E t e ti=true):TOk P E t ti∧P.underlying t=some (.array ti.fs.length e)∧ti.agg=true:=by
 simp only[tokA,Bool.and_eq_true]at h
 obtain⟨h1,h0,h2,h3,h4,h5,h6⟩:=h
 have hu:P.underlying t=some (.array ti.fs.length e):=by
  unfold arrB at h2
  split at h2
  ·rename_i m e' hu
   simp only[Bool.and_eq_true]at h2
   rw[hu,Z3 h2.1,Z3 h2.2]
  ·cases h2
 exact⟨⟨Z3R h1,by rw[h0];exact .inr ⟨_,_,hu⟩,⟨Nat.le_of_ble_eq_true h3,Nat.le_of_ble_eq_true h4⟩,Z1q h5,Z2K h6⟩,hu,h0⟩
def AllF (P:Program):List (Nat×Func)→Prop
 |[]=>True
 |(f,fn)::r=>P.funcs[f]?=some fn∧AllF P r
def funB (fn:Func):Bool:= !(fn.name== "runtime.NumGoroutine")&&(fn.body.isSome&&(Nat.ble fn.params.size fn.ntmps&&Nat.ble fn.ntmps 1000000))
theorem AllF.mem {P:Program}:∀{l:List (Nat×Func)},AllF P l→∀f fn,(f,fn)∈l→P.funcs[f]?=some fn
 |[],_,f,fn,h=>by cases h
 |(a,b)::r,hA,f,fn,h=>by
  rcases List.mem_cons.mp h with h|h
  ·cases h;exact hA.1
  ·exact AllF.mem hA.2 f fn h
def mapB (P:Program) (t:TypeId) (q:TypeId×TypeId):Bool:=match P.underlying t with
 |some (.map k e)=>Nat.beq k q.1&&Nat.beq e q.2
 |_=>false
theorem envOk {P:Program} {E:Env} {tl:List (Nat×TI)} {fl:List (Nat×Func)} {ml:List (Nat×(TypeId×TypeId))} {al:List (Nat×(TypeId×TI))} (hA:E.A=lookN al) (hab:al.all (fun p=>tokA P E p.1 p.2.1 p.2.2)=true) (hM:E.M=lookN ml) (hmb:ml.all (fun p=>mapB P p.1 p.2)=true) (hT:E.T=lookN tl) (hF:E.F=lookN fl) (ht:tl.all (fun p=>tokB P E p.1 p.2)=true) (hf:AllF P fl) (hb:fl.all (fun p=>funB p.2)=true)
  (hm:P.follows .mixedOrders=true) (heq:∀t ti,E.eqT t=true→E.T t=some ti→EqOk P t ti.ls):EnvOk P E∧∀t ti,E.T t=some ti→ti.agg=true→flatOk E ti.ls 0 ti.fs=true:=by
 have hty:∀t ti,E.T t=some ti→TOk P E t ti∧(ti.agg=true→flatOk E ti.ls 0 ti.fs=true∧∃fields:Array Field,P.underlying t=some (.struct fields)∧fields.toList.map (fun f=>(f.offset,f.type))=ti.fs):=fun t ti h=>by
  rw[hT]at h
  exact Z5K (List.all_eq_true.mp ht _ (Zr h))
 have hfn:∀f fn,E.F f=some fn→P.funcs[f]?=some fn∧funB fn=true:=fun f fn h=>by
  rw[hF]at h
  exact⟨hf.mem f fn (Zr h),List.all_eq_true.mp hb _ (Zr h)⟩
 refine⟨⟨fun t ti h=>(hty t ti h).1,fun t ti h ha=>((hty t ti h).2 ha).2,fun t e ti h=>?_,fun f fn h=>?_,fun f fn h=>?_,hm,heq,fun t kt et h=>?_⟩,fun t ti h ha=>((hty t ti h).2 ha).1⟩
 ·rw[hA]at h
  exact Z5L (List.all_eq_true.mp hab _ (Zr h))
 ·obtain⟨h1,h2⟩:=hfn f fn h
  simp only[funB,Bool.and_eq_true,Bool.not_eq_true']at h2
  refine⟨h1,h2.1,?_⟩
  cases hbd:fn.body with
  |none=>rw[hbd]at h2;exact absurd h2.2.1 (by simp)
  |some c=>rfl
 ·obtain⟨h1,h2⟩:=hfn f fn h
  simp only[funB,Bool.and_eq_true]at h2
  exact⟨Nat.le_of_ble_eq_true h2.2.2.1,Nat.le_of_ble_eq_true h2.2.2.2⟩
 ·rw[hM]at h
  have:=List.all_eq_true.mp hmb _ (Zr h)
  unfold mapB at this
  split at this
  ·rename_i k e hu
   simp only[Bool.and_eq_true]at this
   have e1:=Nat.eq_of_beq_eq_true this.1
   have e2:=Nat.eq_of_beq_eq_true this.2
   simp only at e1 e2 hu
   rw[hu,e1,e2]
  ·cases this
end Go.Proofs.YtnihikajdbcoaaaGreat.Vai
namespace Go.Proofs.YtnihikajdbcoaaaGreat.Vai
open Go
def ltI (a b:Int):Bool:=decide (a<b)
def leI (a b:Int):Bool:=decide (a≤b)
def eqI (a b:Int):Bool:=decide (a=b)
def leN (a b:Nat):Bool:=decide (a≤b)
def eqBo (a b:Bool):Bool:=decide (a=b)
def gn (l:List Dat):Int:=(l.headD (.int 0)).n
def gb (l:List Dat):Bool:=(l.headD (.int 0)).b
def gs (l:List Dat):ByteArray:=(l.headD (.int 0)).s
def gl (l:List Dat):List (List Dat):=(l.headD (.int 0)).rows
def tk:Nat→List Dat→List Dat
 |0,l=>l
 |k+1,l=>tk k l.tail
def inR (i n:Int):Bool:=leI 0 i&&ltI i n
def fitM (n b:Nat):Bool:=leN (n*b) 70368744177664
abbrev w64 (n:Int):Int:=IntKind.wrap .i64 n
abbrev len {α:Type} (l:List α):Nat:=l.length
abbrev lenI {α:Type} (l:List α):Int:=(l.length:Int)
abbrev szI (s:ByteArray):Int:=(s.size:Int)
def S (l:List UInt8):ByteArray:=⟨⟨l⟩⟩
abbrev ext (s:ByteArray) (i j:Nat):ByteArray:=s.extract i j
def eqS (a b:ByteArray):Bool:=a.toList==b.toList
def fitS (a b:ByteArray):Bool:=leN (a.size+b.size) 9223372036854775807
def in3 (i j n:Int):Bool:=leI 0 i&&(leI i j&&leI j n)
def updR (x:List (List Dat)) (i c:Nat) (ds:List Dat):List (List Dat):=x.set i (setRange (x.getD i []) c ds)
abbrev at' (x:List (List Dat)) (i:Nat):List Dat:=x.getD i []
abbrev tn (i:Int):Nat:=i.toNat
def flatLeaf:Leaf→Bool
 |.sl _=>false
 |_=>true
def eqFs (P:Program) (ls:List Leaf):Nat→List Field→Bool
 |i,[]=>Nat.beq i ls.length
 |i,f::r=> !(f.name== "_")&&(Nat.beq f.offset i&&((match P.underlying f.type,ls[i]? with
  |some d,some l=>flatLeaf l&&descIs l d
  |_,_=>false)&&eqFs P ls (i+1) r))
def eqB (P:Program) (t:TypeId) (ls:List Leaf):Bool:= !P.stoodInHeld t&&(!P.eqGuardType P.depth t&&match P.underlying t with
 |some (.struct fs)=>eqFs P ls 0 fs.toList
 |_=>false)
section
variable {P:Program} {w:World}
theorem Z4c:∀(i:Nat) {ls:List Leaf} {cs ds:List AV} {r:Bool},avFits (ls.drop i) (cs.drop i)=true→avFits (ls.drop i) (ds.drop i)=true→avEq (cs.drop i) (ds.drop i)=some r→i<ls.length→
  ∃l c d q s,ls[i]?=some l∧cs[i]?=some c∧ds[i]?=some d∧avFits (ls.drop (i+1)) (cs.drop (i+1))=true∧avFits (ls.drop (i+1)) (ds.drop (i+1))=true∧avEq (cs.drop (i+1)) (ds.drop (i+1))=some s∧r=(q&&s)∧
   ((∃k k' a b,l=.int k'∧c=.i k a∧d=.i k b∧q=(a==b))∨(∃a b,l=.bool∧c=.b a∧d=.b b∧q=(a==b))∨∃a b,l=.str∧c=.s a∧d=.s b∧q=(a.toList==b.toList)):=by
 intro i ls cs ds r h1 h2 h3 hi
 have e:ls.drop i=ls[i]::ls.drop (i+1):=List.drop_eq_getElem_cons hi
 rw[e]at h1 h2
 have hc:∃c,cs.drop i=c::cs.drop (i+1)∧cs[i]?=some c:=by
  by_cases hlt:i<cs.length
  ·exact⟨cs[i],List.drop_eq_getElem_cons hlt,List.getElem?_eq_getElem hlt⟩
  ·rw[List.drop_eq_nil_of_le (as:=cs) (i:=i) (by omega)]at h1
   cases hl:ls[i]<;>rw[hl]at h1<;>cases h1
 have hd:∃c,ds.drop i=c::ds.drop (i+1)∧ds[i]?=some c:=by
  by_cases hlt:i<ds.length
  ·exact⟨ds[i],List.drop_eq_getElem_cons hlt,List.getElem?_eq_getElem hlt⟩
  ·rw[List.drop_eq_nil_of_le (as:=ds) (i:=i) (by omega)]at h2
   cases hl:ls[i]<;>rw[hl]at h2<;>cases h2
 obtain⟨c,c1,c2⟩:=hc
 obtain⟨d,d1,d2⟩:=hd
 rw[c1]at h1 h3
 rw[d1]at h2 h3
 have hl:ls[i]?=some ls[i]:=List.getElem?_eq_getElem hi
 generalize ls[i]=l at h1 h2 hl
 cases l<;>cases c<;>simp only[avFits,Bool.false_eq_true]at h1<;>cases d<;>simp only[avFits,Bool.false_eq_true]at h2
 ·rename_i k0 k a k' b
  simp only[avEq]at h3
  obtain⟨hk,h4⟩:=Z0 h3
  simp only[ikEq,decide_eq_true_eq]at hk
  subst hk
  obtain⟨s,hs,rfl⟩:=Option.map_eq_some_iff.mp h4
  exact⟨_,_,_,_,s,hl,c2,d2,h1,h2,hs,rfl,.inl ⟨k,k0,a,b,rfl,rfl,rfl,rfl⟩⟩
 ·rename_i a b
  simp only[avEq]at h3
  obtain⟨s,hs,rfl⟩:=Option.map_eq_some_iff.mp h3
  exact⟨_,_,_,_,s,hl,c2,d2,h1,h2,hs,rfl,.inr (.inl ⟨a,b,rfl,rfl,rfl,rfl⟩)⟩
 ·rename_i a b
  simp only[avEq]at h3
  obtain⟨s,hs,rfl⟩:=Option.map_eq_some_iff.mp h3
  exact⟨_,_,_,_,s,hl,c2,d2,h1,h2,hs,rfl,.inr (.inr ⟨a,b,rfl,rfl,rfl,rfl⟩)⟩
theorem Z2o {t:TypeId} {l:Leaf} (hl:flatLeaf l=true) (hu:P.underlying t=some (descOf l)) {xs:Array Value} {off:Nat} {v:Value} (hx:xs[off]?=some v):(part t xs off).run P w=.ok v w:=by
 cases l<;>first|cases hl|skip
 all_goals simp[part,isAgg,run_underlying hu,descOf,hx]
theorem Z1j {ls:List Leaf} {cs ds:List AV} {xs ys:Array Value} (hx:scalRel cs xs) (hy:scalRel ds ys) (dp:Nat):∀(fs:List Field) (i:Nat) (r:Bool),eqFs P ls i fs=true→i≤ls.length→avFits (ls.drop i) (cs.drop i)=true→avFits (ls.drop i) (ds.drop i)=true→avEq (cs.drop i) (ds.drop i)=some r→
  (Op.eqFields (dp+1) xs ys fs).run P w=.ok r w
 |[],i,r,h,_,h1,h2,h3=>by
  have:=Z3 h
  rw[List.drop_eq_nil_of_le (by omega)]at h1 h2
  have hc:cs.drop i=[]:=by
   cases hcs:cs.drop i with
   |nil=>rfl
   |cons c r=>rw[hcs]at h1;cases h1
  have hd:ds.drop i=[]:=by
   cases hds:ds.drop i with
   |nil=>rfl
   |cons c r=>rw[hds]at h2;cases h2
  rw[hc,hd]at h3
  simp only[avEq,Option.some.injEq]at h3
  subst h3
  simp[Op.eqFields]
 |f::fs,i,r,h,hle,h1,h2,h3=>by
  simp only[eqFs,Bool.and_eq_true,Bool.not_eq_true']at h
  obtain⟨hn,ho,hk,hr⟩:=h
  have ho:=Z3 ho
  have hi:i<ls.length:=by
   rcases Nat.lt_or_ge i ls.length with h|h
   ·exact h
   ·rw[List.getElem?_eq_none h]at hk
    split at hk
    ·rename_i heq;cases heq
    ·cases hk
  obtain⟨l,c,d,q,s,hl,hc,hd,f1,f2,f3,rfl,hq⟩:=Z4c i h1 h2 h3 hi
  rw[hl]at hk
  have hu:flatLeaf l=true∧P.underlying f.type=some (descOf l):=by
   split at hk
   ·rename_i dd l' hu he
    cases he
    simp only[Bool.and_eq_true]at hk
    exact⟨hk.1,by rw[hu,Z2n hk.2]⟩
   ·cases hk
  have ih:=Z1j hx hy dp fs (i+1) s hr (by omega) f1 f2 f3
  have hxi:∃x,xs[i]?=some x:=by
   have:i<xs.size:=by rw[hx.1];exact(List.getElem?_eq_some_iff.mp hc).1
   exact⟨xs[i],Array.getElem?_eq_getElem this⟩
  have hyi:∃x,ys[i]?=some x:=by
   have:i<ys.size:=by rw[hy.1];exact(List.getElem?_eq_some_iff.mp hd).1
   exact⟨ys[i],Array.getElem?_eq_getElem this⟩
  obtain⟨x,hxi⟩:=hxi
  obtain⟨y,hyi⟩:=hyi
  have ex:=hx.2 i c x hc hxi
  have ey:=hy.2 i d y hd hyi
  have hp1:(part f.type xs f.offset).run P w=.ok x w:=Z2o hu.1 hu.2 (by rw[ho];exact hxi)
  have hp2:(part f.type ys f.offset).run P w=.ok y w:=Z2o hu.1 hu.2 (by rw[ho];exact hyi)
  have he:(Op.equalIn (dp+1) f.type x y).run P w=.ok q w:=by
   rcases hq with ⟨k,k',a,b,rfl,rfl,rfl,rfl⟩|⟨a,b,rfl,rfl,rfl,rfl⟩|⟨a,b,rfl,rfl,rfl,rfl⟩
   ·simp only at ex ey
    subst ex;subst ey
    simp[Op.equalIn,run_underlying hu.2,descOf]
   ·simp only at ex ey
    subst ex;subst ey
    simp[Op.equalIn,run_underlying hu.2,descOf]
   ·simp only at ex ey
    subst ex;subst ey
    simp[Op.equalIn,run_underlying hu.2,descOf,beq_toListBytes]
  have hn':f.name≠ "_" :=by simpa using hn
  rw[Op.eqFields,if_pos hn']
  simp only[Sem.run_bind,hp1,hp2,he,Result.andThen_ok]
  cases q
  ·simp
  ·simpa using ih
theorem Z5S {t:TypeId} {ls:List Leaf} (h:eqB P t ls=true):EqOk P t ls:=by
 intro w cs ds xs ys r x y hf1 hf2 h1 h2 h3
 simp only[eqB,Bool.and_eq_true,Bool.not_eq_true']at h
 obtain⟨a1,a2,a3⟩:=h
 split at a3
 ·rename_i fs hu
  have hfo:P.fieldsOf t=fs:=by simp[Program.fieldsOf,hu]
  have key:(Op.equalIn Op.maxDepth t (.agg xs) (.agg ys)).run P w=.ok r w:=by
   have e:Op.maxDepth=9998+1+1:=rfl
   rw[e,run_equalIn_struct (P:=P) w (9998+1) t xs ys (by rw[hfo];exact hu) a1,hfo]
   exact Z1j h1 h2 9998 fs.toList 0 r a3 (Nat.zero_le _) (by simpa using hf1) (by simpa using hf2) (by simpa using h3)
  constructor
  ·simp[eqGuard,a2,binOp,Op.equal,key]
  ·simp[eqGuard,a2,binOp,Op.equal,key]
 ·cases a3
def memN (t:Nat):List Nat→Bool
 |[]=>false
 |a::r=>bif Nat.beq a t then true else memN t r
theorem Z3S {t:Nat}:∀{l:List Nat},memN t l=true→t∈l
 |[],h=>by cases h
 |a::r,h=>by
  simp only[memN]at h
  cases hb:Nat.beq a t<;>rw[hb]at h
  ·exact List.mem_cons_of_mem _ (Z3S h)
  ·rw[Z3 hb];exact List.mem_cons_self
def modeOf (ms:List (Nat×Mode)) (f:FuncId):Mode:=match lookN ms f with
 |some m=>m
 |none=>.plain
def isInout (_:Mode):Bool:=false
theorem modeOk_of {E:Env} {ms:List (Nat×Mode)} (_h:E.mode=modeOf ms) (_hi:(ms.all fun p=> !isInout p.2)=true):ModeOk E:=trivial
theorem eqs_ok {E:Env} {tl:List (Nat×TI)} {eqs:List Nat} (hT:E.T=lookN tl) (he:E.eqT=fun t=>memN t eqs) (h:(eqs.all fun t=>match lookN tl t with
  |some ti=>eqB P t ti.ls
  |none=>true)=true):∀t ti,E.eqT t=true→E.T t=some ti→EqOk P t ti.ls:=fun t ti h1 h2=>by
 rw[he]at h1
 rw[hT]at h2
 have:=List.all_eq_true.mp h t (Z3S h1)
 rw[h2]at this
 exact Z5S this
end
end Go.Proofs.YtnihikajdbcoaaaGreat.Vai
namespace Go.Proofs.YtnihikajdbcoaaaGreat.Vai
open Go Go.RowKit Go.ChangeShapes
section
variable {P:Program} {E:Env} {H:Type} {enc:TypeId×Value→H}
theorem Z0W {w:World} {base:Nat} {spare:Nat→Bool} {held:Bool}:∀{ts:List TypeId} {vs:List Value} {ds:List (DataW H)} {ps:List MemPlace},DataW.TrodAll enc P w base spare held ts vs ds ps→ds.length=ts.length
 |[],[],[],_,_=>rfl
 |[],_::_,_,_,h=>by simp[DataW.TrodAll]at h
 |[],[],_::_,_,h=>by simp[DataW.TrodAll]at h
 |_::_,[],_,_,h=>by simp[DataW.TrodAll]at h
 |_::_,_::_,[],_,h=>by simp[DataW.TrodAll]at h
 |_::_,_::_,_::_,_,⟨_,_,_,h,_⟩=>by simp[Z0W h]
theorem Kept.below {w w':World} (h:Kept w.heap.size [] w w'):Below w.heap.size w w':=⟨h.os,h.tape,h.output,h.size,fun k hk=>h.heap k hk (by simp)⟩
theorem Z0y (hl:laidOutB P=true) {W W':World} (hb:Below W.heap.size W W'):∀(ts:List TypeId) (vs:List Value) (ds:List (DataW H)) (ps:List MemPlace),(ts.all fun t=>P.readableRec t&&decide (t<P.types.size))=true→
  DataW.TrodAll enc P W 0 (fun _=>true) true ts vs ds ps→(∀x∈ps,x.block<W.heap.size)→DataW.TrodAll enc P W' 0 (fun b=>decide (b<W.heap.size)) true ts vs ds ps
 |[],[],[],_,_,h,_=>h
 |[],_::_,_,_,_,h,_=>by simp[DataW.TrodAll]at h
 |[],[],_::_,_,_,h,_=>by simp[DataW.TrodAll]at h
 |_::_,[],_,_,_,h,_=>by simp[DataW.TrodAll]at h
 |_::_,_::_,[],_,_,h,_=>by simp[DataW.TrodAll]at h
 |t::ts,v::vs,d::ds,ps,hr,h,hlt=>by
  simp only[List.all_cons,Bool.and_eq_true,decide_eq_true_eq]at hr
  obtain⟨p,q,h1,h2,rfl⟩:=h
  exact⟨p,q,Below.trod hl hr.1.1 hr.1.2 h1 hb (fun x hx=>hlt x (by simp[hx])),Z0y hl hb ts vs ds q hr.2 h2 (fun x hx=>hlt x (by simp[hx])),rfl⟩
theorem law_contract (hE:EnvOk P E) (hfl:∀t ti,E.T t=some ti→ti.agg=true→flatOk E ti.ls 0 ti.fs=true) (hlaid:laidOutB P=true) {f:FuncId} {fn:Func} (hat:PlainAt P E f (callI E f)) (hfn:E.F f=some fn) (hm:E.mode f=.plain) {ps:List TI} (hps:lsOf E fn.params.toList=some ps)
  {bt:TypeId} (hrt:fn.resultTypes= #[bt]) (hbt:E.T bt=some ⟨[.bool],1,false,[]⟩) (hread:(fn.params.toList.all fun t=>P.readableRec t&&decide (t<P.types.size))=true)
  (hpure:∀ds,OkDs E (joinLs ps) ds→callI E f ds=some [.bool true]) {s:ChangeSpec} (hvars:s.vars=[]) (hs:∀ds:List (DataW H),ds.length=fn.params.size→s.fn H (ds++[])={results:=[.lit (.bool true)],args:=ds})
  {W:World} {base:Nat} {args:Array Value} {ds gs:List (DataW H)} {before:List MemPlace} (hval:∀(j:Nat) t v,fn.params[j]?=some t→args[j]?=some v→Value.okWide P W .any base t v)
  (hW:DataW.Whole enc P fn.params.toList s.vars false W args.toList ds gs before)
  (hsz:(DataW.weightsEach P (fn.params.toList++s.plain.varTypes P) (ds++gs)).all (· ≤reachBytes)=true):
  Calls P f args W fun e W'=>∃v,e=.returned v∧s.post enc P fn false true false false W args v W':=by
 have hW':=hW
 obtain⟨p,q,hA,hV,hbe,hfz,hnd⟩:=hW
 rw[hvars]at hV
 have hgs:gs=[]:=by
  cases gs with
  |nil=>rfl
  |cons g gs=>exact hV.elim
 subst hgs
 have hlen:ds.length=fn.params.size:=by
  have:=(Z0W hA)
  simpa using this
 have hbool:P.underlying bt=some .bool:=by
  obtain⟨l,h1,h2⟩:=(hE.T _ _ hbt).single rfl
  simp only[List.cons.injEq,and_true]at h1
  subst h1
  exact h2
 obtain⟨cells,dd,o1,o2,o3⟩:=Z1P hE hfl fn.params.toList ps args.toList ds p hps hA (fun n hn=>by
  have key:∀(ts us:List TypeId) (xs ys:List (DataW H)),xs.length=ts.length→n∈DataW.weightsEach P ts xs→n∈DataW.weightsEach P (ts++us) (xs++ys):=by
   intro ts
   induction ts with
   |nil=>intro us xs ys _ hn;simp[DataW.weightsEach]at hn
   |cons t ts ih=>
    intro us xs ys hl hn
    match xs,hl with
    |x::xs,hl=>
     simp only[DataW.weightsEach,List.cons_append,List.mem_append]at hn⊢
     rcases hn with hn|hn
     ·exact .inl hn
     ·exact .inr (ih us xs ys (by simpa using hl) hn)
  have:=List.all_eq_true.mp hsz n (key _ _ _ _ (by simpa using hlen) hn)
  simpa using this) (fun j t v hj hv=>hval j t v (by simpa using hj) (by simpa using hv))
 have hrs:lsOf E fn.resultTypes.toList=some [⟨[.bool],1,false,[]⟩]:=by rw[hrt];simp[lsOf,hbt]
 have hc:=hat fn ps _ dd [.bool true] hfn hm hps hrs (hpure dd o3) W (fun b=>b<W.heap.size) args.toList cells o1 o2 (fun _ h=>h)
 rw[Array.toArray_toList]at hc
 refine hc.mono fun e W' h=>?_
 cases e with
 |returned v=>
  obtain⟨hk,rvs,rcells,bs,rfl,p1,p2,_,_⟩:=h
  have hb:=hk.below
  have hv:oneOrV rvs=.bool true:=by
   cases p1 with
   |cons ti v cs tis vs rest h1 h2 h3=>
    cases h3
    have h1':=h1.2
    simp only[Bool.false_eq_true,if_false]at h1'
    subst h1'
    cases p2 with
    |cons l d u b ls ds us bs h4 h5=>
     cases h4
     rfl
  rw[hv]
  have hres:∀(b:Nat) (sp:Nat→Bool) (hd:Bool),DataW.TrodAll enc P W' b sp hd fn.resultTypes.toList ((Value.bool true).resultList fn.resultTypes.size) (s.fn H (ds++[])).results []:=fun b sp hd=>by
   rw[hs ds hlen,hrt]
   exact trodAll_mk1 (shut_bool hbool true)
  refine⟨_,rfl,ds,[],before,[],p,[],hW',hres _ _ _,?_,?_,hb.frame _,fun h=>by cases h⟩
  ·rw[hs ds hlen]
   exact Z0y hlaid hb _ _ _ _ hread hA (fun x hx=>hW'.lt x (by rw[hbe];simp[hx]))
  ·rw[hs ds hlen,hvars]
   rfl
 |panicked c=>exact h.elim
 |outgrown=>exact h.elim
end
end Go.Proofs.YtnihikajdbcoaaaGreat.Vai
namespace Go.Proofs.YtnihikajdbcoaaaGreat.Vai
open Go
section
variable {E:Env}
theorem OkDs.nil_inv {ds:List Dat} (h:OkDs E [] ds):ds=[]:=by cases h;rfl
theorem OkDs.inv {l:Leaf} {ls:List Leaf} {ds:List Dat} (h:OkDs E (l::ls) ds):∃d r,ds=d::r∧OkD E l d∧OkDs E ls r:=by
 cases h with
 |cons _ d _ r h1 h2=>exact⟨d,r,rfl,h1,h2⟩
def I64 (n:Int):Prop:= -9223372036854775808≤n∧n≤9223372036854775807
theorem OkD.i64 {d:Dat} (h:OkD E (.int .i64) d):∃n,d=.int n∧I64 n:=by
 cases h with
 |int _ n h=>
  refine⟨n,rfl,?_⟩
  simp only[Lit.wf,IntKind.min,IntKind.max,IntKind.signed,IntKind.bits,Bool.and_eq_true,decide_eq_true_eq]at h
  simpa[I64]using h
theorem OkD.bool' {d:Dat} (h:OkD E .bool d):∃b,d=.bool b:=by
 cases h with
 |bool b=>exact⟨b,rfl⟩
theorem OkD.str' {d:Dat} (h:OkD E .str d):∃s,d=.str s∧s.size≤reachBytes:=by
 cases h with
 |str s h=>exact⟨s,rfl,h⟩
theorem OkD.sl' {e:TypeId} {te:TI} (ht:E.T e=some te) {d:Dat} (h:OkD E (.sl e) d):∃rows,d=.sl rows∧rows.length*te.by_≤reachBytes∧∀r∈rows,OkDs E te.ls r:=by
 cases h with
 |sl _ te' rows ht' hn hl h=>
  rw[ht]at ht'
  cases ht'
  refine⟨rows,rfl,hn,fun r hr=>?_⟩
  have h1:=hl r hr
  have h2:=h r hr
  clear h hl hn ht hr
  generalize te.ls=ls at h1 h2
  induction ls generalizing r with
  |nil=>
   have:r=[]:=List.length_eq_zero_iff.mp h1
   subst this
   exact .nil
  |cons l ls ih=>
   match r,h1 with
   |d::r,h1=>exact .cons _ _ _ _ (by simpa using h2 0 l rfl) (ih r (by simpa using h1) (fun i l' hl'=>by simpa using h2 (i+1) l' (by simpa using hl')))
theorem wrap64 {n:Int} (h:I64 n):IntKind.wrap .i64 n=n:=by
 obtain⟨h1,h2⟩:=h
 have e:(2:Int)^64=18446744073709551616:=by decide
 have e2:(2:Int)^(64-1)=9223372036854775808:=by decide
 simp only[IntKind.wrap,IntKind.signed,IntKind.bits,Bool.true_and,decide_eq_true_eq,e,e2]
 split<;>omega
end
end Go.Proofs.YtnihikajdbcoaaaGreat.Vai
