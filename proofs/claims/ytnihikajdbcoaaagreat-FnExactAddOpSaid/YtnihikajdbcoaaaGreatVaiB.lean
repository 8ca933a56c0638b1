import Derived.Test.YtnihikajdbcoaaaGreatVaiA
import Derived.MapKept
namespace Go.Proofs.YtnihikajdbcoaaaGreat.Vai
open Go
theorem Z2P {v:Value} (h:oneV v):v.oneCell'=true:=by
 cases v<;>first|rfl|exact absurd rfl (h.1 _)|exact absurd rfl (h.2 _)
section
variable {P:Program} {E:Env} {base:Nat} {M:List Nat} {S0:Nat→Prop} {R0:Id→Value} {w0:World} {nt:Nat} {G:Gh} {st:St} {a:Act} {w:World} {look:Look}
theorem Z2v {ats:Array TypeId} {ty t t1 e e1:TypeId} {te:TI} (ha0:ats[0]?=some t) (ha1:ats[1]?=some t1) (hu:P.underlying t=some (.slice e)) (hu1:P.underlying t1=some (.slice e1)) (hT:TOk P E e te) {B:Option Addr} {c':Nat}:
  (Builtin.append_ ats ty #[.slice none 0 0,.slice B 0 c']).run P w=.ok (.slice none 0 0) w:=by
 cases B<;>simp[Builtin.append_,ha0,ha1,run_underlying hu,run_underlying hu1,hT.size,Builtin.lenOf,Builtin.firstCells,loadCells,loadCellsFrom]
theorem Z2w {ats:Array TypeId} {ty t t1 e e1:TypeId} {te:TI} (ha0:ats[0]?=some t) (ha1:ats[1]?=some t1) (hu:P.underlying t=some (.slice e)) (hu1:P.underlying t1=some (.slice e1)) (hT:TOk P E e te)
  {g off n c:Nat} {arr:Array Value} {et:TypeId} (hg:w.heap[g]?=some (.cells arr et (0,0))) {B:Option Addr} {m c':Nat} {news:List Value} (hl:news.length=m*te.ls.length)
  (hnews:(Builtin.firstCells te.ls.length m (.slice B m c')).run P w=.ok news.toArray w) (h1:∀u∈news,oneV u) (hle:n+m≤c) (hfit:off+c*te.ls.length≤arr.size):
  (Builtin.append_ ats ty #[.slice (some ⟨g,off,none⟩) n c,.slice B m c']).run P w=
   .ok (.slice (some ⟨g,off,none⟩) (n+m) c) (w.setRow g (arr.toList.take (off+n*te.ls.length)++news++arr.toList.drop (off+n*te.ls.length+news.length)).toArray):=by
 have hle':(n+m)*te.ls.length≤c*te.ls.length:=Nat.mul_le_mul_right _ hle
 rw[Nat.add_mul]at hle'
 have hst:=run_storeCells_at P g (off+n*te.ls.length) et news 0 arr w hg (by omega) (fun v hv=>Z2P (h1 v hv))
 simp only[Nat.add_zero]at hst
 simp[Builtin.append_,ha0,ha1,run_underlying hu,run_underlying hu1,hT.size,Builtin.lenOf,hle,hnews,Z08,hst]
theorem Z2x {ats:Array TypeId} {ty t t1 e e1:TypeId} {te:TI} (ha0:ats[0]?=some t) (ha1:ats[1]?=some t1) (hu:P.underlying t=some (.slice e)) (hu1:P.underlying t1=some (.slice e1)) (hT:TOk P E e te)
  {A:Option Addr} {n c:Nat} {olds:List Value} (holds:(Builtin.firstCells te.ls.length n (.slice A n c)).run P w.drew=.ok olds.toArray w.drew) {B:Option Addr} {m c':Nat} {news:List Value}
  (hnews:(Builtin.firstCells te.ls.length m (.slice B m c')).run P w.drew=.ok news.toArray w.drew) (hlt:c<n+m) (hby:(n+m)*te.by_≤maxBytes):
  ∃c2 rest,n+m≤c2∧rest.length=(c2-(n+m))*te.ls.length∧(Builtin.append_ ats ty #[.slice A n c,.slice B m c']).run P w=
   .ok (.slice (some ⟨w.heap.size,0,none⟩) (n+m) c2) (w.drew.alloc (.cells (olds++(news++rest)).toArray e)):=by
 obtain⟨i,z,hi,hsz,hb,hz1,hz2⟩:=hT.info'
 have hbp:=hT.pos.2
 have hby':(n+m)*te.by_≤70368744177664:=hby
 have hn63:n+m≤70368744177664:=Nat.le_trans (Nat.le_mul_of_pos_right _ hbp) hby'
 have hn:¬(n+m≤c):=by omega
 have h63':¬(9223372036854775807<((n:Int)+(m:Int))):=by omega
 have hfit:=growslice_fits (old:=c) (need:=n+m) (bytes:=i.bytes) hlt (by rw[hb];omega)
 have h48':¬(281474976710656<Builtin.nextslicecap (n+m) c*i.bytes):=by omega
 refine⟨grownCap w (n+m) c e,(Builtin.zeroCells z.cells (grownCap w (n+m) c e-(n+m))).toList,grownCap_ge _ _ _ _,by simp[size_zeroCells,hz2],?_⟩
 simp[Builtin.append_,ha0,ha1,run_underlying hu,run_underlying hu1,hT.size,typeInfo,zeroValue,hi,hz1,Builtin.lenOf,hn,h63',h48',Question.forced,holds,hnews,newRow,grownCap]
 congr 2
 apply Array.ext'
 simp
def cellsOfTab (n sz:Nat) (u:Nat→Nat→Value):List Value:=(List.range (n*sz)).map fun x=>u (x/sz) (x%sz)
theorem Z7 {n sz:Nat} {u:Nat→Nat→Value}:(cellsOfTab n sz u).length=n*sz:=by simp[cellsOfTab]
theorem Z59 {j i sz:Nat} (hi:i<sz):(j*sz+i)/sz=j:=by
 rw[Nat.mul_comm,Nat.mul_add_div (by omega),Nat.div_eq_of_lt hi];rfl
theorem ZN {n sz:Nat} {u:Nat→Nat→Value} {j i:Nat} (hj:j<n) (hi:i<sz):(cellsOfTab n sz u)[j*sz+i]?=some (u j i):=by
 obtain⟨m1,m2⟩:=Zh hj hi
 simp[cellsOfTab,m1,m2,Z59 hi]
theorem Z12 {n sz c:Nat} {u:Nat→Nat→Value} {A:Option Addr} (hsz:0<sz) (hm:∀j i:Nat,j<n→i<sz→∃ad:Addr,A=some ad∧ad.spot=none∧w.cell? ⟨ad.block,ad.off+(j*sz+i),none⟩=some (u j i)):
  (Builtin.firstCells sz n (.slice A n c)).run P w=.ok (cellsOfTab n sz u).toArray w:=by
 cases A with
 |none=>
  have:n=0:=by
   cases n with
   |zero=>rfl
   |succ n=>obtain⟨ad,h,_⟩:=hm 0 0 (by omega) hsz;cases h
  subst this
  simp[Builtin.firstCells,cellsOfTab]
 |some ad=>
  refine run_firstCells_some w sz n ad n c (cellsOfTab n sz u) Z7 (fun x v hx=>?_)
  have hx':x<n*sz:=by have:=(List.getElem?_eq_some_iff.mp hx).1;rwa [Z7]at this
  have hj:x/sz<n:=Nat.div_lt_of_lt_mul (by rw[Nat.mul_comm];exact hx')
  have hi:x%sz<sz:=Nat.mod_lt _ hsz
  obtain⟨ad',h1,h2,h3⟩:=hm (x/sz) (x%sz) hj hi
  cases h1
  obtain⟨g,o,sp⟩:=ad
  simp only at h2;subst h2
  rw[Z08]
  have hx2:x/sz*sz+x%sz=x:=by rw[Nat.mul_comm];exact Nat.div_add_mod x sz
  have hv:v=u (x/sz) (x%sz):=by
   have:=ZN (u:=u) hj hi
   rw[hx2,hx]at this
   exact Option.some.inj this
  rw[hv,←h3,hx2]
theorem TabR.append {S D1 D2:Nat→Prop} {d1 d2:Bool} {te:TI} {r1 r2:List (List Dat)} {u1 u2:Nat→Nat→Value} {b1 b2:Nat→Nat→List Nat} (h1:TabR E w S D1 d1 te r1 u1 b1) (h2:TabR E w S D2 d2 te r2 u2 b2)
  (hx:∀b,D1 b→D2 b→False):TabR E w S (fun b=>D1 b∨D2 b) (d1&&d2) te (r1++r2) (fun j i=>if j<r1.length then u1 j i else u2 (j-r1.length) i) (fun j i=>if j<r1.length then b1 j i else b2 (j-r1.length) i):=by
 have hget:∀j r,(r1++r2)[j]?=some r→(j<r1.length∧r1[j]?=some r)∨(¬j<r1.length∧r2[j-r1.length]?=some r):=fun j r hj=>by
  by_cases h:j<r1.length
  ·rw[List.getElem?_append_left h]at hj;exact .inl ⟨h,hj⟩
  ·rw[List.getElem?_append_right (by omega)]at hj;exact .inr ⟨h,hj⟩
 refine⟨fun j r hj=>?_,fun j i r l hj hl=>?_,fun hd j i r l hj hl=>?_,fun j i b hb=>?_,fun j i=>?_,fun j i j' i' hne b hb hb'=>?_⟩
 ·rcases hget j r hj with ⟨_,hj⟩|⟨_,hj⟩
  ·exact h1.len _ _ hj
  ·exact h2.len _ _ hj
 ·rcases hget j r hj with ⟨hlt,hj⟩|⟨hlt,hj⟩
  ·simp only[hlt,if_true];exact h1.rd _ _ _ _ hj hl
  ·simp only[hlt,if_false];exact h2.rd _ _ _ _ hj hl
 ·simp only[Bool.and_eq_true]at hd
  rcases hget j r hj with ⟨hlt,hj⟩|⟨hlt,hj⟩
  ·simp only[hlt,if_true];exact h1.ot hd.1 _ _ _ _ hj hl
  ·simp only[hlt,if_false];exact h2.ot hd.2 _ _ _ _ hj hl
 ·split at hb
  ·exact .inl (h1.sub _ _ b hb)
  ·exact .inr (h2.sub _ _ b hb)
 ·split
  ·exact h1.nodup _ _
  ·exact h2.nodup _ _
 ·split at hb<;>split at hb'
  ·exact h1.disj _ _ _ _ hne b hb hb'
  ·exact hx b (h1.sub _ _ b hb) (h2.sub _ _ b hb')
  ·exact hx b (h1.sub _ _ b hb') (h2.sub _ _ b hb)
  ·refine h2.disj _ _ _ _ (fun⟨e1,e2⟩=>hne ⟨?_,e2⟩) b hb hb'
   omega
def DstR (E:Env) (w:World) (S D T:Nat→Prop) (e:TypeId) (te:TI) (rows:List (List Dat)) (deep:Bool) (v:Value):Prop:=
 (v=.slice none 0 0∧rows=[])∨
 ∃(g off c:Nat) (arr:Array Value) (u:Nat→Nat→Value) (bs:Nat→Nat→List Nat),v=.slice (some ⟨g,off,none⟩) rows.length c∧T g∧w.heap[g]?=some (.cells arr e (0,0))∧rows.length≤c∧off+c*te.ls.length≤arr.size∧
  (∀j i:Nat,j<rows.length→i<te.ls.length→arr[off+(j*te.ls.length+i)]?=some (u j i))∧TabR E w S D deep te rows u bs
def SrcR (E:Env) (w:World) (S D:Nat→Prop) (te:TI) (rows:List (List Dat)) (deep:Bool) (v:Value):Prop:=
 ∃(B:Option Addr) (c:Nat) (u:Nat→Nat→Value) (bs:Nat→Nat→List Nat),v=.slice B rows.length c∧rows.length≤c∧
  (∀j i:Nat,j<rows.length→i<te.ls.length→∃ad:Addr,B=some ad∧ad.spot=none∧w.cell? ⟨ad.block,ad.off+(j*te.ls.length+i),none⟩=some (u j i))∧TabR E w S D deep te rows u bs
theorem RelG.appendTo (hE:EnvOk P E) (h:RelG E base M S0 R0 w0 nt G st a w) {k:Id} (hno:NoRef k st) {ats:Array TypeId} {ty t t1 e e1:TypeId} {te:TI} (ha0:ats[0]?=some t) (ha1:ats[1]?=some t1) (hu:P.underlying t=some (.slice e))
  (hu1:P.underlying t1=some (.slice e1)) (hte:E.T e=some te) {fl:List Nat} {D1 D2 T:Nat→Prop}
  (hfl:∀b∈fl,¬S0 b∧(base≤b∨b∈M)∧b<w.heap.size∧∀o x,getO st.ob o=some x→b∉G.top o∧b∉G.ins o)
  (hT:∀b,T b→¬S0 b∧b∉G.F∧b∉fl∧(base≤b∨b∈M)∧∀o x,getO st.ob o=some x→b∉G.top o)
  (hD:∀b,D1 b∨D2 b→(b∈G.F∨b∈fl)∧∀o x,getO st.ob o=some x→b∉G.ins o) (hx:∀b,D1 b→D2 b→False) (hDT:∀b,D1 b∨D2 b→¬T b)
  {S:Nat→Prop} (hS:∀b,S b→S0 b∨b∈G.F∨b∈fl) {r1 r2:List (List Dat)} {d1 d2:Bool} {vs vx:Value} (hs:DstR E w S D1 T e te r1 d1 vs) (hsrc:SrcR E w S D2 te r2 d2 vx)
  (hby:(r1.length+r2.length)*te.by_≤maxBytes):
  ∃v' w' G',(Builtin.append_ ats ty #[vs,vx]).run P w=.ok v' w'∧RelG E base M S0 R0 w0 nt G' {st with ob:=setO st.ob k (.row e (r1++r2) (d1&&d2) 0 [])} a w'∧VR E w' S0 G' (setO st.ob k (.row e (r1++r2) (d1&&d2) 0 [])) (.own k) v':=by
 have hTy:=hE.T e te hte
 obtain⟨B,c',u2,bs2,rfl,hc',hm2,ht2⟩:=hsrc
 have hSlt:∀b,S b→b<w.heap.size:=fun b hb=>by
  rcases hS b hb with hb|hb|hb
  ·exact h.live_lt (.inl hb)
  ·exact h.live_lt (.inr (.inl hb))
  ·exact(hfl b hb).2.2.1
 have hDlt:∀b,D1 b∨D2 b→b<w.heap.size:=fun b hb=>by
  rcases(hD b hb).1 with hb|hb
  ·exact h.live_lt (.inr (.inl hb))
  ·exact(hfl b hb).2.2.1
 have fin:∀(w':World) (root:Value) (top ins:List Nat),Kept base M w0 w'→w.heap.size≤w'.heap.size→(∀b,Live S0 G st.ob b→w'.heap[b]?=w.heap[b]?)→(∀b∈top,T b∨w.heap.size≤b)→(∀b∈ins,D1 b∨D2 b)→ins.Nodup→oneV root→
   RowR E w' (fun b=>S0 b∨b∈G.F++fl) e (r1++r2) (d1&&d2) [] root top ins→∃G',RelG E base M S0 R0 w0 nt G' {st with ob:=setO st.ob k (.row e (r1++r2) (d1&&d2) 0 [])} a w'∧VR E w' S0 G' (setO st.ob k (.row e (r1++r2) (d1&&d2) 0 [])) (.own k) root:=
  fun w' root top ins hk hsz hw htop hins hnd h1 hrow=>
   ⟨_,h.addRow hno e (r1++r2) (d1&&d2) root top ins fl hk hsz hw (fun b hb=>by
     obtain⟨q1,q2,q3,q4⟩:=hfl b hb
     exact⟨q1,q2,Nat.lt_of_lt_of_le q3 hsz,fun o x hx=>(q4 o x hx).1⟩) (fun b hb=>by
     rcases htop b hb with hb|hb
     ·exact hT b hb
     ·obtain⟨f1,f2,f3,f4⟩:=h.old_lt hb
      exact⟨f1,f2,fun hb'=>by have:=(hfl b hb').2.2.1;omega,.inl f3,fun o x hx=>(f4 o x hx).1⟩) (fun b hb=>hD b (hins b hb)) hnd hrow,
    .own _ _ (fun e' rows' dp vr hh hg=>by simp[Gh.set1]) h1⟩
 have one:∀A n c,oneV (.slice A n c):=fun A n c=>⟨(fun _ h=>by cases h),(fun _ h=>by cases h)⟩
 have grow:∀(A:Option Addr) (c:Nat) (u1:Nat→Nat→Value) (bs1:Nat→Nat→List Nat),(∀j i:Nat,j<r1.length→i<te.ls.length→∃ad:Addr,A=some ad∧ad.spot=none∧w.cell? ⟨ad.block,ad.off+(j*te.ls.length+i),none⟩=some (u1 j i))→
   TabR E w S D1 d1 te r1 u1 bs1→c<r1.length+r2.length→
   ∃v' w' G',(Builtin.append_ ats ty #[.slice A r1.length c,.slice B r2.length c']).run P w=.ok v' w'∧RelG E base M S0 R0 w0 nt G' {st with ob:=setO st.ob k (.row e (r1++r2) (d1&&d2) 0 [])} a w'∧VR E w' S0 G' (setO st.ob k (.row e (r1++r2) (d1&&d2) 0 [])) (.own k) v':=
  fun A c u1 bs1 hm1 ht1 hlt=>by
   obtain⟨c2,rest,g1,g2,g3⟩:=Z2x (P:=P) (w:=w) (ats:=ats) (ty:=ty) ha0 ha1 hu hu1 hTy (Z12 (w:=w.drew) (c:=c) hTy.pos.1 hm1) (Z12 (w:=w.drew) (c:=c') hTy.pos.1 hm2) hlt hby
   have hold:∀b,b<w.heap.size→(w.drew.alloc (.cells (cellsOfTab r1.length te.ls.length u1++(cellsOfTab r2.length te.ls.length u2++rest)).toArray e)).heap[b]?=w.heap[b]?:=fun b hb=>heap_alloc_old w.drew _ hb
   have hsz1:∀o:Go.Obj,w.heap.size≤(w.drew.alloc o).heap.size:=fun o=>by
    show w.heap.size≤(w.heap.push o).size
    simp
   have htab:=ht1.append ht2 hx
   have hrow:=htab.rowR hte (w':=w.drew.alloc (.cells (cellsOfTab r1.length te.ls.length u1++(cellsOfTab r2.length te.ls.length u2++rest)).toArray e)) (fun _ b hb=>hold b (hDlt b hb)) (fun _ b hb=>hold b (hSlt b hb)) (g:=w.heap.size) (off:=0) (c:=c2)
    (heap_alloc_new w.drew _) (by simpa using g1) (by
     simp only[List.size_toArray,List.length_append,Z7,g2,Nat.zero_add]
     rw[←Nat.add_assoc,←Nat.add_mul,←Nat.add_mul]
     exact Nat.mul_le_mul_right _ (by omega)) (fun j i hj hi=>by
     simp only[List.length_append]at hj
     simp only[Nat.zero_add,List.getElem?_toArray]
     by_cases hj1:j<r1.length
     ·rw[if_pos hj1,List.getElem?_append_left (by rw[Z7];exact(Zh hj1 hi).1)]
      exact ZN hj1 hi
     ·rw[if_neg hj1]
      have e1:j*te.ls.length+i=r1.length*te.ls.length+((j-r1.length)*te.ls.length+i):=by
       rw[←Nat.add_assoc,←Nat.add_mul];congr 2;omega
      rw[e1,List.getElem?_append_right (by rw[Z7];omega),Z7,Nat.add_sub_cancel_left,List.getElem?_append_left (by rw[Z7];exact(Zh (by omega) hi).1)]
      exact ZN (by omega) hi)
   simp only[List.length_append]at hrow
   have hins:∀b∈(if(d1&&d2)=true then flatB (fun j i=>if j<r1.length then bs1 j i else bs2 (j-r1.length) i) (r1.length+r2.length) te.ls.length else[]),D1 b∨D2 b:=fun b hb=>by
    split at hb
    ·obtain⟨j,i,_,_,hb⟩:=Z2.mp hb
     exact htab.sub j i b hb
    ·cases hb
   have hnd:(if(d1&&d2)=true then flatB (fun j i=>if j<r1.length then bs1 j i else bs2 (j-r1.length) i) (r1.length+r2.length) te.ls.length else[]).Nodup:=by
    split
    ·exact ZX htab.nodup htab.disj
    ·simp
   have hmono:∀b,S b→S0 b∨b∈G.F++fl:=fun b hb=>by
    rcases hS b hb with hb|hb|hb
    ·exact .inl hb
    ·exact .inr (List.mem_append.mpr (.inl hb))
    ·exact .inr (List.mem_append.mpr (.inr hb))
   obtain⟨G',f1,f2⟩:=fin _ (.slice (some ⟨w.heap.size,0,none⟩) (r1.length+r2.length) c2) [w.heap.size] _ ⟨Nat.le_trans h.kept.size (hsz1 _),fun b hb hm=>(hold b (Nat.lt_of_lt_of_le hb h.kept.size)).trans (h.kept.heap b hb hm),h.kept.os,h.kept.tape,h.kept.output⟩
    (hsz1 _) (fun b hb=>hold b (h.live_lt hb)) (fun b hb=>by simp at hb;exact .inr (by omega)) hins hnd (one _ _ _) (hrow.frame (fun _ _=>rfl) (fun _ _=>rfl) (fun _ _ _=>rfl) hmono)
   exact⟨_,_,G',g3,f1,f2⟩
 rcases hs with ⟨rfl,rfl⟩|⟨g,off,c,arr,u1,bs1,rfl,htg,hg,hc,hfit,hm1,ht1⟩
 ·
  by_cases h0:r2.length=0
  ·have hr2:r2=[]:=List.length_eq_zero_iff.mp h0
   subst hr2
   obtain⟨G',f1,f2⟩:=fin w (.slice none 0 0) [] [] h.kept (Nat.le_refl _) (fun _ _=>rfl) (fun b hb=>by cases hb) (fun b hb=>by cases hb) (by simp) (one _ _ _) ⟨te,hte,(fun j r hj=>by simp at hj),.inl ⟨rfl,rfl,rfl,rfl⟩⟩
   exact⟨_,_,G',Z2v ha0 ha1 hu hu1 hTy,f1,f2⟩
  ·exact grow none 0 (fun _ _=>undef) (fun _ _=>[]) (fun j i hj=>by simp at hj) ⟨(fun j r hj=>by simp at hj),(fun j i r l hj=>by simp at hj),(fun _ j i r l hj=>by simp at hj),(fun _ _ _ hb=>by cases hb),(fun _ _=>by simp),(fun _ _ _ _ _ _ hb=>by cases hb)⟩ (by simp;omega)
 ·by_cases hroom:r1.length+r2.length≤c
  ·
   have hnews:=Z12 (P:=P) (w:=w) (c:=c') hTy.pos.1 hm2
   have hone:∀u∈cellsOfTab r2.length te.ls.length u2,oneV u:=fun u hu=>by
    obtain⟨x,hx⟩:=List.getElem?_of_mem hu
    have hx':x<r2.length*te.ls.length:=by have:=(List.getElem?_eq_some_iff.mp hx).1;rwa [Z7]at this
    have hj:x/te.ls.length<r2.length:=Nat.div_lt_of_lt_mul (by rw[Nat.mul_comm];exact hx')
    have hi:x%te.ls.length<te.ls.length:=Nat.mod_lt _ hTy.pos.1
    have hx2:x/te.ls.length*te.ls.length+x%te.ls.length=x:=by rw[Nat.mul_comm];exact Nat.div_add_mod x _
    have:=ZN (u:=u2) hj hi
    rw[hx2,hx]at this
    cases this
    exact ht2.one _ _ hj hi
   have hrun:=Z2w (P:=P) (w:=w) (ats:=ats) (ty:=ty) ha0 ha1 hu hu1 hTy hg Z7 hnews hone hroom hfit
   have hle':(r1.length+r2.length)*te.ls.length≤c*te.ls.length:=Nat.mul_le_mul_right _ hroom
   rw[Nat.add_mul]at hle'
   have hold:∀arr' b,b≠g→(w.setRow g arr').heap[b]?=w.heap[b]?:=fun arr' b hb=>setRow_other w g b arr' hb
   have hnew:=fun arr'=>setRow_heap w g arr arr' e (0,0) hg
   have hTg:=hT g htg
   have hgS:∀b,S b→b≠g:=fun b hb e=>by
    subst e
    rcases hS b hb with hb|hb|hb
    ·exact hTg.1 hb
    ·exact hTg.2.1 hb
    ·exact hTg.2.2.1 hb
   have htab:=ht1.append ht2 hx
   have hrow:=htab.rowR hte (w':=w.setRow g (arr.toList.take (off+r1.length*te.ls.length)++cellsOfTab r2.length te.ls.length u2++arr.toList.drop (off+r1.length*te.ls.length+(cellsOfTab r2.length te.ls.length u2).length)).toArray)
    (fun _ b hb=>hold _ b (fun e=>hDT b hb (e▸htg))) (fun _ b hb=>hold _ b (hgS b hb)) (g:=g) (off:=off) (c:=c) (hnew _) (by simpa using hroom) (by
     simp only[List.size_toArray,List.length_append,List.length_take,List.length_drop,Z7,Array.length_toList]
     omega) (fun j i hj hi=>by
     simp only[List.length_append]at hj
     simp only[List.getElem?_toArray]
     by_cases hj1:j<r1.length
     ·have:=(Zh hj1 hi).1
      rw[if_pos hj1,List.append_assoc,List.getElem?_append_left (by simp;omega),List.getElem?_take,if_pos (by omega)]
      simpa using hm1 j i hj1 hi
     ·rw[if_neg hj1]
      have e1:j*te.ls.length+i=r1.length*te.ls.length+((j-r1.length)*te.ls.length+i):=by
       rw[←Nat.add_assoc,←Nat.add_mul];congr 2;omega
      have hm:=(Zh (j:=j-r1.length) (n:=r2.length) (by omega) hi).1
      have hlt:(arr.toList.take (off+r1.length*te.ls.length)).length=off+r1.length*te.ls.length:=by simp;omega
      rw[List.append_assoc,List.getElem?_append_right (by rw[hlt];omega),hlt,List.getElem?_append_left (by rw[Z7];omega),e1,←Nat.add_assoc,Nat.add_sub_cancel_left]
      exact ZN (by omega) hi)
   simp only[List.length_append]at hrow
   have hins:∀b∈(if(d1&&d2)=true then flatB (fun j i=>if j<r1.length then bs1 j i else bs2 (j-r1.length) i) (r1.length+r2.length) te.ls.length else[]),D1 b∨D2 b:=fun b hb=>by
    split at hb
    ·obtain⟨j,i,_,_,hb⟩:=Z2.mp hb
     exact htab.sub j i b hb
    ·cases hb
   have hnd:(if(d1&&d2)=true then flatB (fun j i=>if j<r1.length then bs1 j i else bs2 (j-r1.length) i) (r1.length+r2.length) te.ls.length else[]).Nodup:=by
    split
    ·exact ZX htab.nodup htab.disj
    ·simp
   have hmono:∀b,S b→S0 b∨b∈G.F++fl:=fun b hb=>by
    rcases hS b hb with hb|hb|hb
    ·exact .inl hb
    ·exact .inr (List.mem_append.mpr (.inl hb))
    ·exact .inr (List.mem_append.mpr (.inr hb))
   obtain⟨G',f1,f2⟩:=fin _ (.slice (some ⟨g,off,none⟩) (r1.length+r2.length) c) [g] _ ⟨Nat.le_trans h.kept.size (by simp[World.setRow]),fun b hb hm=>(hold _ b (fun e=>by
     subst e;exact hTg.2.2.2.1.elim (fun h=>by omega) hm)).trans (h.kept.heap b hb hm),h.kept.os,h.kept.tape,h.kept.output⟩
    (by simp[World.setRow]) (fun b hb=>hold _ b (fun e=>by
     subst e
     rcases hb with hb|hb|⟨o,x,hx,hb⟩
     ·exact hTg.1 hb
     ·exact hTg.2.1 hb
     ·exact hTg.2.2.2.2 o x hx hb)) (fun b hb=>by simp at hb;subst hb;exact .inl htg) hins hnd (one _ _ _) (hrow.frame (fun _ _=>rfl) (fun _ _=>rfl) (fun _ _ _=>rfl) hmono)
   exact⟨_,_,G',hrun,f1,f2⟩
  ·refine grow (some ⟨g,off,none⟩) c u1 bs1 (fun j i hj hi=>⟨_,rfl,rfl,?_⟩) ht1 (by omega)
   simp only[World.cell?,hg]
   simpa using hm1 j i hj hi
end
end Go.Proofs.YtnihikajdbcoaaaGreat.Vai
namespace Go.Proofs.YtnihikajdbcoaaaGreat.Vai
open Go
theorem ZZ {bs:Nat→Nat→List Nat} {n sz:Nat} (h:(flatB bs n sz).Nodup):
  (∀j i,j<n→i<sz→(bs j i).Nodup)∧∀j i j' i',j<n→i<sz→j'<n→i'<sz→¬(j=j'∧i=i')→∀b∈bs j i,b∉bs j' i':=by
 have key:∀(n:Nat) (f:Nat→List Nat),((List.range n).flatMap f).Nodup→(∀x,x<n→(f x).Nodup)∧∀x y,x<n→y<n→x≠y→∀b∈f x,b∉f y:=by
  intro n f h
  induction n with
  |zero=>exact⟨fun x hx=>by omega,fun x y hx=>by omega⟩
  |succ n ih=>
   rw[List.range_succ,List.flatMap_append,List.nodup_append]at h
   obtain⟨h1,h2,h3⟩:=h
   obtain⟨i1,i2⟩:=ih h1
   simp only[List.flatMap_cons,List.flatMap_nil,List.append_nil]at h2 h3
   have hx:∀x,x<n→∀b∈f x,b∉f n:=fun x hx b hb hb'=>h3 b (List.mem_flatMap.mpr ⟨x,List.mem_range.mpr hx,hb⟩) b hb' rfl
   refine⟨fun x hxn=>?_,fun x y hxn hyn hne b hb hb'=>?_⟩
   ·by_cases e:x=n
    ·subst e;exact h2
    ·exact i1 x (by omega)
   ·by_cases e:x=n
    ·subst e;exact hx y (by omega) b hb' hb
    ·by_cases e':y=n
     ·subst e';exact hx x (by omega) b hb hb'
     ·exact i2 x y (by omega) (by omega) hne b hb hb'
 obtain⟨k1,k2⟩:=key n _ h
 refine⟨fun j i hj hi=>(key sz _ (k1 j hj)).1 i hi,fun j i j' i' hj hi hj' hi' hne b hb hb'=>?_⟩
 by_cases e:j=j'
 ·subst e
  exact(key sz _ (k1 j hj)).2 i i' hi hi' (fun e=>hne ⟨rfl,e⟩) b hb hb'
 ·exact k2 j j' hj hj' e b (List.mem_flatMap.mpr ⟨i,List.mem_range.mpr hi,hb⟩) (List.mem_flatMap.mpr ⟨i',List.mem_range.mpr hi',hb'⟩)
theorem Z0e {α β:Type} {f g:α→List β} {l:List α} (h:∀x∈l,f x=g x):l.flatMap f=l.flatMap g:=by
 induction l with
 |nil=>rfl
 |cons x l ih=>
  simp only[List.flatMap_cons]
  rw[h x (by simp),ih (fun y hy=>h y (List.mem_cons_of_mem _ hy))]
theorem Z3X {bs bs':Nat→Nat→List Nat} {n sz:Nat} (h:∀j i,j<n→i<sz→bs j i=bs' j i):flatB bs n sz=flatB bs' n sz:=
 Z0e fun j hj=>Z0e fun i hi=>h j i (List.mem_range.mp hj) (List.mem_range.mp hi)
def clip (n sz:Nat) (bs:Nat→Nat→List Nat):Nat→Nat→List Nat:=fun j i=>if j<n∧i<sz then bs j i else[]
theorem ZU {n sz:Nat} {bs:Nat→Nat→List Nat} {j i b:Nat} (h:b∈clip n sz bs j i):j<n∧i<sz∧b∈bs j i:=by
 unfold clip at h
 split at h
 ·rename_i hc;exact⟨hc.1,hc.2,h⟩
 ·cases h
theorem Z0f {n sz:Nat} {bs:Nat→Nat→List Nat} {j i:Nat} (hj:j<n) (hi:i<sz):clip n sz bs j i=bs j i:=by simp[clip,hj,hi]
theorem ZV {n sz:Nat} {bs:Nat→Nat→List Nat} (h:(flatB bs n sz).Nodup):(∀j i,(clip n sz bs j i).Nodup)∧∀j i j' i',¬(j=j'∧i=i')→∀b∈clip n sz bs j i,b∉clip n sz bs j' i':=by
 obtain⟨h1,h2⟩:=ZZ h
 refine⟨fun j i=>?_,fun j i j' i' hne b hb hb'=>?_⟩
 ·unfold clip
  split
  ·rename_i hc;exact h1 j i hc.1 hc.2
  ·simp
 ·obtain⟨a1,a2,a3⟩:=ZU hb
  obtain⟨b1,b2,b3⟩:=ZU hb'
  exact h2 j i j' i' a1 a2 b1 b2 hne b a3 b3
section
variable {P:Program} {E:Env} {base:Nat} {M:List Nat} {S0:Nat→Prop} {R0:Id→Value} {w0:World} {nt:Nat} {G:Gh} {st:St} {a:Act} {w:World} {look:Look}
theorem RelG.dst_row (h:RelG E base M S0 R0 w0 nt G st a w) {o:Id} {e:TypeId} {te:TI} (hte:E.T e=some te) {rows:List (List Dat)} {dp:Bool} {vr:Nat} (ho:getO st.ob o=some (.row e rows dp vr []))
  {lo n:Int} {v:Value} (hw:Win te.ls.length rows.length (G.root o) lo n v):
  DstR E w (fun b=>S0 b∨b∈G.F) (fun b=>b∈G.ins o) (fun b=>b∈G.top o) e te ((rows.drop lo.toNat).take n.toNat) dp v:=by
 obtain⟨te',h1,h2,h3⟩:=(h.objs o _ ho:RowR E w _ e rows dp [] _ _ _)
 rw[hte]at h1;cases h1
 have nohole:∀j i,¬isHole [] j i:=fun j i hh=>by obtain⟨r,hr,_⟩:=hh;cases hr
 obtain⟨q0,q1,q2,A',c',rfl,q3⟩:=hw
 have hlen:((rows.drop lo.toNat).take n.toNat).length=n.toNat:=by simp;omega
 have hget:∀(j:Nat) (r:List Dat),((rows.drop lo.toNat).take n.toNat)[j]?=some r→rows[lo.toNat+j]?=some r:=fun j r hj=>by
  rw[List.getElem?_take]at hj
  split at hj
  ·rwa [List.getElem?_drop]at hj
  ·cases hj
 rcases h3 with ⟨h3,rfl,h4,h5⟩|⟨g,off,c,arr,u,bs,a1,a2,a3,a4,a5,a6,a7,a8,a9,a10⟩
 ·rw[h3]at q3
  obtain⟨rfl,rfl,_⟩:=q3
  have hn:n.toNat=0:=by simp at q2;omega
  rw[hn]
  exact .inl ⟨rfl,by simp⟩
 ·rw[a1]at q3
  simp only at q3
  obtain⟨off',rfl,q4,q5,q6,q7⟩:=q3
  have hins:=h.ins o _ ho
  refine .inr ⟨g,off',c',arr,fun j i=>u (lo.toNat+j) i,if dp then fun j i=>clip rows.length te.ls.length bs (lo.toNat+j) i else fun _ _=>[],by rw[hlen],by rw[a2];simp,a3,by rw[hlen];exact q5,by omega,fun j i hj hi=>?_,
   ⟨fun j r hj=>h2 _ r (hget j r hj),fun j i r l hj hl=>?_,fun hd j i r l hj hl=>?_,fun j i b hb=>?_,fun j i=>?_,fun j i j' i' hne b hb hb'=>?_⟩⟩
  ·rw[hlen]at hj
   have hoff:off'=off+lo.toNat*te.ls.length:=q6.resolve_left (by omega)
   rw[←(a6 (lo.toNat+j) i (by omega) hi).1,hoff,Nat.add_mul]
   congr 1
   omega
  ·have:=a7 (lo.toNat+j) i r l (hget j r hj) hl (nohole _ i)
   cases dp with
   |false=>simpa using this
   |true=>
    simp only[if_true]at this
    refine this.rd fun b hb=>.inr (hins.1 b ?_)
    rw[a8 rfl]
    exact Z2.mpr ⟨_,i,(List.getElem?_eq_some_iff.mp (hget j r hj)).1,(List.getElem?_eq_some_iff.mp hl).1,hb⟩
  ·subst hd
   have:=a7 (lo.toNat+j) i r l (hget j r hj) hl (nohole _ i)
   simp only[if_true]at this⊢
   rw[Z0f (List.getElem?_eq_some_iff.mp (hget j r hj)).1 (List.getElem?_eq_some_iff.mp hl).1]
   exact this
  ·cases dp with
   |false=>simp at hb
   |true=>
    simp only[if_true]at hb
    obtain⟨c1,c2,c3⟩:=ZU hb
    rw[a8 rfl]
    exact Z2.mpr ⟨_,i,c1,c2,c3⟩
  ·cases dp with
   |false=>simp
   |true=>
    have hnd:(flatB bs rows.length te.ls.length).Nodup:=by have:=hins.2;rwa [a8 rfl]at this
    simp only[if_true]
    exact(ZV hnd).1 _ _
  ·cases dp with
   |false=>simp at hb
   |true=>
    have hnd:(flatB bs rows.length te.ls.length).Nodup:=by have:=hins.2;rwa [a8 rfl]at this
    simp only[if_true]at hb hb'
    exact(ZV hnd).2 _ _ _ _ (fun⟨e1,e2⟩=>hne ⟨by omega,e2⟩) b hb hb'
theorem SrcR.of_give {e:TypeId} {te:TI} (hte:E.T e=some te) {ids:List Id} {deep:Bool} {d:Dat} {v:Value} {bs:List Nat} (h:GiveR E w S0 G ids deep (.sl e) d v bs):
  SrcR E w (SOf S0 G ids) (DOf G ids) te d.rows deep v:=by
 have hrd:=h.rd
 cases deep with
 |false=>
  cases hrd with
  |sl _ te' _ A c u ht hc hl hm hr=>
   rw[hte]at ht;cases ht
   exact⟨A,c,u,fun _ _=>[],rfl,hc,fun j i hj hi=>by
    obtain⟨ad,q1,q2,q3,q4⟩:=hm j i hj hi
    exact⟨ad,q1,q2,q4⟩,⟨hl,hr,(fun h=>by cases h),(fun _ _ _ hb=>by cases hb),(fun _ _=>by simp),(fun _ _ _ _ _ _ hb=>by cases hb)⟩⟩
 |true=>
  have hot:=h.ot rfl
  have hsub:=h.sub
  have hnd:=h.nodup
  cases hot with
  |nil _ te' _ ht hd=>
   rw[hd]
   exact⟨none,0,fun _ _=>undef,fun _ _=>[],rfl,Nat.le_refl _,fun j i hj=>by simp at hj,⟨(fun j r hj=>by simp at hj),(fun j i r l hj=>by simp at hj),(fun _ j i r l hj=>by simp at hj),(fun _ _ _ hb=>by cases hb),(fun _ _=>by simp),(fun _ _ _ _ _ _ hb=>by cases hb)⟩⟩
  |row _ te' _ g off c arr u bs ht hb hc hs hl hm hr=>
   rw[hte]at ht;cases ht
   have hnd':=(List.nodup_cons.mp hnd).2
   refine⟨_,c,u,clip d.rows.length te.ls.length bs,rfl,hc,fun j i hj hi=>⟨_,rfl,rfl,?_⟩,⟨hl,fun j i r l hj hl'=>?_,fun _ j i r l hj hl'=>?_,fun j i b hb=>?_,(ZV hnd').1,(ZV hnd').2⟩⟩
   ·simp only[World.cell?,hb]
    simpa using hm j i hj hi
   ·generalize hn:d.rows.length=n0 at hrd
    cases hrd with
    |sl _ te2 _ _ _ u2 ht2 hc2 hl2 hm2 hr2=>
     rw[hte]at ht2;cases ht2
     have hj':=(List.getElem?_eq_some_iff.mp hj).1
     have hi':=(List.getElem?_eq_some_iff.mp hl').1
     obtain⟨ad,q1,q2,q3,q4⟩:=hm2 j i hj' hi'
     cases q1
     have:u2 j i=u j i:=by
      simp only[World.cell?,hb]at q4
      have:=hm j i hj' hi'
      simp at q4
      rw[q4]at this
      exact Option.some.inj this
     rw[←this]
     exact hr2 j i r l hj hl'
   ·rw[Z0f (List.getElem?_eq_some_iff.mp hj).1 (List.getElem?_eq_some_iff.mp hl').1]
    exact hr j i r l hj hl'
   ·obtain⟨c1,c2,c3⟩:=ZU hb
    exact hsub b (List.mem_cons_of_mem _ (Z2.mpr ⟨j,i,c1,c2,c3⟩))
theorem Z1a {ls:List Leaf} (h:hasSl ls=false):∀(i:Nat) (l:Leaf),ls[i]?=some l→∀e,l≠.sl e:=by
 induction ls with
 |nil=>intro i l hl;simp at hl
 |cons l0 ls ih=>
  intro i l hl e he
  subst he
  cases i with
  |zero=>simp at hl;subst hl;cases h
  |succ i=>
   cases l0<;>simp only[hasSl]at h<;>first|cases h|exact ih h i _ (by simpa using hl) e rfl
theorem SrcR.of_scal {e:TypeId} {te:TI} (hte:E.T e=some te) (hs:hasSl te.ls=false) {S:Nat→Prop} {d:Dat} {v:Value} (h:RD E w S (.sl e) d v) (S' D:Nat→Prop):SrcR E w S' D te d.rows true v:=by
 cases h with
 |sl _ te' _ A c u ht hc hl hm hr=>
  rw[hte]at ht;cases ht
  have ot:∀(j i:Nat) (r:List Dat) (l:Leaf),d.rows[j]?=some r→te.ls[i]?=some l→OT E w l (r.getD i default) (u j i) []:=fun j i r l hj hl'=>by
   have:=hr j i r l hj hl'
   generalize u j i=x at this
   cases this with
   |int k d=>exact .int k _
   |bool d=>exact .bool _
   |str d=>exact .str _
   |sl e1=>exact absurd rfl (Z1a hs i _ hl' e1)
  exact⟨A,c,u,fun _ _=>[],rfl,hc,fun j i hj hi=>by
   obtain⟨ad,q1,q2,q3,q4⟩:=hm j i hj hi
   exact⟨ad,q1,q2,q4⟩,⟨hl,fun j i r l hj hl'=>(ot j i r l hj hl').rd (fun _ hb=>by cases hb),fun _=>ot,(fun _ _ _ hb=>by cases hb),(fun _ _=>by simp),(fun _ _ _ _ _ _ hb=>by cases hb)⟩⟩
theorem OT.of_rd {S:Nat→Prop} {l:Leaf} {d:Dat} {v:Value} {bs:List Nat} (h:OT E w l d v bs):∀{d':Dat},RD E w S l d' v→OT E w l d' v bs:=by
 induction h with
 |int k d=>
  intro d' hr
  generalize hv:Value.int k d.n=v at hr
  cases hr with
  |int _ d'=>exact .int k d'
 |bool d=>
  intro d' hr
  generalize hv:Value.bool d.b=v at hr
  cases hr with
  |bool d'=>exact .bool d'
 |str d=>
  intro d' hr
  generalize hv:Value.string d.s=v at hr
  cases hr with
  |str d'=>exact .str d'
 |nil e te d ht hd=>
  intro d' hr
  generalize hv:Value.slice none 0 0=v at hr
  cases hr with
  |sl _ te' d' A c u ht' hc hl hm hr'=>
   injection hv with h1 h2 h3
   subst h1;subst h3
   rw[←h2]
   exact .nil e te d' ht (List.length_eq_zero_iff.mp h2.symm)
 |row e te d g off c arr u bs ht hb hc hs hl hm hr ih=>
  intro d' hrd
  generalize hv:Value.slice (some ⟨g,off,none⟩) d.rows.length c=v at hrd
  cases hrd with
  |sl _ te' d' A c' u' ht' hc' hl' hm' hr'=>
   injection hv with h1 h2 h3
   subst h1;subst h3
   rw[ht]at ht';cases ht'
   rw[h2]
   refine .row e te d' g off c arr u bs ht hb hc' hs hl' (fun j i hj hi=>hm j i (by omega) hi) (fun j i r l hj hl2=>?_)
   have hj':=(List.getElem?_eq_some_iff.mp hj).1
   have hi':=(List.getElem?_eq_some_iff.mp hl2).1
   have hjd:j<d.rows.length:=by omega
   have hu:u' j i=u j i:=by
    obtain⟨ad,q1,q2,q3,q4⟩:=hm' j i hj' hi'
    cases q1
    simp only[World.cell?,hb]at q4
    have:=hm j i hjd hi'
    simp at q4
    rw[q4]at this
    exact Option.some.inj this
   have:=hr' j i r l hj hl2
   rw[hu]at this
   exact ih j i _ l (List.getElem?_eq_getElem hjd) hl2 this
theorem OT.window {e:TypeId} {te:TI} (hte:E.T e=some te) {rows:List (List Dat)} {x v:Value} {bs:List Nat} (h:OT E w (.sl e) (.sl rows) x bs) (hnd:bs.Nodup) {lo n:Int} (hw:Win te.ls.length rows.length x lo n v):
  ∃bs',OT E w (.sl e) (.sl ((rows.drop lo.toNat).take n.toNat)) v bs'∧bs'.Nodup∧∀b∈bs',b∈bs:=by
 obtain⟨q0,q1,q2,A',c',rfl,q3⟩:=hw
 have hlen:((rows.drop lo.toNat).take n.toNat).length=n.toNat:=by simp;omega
 have hget:∀(j:Nat) (r:List Dat),((rows.drop lo.toNat).take n.toNat)[j]?=some r→rows[lo.toNat+j]?=some r:=fun j r hj=>by
  rw[List.getElem?_take]at hj
  split at hj
  ·rwa [List.getElem?_drop]at hj
  ·cases hj
 cases h with
 |nil _ te' _ ht hd=>
  simp only at q3
  obtain⟨rfl,rfl,_⟩:=q3
  have hd:rows=[]:=hd
  have hn:n.toNat=0:=by rw[hd]at q2;simp at q2;omega
  rw[hn]
  exact⟨[],.nil e te' _ ht (by simp[Dat.rows]),by simp,fun b hb=>by cases hb⟩
 |row _ te' _ g off c arr u bs ht hb hc hs hl hm hr=>
  rw[hte]at ht;cases ht
  simp only at q3
  simp only[Dat.rows]at hc hl hm hr hnd q3⊢
  obtain⟨m1,m2⟩:=List.nodup_cons.mp hnd
  obtain⟨off',rfl,q4,q5,q6,q7⟩:=q3
  refine⟨g::flatB (fun j i=>bs (lo.toNat+j) i) n.toNat te.ls.length,?_,?_,fun b hb=>?_⟩
  ·have:=OT.row (E:=E) (w:=w) e te (.sl ((rows.drop lo.toNat).take n.toNat)) g off' c' arr (fun j i=>u (lo.toNat+j) i) (fun j i=>bs (lo.toNat+j) i) hte hb (by simpa[Dat.rows,hlen]using q5) (by omega)
    (fun j r hj=>hl _ r (hget j r hj)) (fun j i hj hi=>by
     simp only[Dat.rows,hlen]at hj
     have hoff:off'=off+lo.toNat*te.ls.length:=q6.resolve_left (by omega)
     rw[←hm (lo.toNat+j) i (by omega) hi,hoff,Nat.add_mul]
     congr 1
     omega) (fun j i r l hj hl=>hr (lo.toNat+j) i r l (hget j r hj) hl)
   simpa[Dat.rows,hlen]using this
  ·rw[List.nodup_cons]
   refine⟨fun hb=>m1 ?_,Z0O m2 (by omega)⟩
   obtain⟨j,i,hj,hi,hm⟩:=Z2.mp hb
   exact Z2.mpr ⟨lo.toNat+j,i,by omega,hi,hm⟩
  ·rcases List.mem_cons.mp hb with rfl|hb
   ·simp
   ·obtain⟨j,i,hj,hi,hm⟩:=Z2.mp hb
    exact List.mem_cons_of_mem _ (Z2.mpr ⟨lo.toNat+j,i,by omega,hi,hm⟩)
theorem RelG.hole (h:RelG E base M S0 R0 w0 nt G st a w) (hT:numbT st.tm=st.tm) (hO:NumbO st.ob) {o:Id} {eo:TypeId} {teo:TI} (hteo:E.T eo=some teo) {rows:List (List Dat)} {vr:Nat} {holes:List (Int×Nat)}
  (ho:getO st.ob o=some (.row eo rows true vr holes)) {row:Int} (_hr0:0≤row) {col:Nat} {e:TypeId} (hcol:teo.ls[col]?=some (.sl e)) {r:List Dat} (hrow:rows[row.toNat]?=some r) (hnh:∀q,(q,col)∉holes)
  {g o0 n cc:Nat} {x:Value} (hroot:G.root o=.slice (some ⟨g,o0,none⟩) n cc) (hcell:w.cell? ⟨g,o0+(row.toNat*teo.ls.length+col),none⟩=some x):
  ∃G2 bsC,RelG E base M S0 R0 w0 nt G2 {st with ob:=setO st.ob o (.row eo rows true vr ((row,col)::holes))} a w∧OT E w (.sl e) (r.getD col default) x bsC∧bsC.Nodup∧
   (∀b∈bsC,b∈G.ins o∧b∉G2.F∧∀o' y,getO (setO st.ob o (.row eo rows true vr ((row,col)::holes))) o'=some y→b∉G2.top o'∧b∉G2.ins o')∧
   (∀b∈G.F,b∈G2.F∨b∈bsC)∧(∀b∈G2.F,b∈G.F)∧(∀o',G2.root o'=G.root o'∧G2.top o'=G.top o')∧(∀o',o'≠o→G2.ins o'=G.ins o')∧(∀b∈G2.ins o,b∈G.ins o):=by
 obtain⟨te',b1,b2,b3⟩:=(h.objs o _ ho:RowR E w _ eo rows true holes _ _ _)
 rw[hteo]at b1;cases b1
 rcases b3 with ⟨b3,_⟩|⟨g',off,c,arr,u,bs,a1,a2,a3,a4,a5,a6,a7,a8,a9,a10⟩
 ·rw[b3]at hroot;cases hroot
 ·rw[a1]at hroot
  injection hroot with e1 e2 e3
  injection e1 with e1
  injection e1 with e1 e4 _
  subst e1;subst e4;subst e2;subst e3
  have hj:=(List.getElem?_eq_some_iff.mp hrow).1
  have hi:=(List.getElem?_eq_some_iff.mp hcol).1
  have hx:u row.toNat col=x:=by
   have:=(a6 row.toNat col hj hi).1
   simp only[World.cell?,a3]at hcell
   simp at hcell
   rw[hcell]at this
   exact(Option.some.inj this).symm
  have hnoh:¬isHole holes row.toNat col:=fun⟨q,hq,_⟩=>hnh q hq
  have hot:=a7 row.toNat col r _ hrow hcol hnoh
  simp only[if_true]at hot
  rw[hx]at hot
  have hins:=h.ins o _ ho
  have hndo:=hins.2
  rw[a8 rfl]at hndo
  obtain⟨f1,f2⟩:=ZZ hndo
  let bs':Nat→Nat→List Nat:=fun j i=>if j=row.toNat∧i=col then[]else bs j i
  let G1:Gh:={G with ins:=fun o'=>if o'=o then flatB bs' rows.length teo.ls.length else G.ins o'}
  have hsub:∀b∈flatB bs' rows.length teo.ls.length,b∈G.ins o∧b∉bs row.toNat col:=fun b hb=>by
   obtain⟨j,i,q1,q2,q3⟩:=Z2.mp hb
   simp only[bs']at q3
   split at q3
   ·cases q3
   ·rename_i hne
    exact⟨by rw[a8 rfl];exact Z2.mpr ⟨j,i,q1,q2,q3⟩,f2 j i _ _ q1 q2 hj hi hne b q3⟩
  have hcolins:∀b∈bs row.toNat col,b∈G.ins o:=fun b hb=>by rw[a8 rfl];exact Z2.mpr ⟨_,_,hj,hi,hb⟩
  have hnd':(flatB bs' rows.length teo.ls.length).Nodup:=by
   have hbs':∀j i,bs' j i=if j=row.toNat∧i=col then[]else bs j i:=fun _ _=>rfl
   have e0:flatB bs' rows.length teo.ls.length=flatB (clip rows.length teo.ls.length bs') rows.length teo.ls.length:=by
    exact Z3X fun j i hj hi=>(Z0f hj hi).symm
   rw[e0]
   refine ZX (fun j i=>?_) (fun j i j' i' hne b hb hb'=>?_)
   ·unfold clip
    split
    ·rename_i hc
     rw[hbs']
     split
     ·simp
     ·exact f1 j i hc.1 hc.2
    ·simp
   ·obtain⟨p1,p2,p3⟩:=ZU hb
    obtain⟨p4,p5,p6⟩:=ZU hb'
    rw[hbs']at p3 p6
    split at p3
    ·cases p3
    ·split at p6
     ·cases p6
     ·exact f2 j i j' i' p1 p2 p4 p5 hne b p3 p6
  have hc:Comp (fun _=>False) E w S0 G st.ob w G1 (setO st.ob o (.row eo rows true vr ((row,col)::holes))):=by
   refine⟨fun _ _=>rfl,fun b hb=>⟨rfl,hb⟩,fun o' t cells _ hg=>?_,fun o' e' rows' dp' vr' h' _ hg=>?_,fun o' kl el es _ hg=>?_⟩
   ·rw[Z1]at hg
    split at hg
    ·cases hg
    ·exact⟨rfl,t,cells,hg⟩
   ·rw[Z1]at hg
    split at hg
    ·rename_i e0
     subst e0
     cases hg
     exact⟨rfl,rows,true,vr,holes,ho,rfl,Nat.le_refl _,fun _ _=>⟨rfl,fun y hy=>List.mem_cons_of_mem _ hy,fun te j r hte' hj'=>⟨r,hj',fun _ _ _ _=>⟨rfl,fun _ _ _ _ _=>rfl⟩⟩⟩⟩
    ·exact⟨rfl,rows',dp',vr',h',hg,rfl,Nat.le_refl _,fun hd _=>⟨hd,fun _ hx=>hx,fun te j r hte' hj'=>⟨r,hj',fun _ _ _ _=>⟨rfl,fun _ _ _ _ _=>rfl⟩⟩⟩⟩
   ·rw[Z1]at hg
    split at hg
    ·cases hg
    ·exact⟨rfl,kl,el,es,hg⟩
  have h1:=h.upd o _ (.row eo rows true vr ((row,col)::holes)) ho G1 h.kept (Nat.le_refl _) (fun _ _=>rfl) (fun b hb=>⟨rfl,hb⟩) (fun _ _ _ _ _ _=>rfl) (fun o' hne=>⟨rfl,rfl,by simp[G1,hne]⟩) rfl (fun b hb=>.inl hb) hc
   (by
    simp only[ObjR,G1,if_true]
    refine⟨teo,hteo,b2,.inr ⟨g',off,c,arr,u,bs',a1,a2,a3,a4,a5,a6,fun j i r' l hj' hl hh=>?_,fun _=>rfl,(fun h=>by cases h),fun j i hh=>?_⟩⟩
    ·have h1:¬isHole holes j i:=fun⟨q,hq,hq'⟩=>hh ⟨q,List.mem_cons_of_mem _ hq,hq'⟩
     have h2:¬(j=row.toNat∧i=col):=fun⟨e1,e2⟩=>hh ⟨row,by rw[e2];simp,e1.symm⟩
     have:=a7 j i r' l hj' hl h1
     simp only[if_true]at this⊢
     simp only[bs',if_neg h2]
     exact this
    ·simp only[bs']
     split
     ·rfl
     ·rename_i hne
      obtain⟨q,hq,hq'⟩:=hh
      rcases List.mem_cons.mp hq with hq|hq
      ·cases hq;exact absurd ⟨hq'.symm,rfl⟩ hne
      ·exact a10 j i ⟨q,hq,hq'⟩)
   (by
    simp only[G1,if_true]
    exact⟨fun b hb=>⟨hins.1 b (hsub b hb).1,fun o' x' hx' hne hb'=>h.ins2 o _ o' x' ho hx' (fun e=>hne e.symm) b (hsub b hb).1 hb'⟩,hnd'⟩) .setRow
  have hnumb:NumbO (setO st.ob o (.row eo rows true vr ((row,col)::holes))):=hO.set o rfl
  have h2:=h1.numb (G.F.filter fun b=> !(bs row.toNat col).contains b) (fun b hb=>(List.mem_filter.mp hb).1) (fun o' e' rows' v' hh hg b hb=>by
   have hg':=hg
   simp only[G1]at hb
   rw[Z1]at hg
   split at hg
   ·rename_i e0
    rw[if_pos e0]at hb
    obtain⟨q1,q2⟩:=hsub b hb
    exact List.mem_filter.mpr ⟨hins.1 b q1,by simpa using q2⟩
   ·rename_i e0
    rw[if_neg e0]at hb
    exact List.mem_filter.mpr ⟨(h.ins o' _ hg).1 b hb,by simpa using fun hb'=>h.ins2 o _ o' _ ho hg (fun e=>e0 e.symm) b (hcolins b hb') hb⟩)
  simp only[hT,hnumb.eq]at h2
  refine⟨_,bs row.toNat col,h2,hot,f1 _ _ hj hi,fun b hb=>⟨hcolins b hb,fun hb'=>?_,fun o' y hy=>⟨fun hb'=>?_,fun hb'=>?_⟩⟩,fun b hb=>?_,fun b hb=>(List.mem_filter.mp hb).1,fun o'=>⟨rfl,rfl⟩,fun o' hne=>by simp[Gh.withF,G1,hne],fun b hb=>?_⟩
  ·have:=(List.mem_filter.mp hb').2
   simp at this
   exact this hb
  ·have hy':∃z,getO st.ob o'=some z:=by
    rw[Z1]at hy
    split at hy
    ·rename_i e0;subst e0;exact⟨_,ho⟩
    ·exact⟨y,hy⟩
   obtain⟨z,hz⟩:=hy'
   exact(h.tops o' z hz b hb').2.1 (hins.1 b (hcolins b hb))
  ·simp only[Gh.withF,G1]at hb'
   split at hb'
   ·exact(hsub b hb').2 hb
   ·rename_i e0
    rw[Z1,if_neg e0]at hy
    exact h.ins2 o _ o' y ho hy (fun e=>e0 e.symm) b (hcolins b hb) hb'
  ·by_cases hb':b∈bs row.toNat col
   ·exact .inr hb'
   ·exact .inl (List.mem_filter.mpr ⟨hb,by simpa using hb'⟩)
  ·simp only[Gh.withF,G1,if_true]at hb
   exact(hsub b hb).1
end
end Go.Proofs.YtnihikajdbcoaaaGreat.Vai
namespace Go.Proofs.YtnihikajdbcoaaaGreat.Vai
open Go
theorem ZL {x y:List Id}:disjI x y=true↔∀o∈x,o∉y:=by
 induction x with
 |nil=>simp[disjI]
 |cons o x ih=>
  simp only[disjI,Bool.and_eq_true,ih,List.mem_cons,forall_eq_or_imp]
  have:(!memId o y)=true↔o∉y:=by
   rw[Bool.not_eq_true',Z03]
  rw[this]
section
variable {P:Program} {E:Env} {base:Nat} {M:List Nat} {S0:Nat→Prop} {R0:Id→Value} {w0:World} {nt:Nat} {G:Gh} {st:St} {a:Act} {w:World} {look:Look}
theorem SrcR.deepS {S D:Nat→Prop} {te:TI} {rows:List (List Dat)} {v:Value} (h:SrcR E w S D te rows true v):SrcR E w D D te rows true v:=by
 obtain⟨B,c,u,bs,h1,h2,h3,h4⟩:=h
 exact⟨B,c,u,bs,h1,h2,h3,⟨h4.len,fun j i r l hj hl=>(h4.ot rfl j i r l hj hl).rd (fun b hb=>h4.sub j i b hb),h4.ot,h4.sub,h4.nodup,h4.disj⟩⟩
theorem DstR.of_ot {e:TypeId} {te:TI} (hte:E.T e=some te) {rows:List (List Dat)} {v:Value} {bs:List Nat} (h:OT E w (.sl e) (.sl rows) v bs) (hnd:bs.Nodup):
  ∃hd tl,bs=hd++tl∧∀S:Nat→Prop,(∀b∈tl,S b)→DstR E w S (fun b=>b∈tl) (fun b=>b∈hd) e te rows true v:=by
 cases h with
 |nil _ te' _ ht hd=>exact⟨[],[],rfl,fun S _=>.inl ⟨rfl,hd⟩⟩
 |row _ te' _ g off c arr u bs ht hb hc hs hl hm hr=>
  rw[hte]at ht;cases ht
  simp only[Dat.rows]at hc hl hm hr hnd⊢
  have hnd':=(List.nodup_cons.mp hnd).2
  refine⟨[g],flatB bs rows.length te.ls.length,rfl,fun S hS=>.inr ⟨g,off,c,arr,u,clip rows.length te.ls.length bs,rfl,by simp,hb,hc,hs,hm,⟨hl,fun j i r l hj hl'=>?_,fun _ j i r l hj hl'=>?_,fun j i b hb=>?_,(ZV hnd').1,(ZV hnd').2⟩⟩⟩
  ·exact(hr j i r l hj hl').rd fun b hb=>hS b (Z2.mpr ⟨j,i,(List.getElem?_eq_some_iff.mp hj).1,(List.getElem?_eq_some_iff.mp hl').1,hb⟩)
  ·rw[Z0f (List.getElem?_eq_some_iff.mp hj).1 (List.getElem?_eq_some_iff.mp hl').1]
   exact hr j i r l hj hl'
  ·obtain⟨c1,c2,c3⟩:=ZU hb
   exact Z2.mpr ⟨j,i,c1,c2,c3⟩
theorem Z5M (hE:EnvOk P E) (h:RelG E base M S0 R0 w0 nt G st a w) (hlook:∀i x,look i=some x→getO st.ob i=some x) {e:TypeId} {te:TI} (hte:E.T e=some te) {x:AV} {v:Value} (hv:VR E w S0 G st.ob x v) {g:Given}
  (hg:(bif hasSl te.ls then give look (.sl e) x else(toDat look (.sl e) x).map fun d=>(⟨d,[],true⟩:Given))=some g):
  SrcR E w (SOf S0 G g.ids) (DOf G g.ids) te g.d.rows g.deep v∧∀o∈g.ids,∃y,getO st.ob o=some y:=by
 have _:=hE
 cases hs:hasSl te.ls<;>rw[hs]at hg
 ·simp only[cond_false,Option.map_eq_some_iff]at hg
  obtain⟨d,hd,rfl⟩:=hg
  have hrd:=h.toDat hlook hv (fun e' he=>by cases he;exact⟨te,hte⟩) hd
  exact⟨SrcR.of_scal hte hs hrd _ _,fun o ho=>by cases ho⟩
 ·simp only[cond_true]at hg
  obtain⟨⟨bs,hb⟩,hl⟩:=Z3g h hlook (fun e' he=>by cases he;exact⟨te,hte⟩) hv hg
  exact⟨SrcR.of_give hte hb,hl⟩
theorem Z4E (nw:List (Id×Obj)) {st:St} (h:RelG E base M S0 R0 w0 nt G st a w) (hpk:∀k∈keys nw,isPar k=false):∀o x,getO (clearAll nw st).ob o=some x→∃y,getO st.ob o=some y:=fun o x hx=>by
 obtain⟨_,y,hy,_⟩:=(h.clears nw hpk).2.2.2 o x hx
 exact⟨y,hy⟩
theorem Z0j (hE:EnvOk P E) (h:RelG E base M S0 R0 w0 nt G st a w) {dst:Option Nat} (hd:inB nt dst=true) {ats:Array TypeId} {ty tt t1 e e1:TypeId} {te:TI} (ha0:ats[0]?=some tt) (ha1:ats[1]?=some t1) (hu:P.underlying tt=some (.slice e))
  (hu1:P.underlying t1=some (.slice e1)) (hte:E.T e=some te) {t:Nat} (hti:t<1000000) {ids1 ids2:List Id} (hnd:(ids1++ids2).Nodup) (hl1:∀o∈ids1,∃y,getO st.ob o=some y) (hl2:∀o∈ids2,∃y,getO st.ob o=some y)
  {r1 r2:List (List Dat)} {d1 d2:Bool} {vs vx:Value} (hs:DstR E w (fun b=>S0 b∨b∈G.F) (fun b=>∃o∈ids1,b∈G.ins o) (fun b=>∃o∈ids1,b∈G.top o) e te r1 d1 vs)
  (hsrc:SrcR E w (SOf S0 G ids2) (DOf G ids2) te r2 d2 vx) (hby:(r1.length+r2.length)*te.by_≤maxBytes):
  Stepped E base M S0 R0 w0 nt st a dst {v:=.own (t,0),nw:=[((t,0),.row e (r1++r2) (d1&&d2) 0 [])],dl:=ids1++ids2} ((Builtin.append_ ats ty #[vs,vx]).run P w):=by
 obtain⟨n1,n2,n3⟩:=List.nodup_append.mp hnd
 obtain⟨h1,h2,h3⟩:=h.after_dels (ids1++ids2) [((t,0),.row e (r1++r2) (d1&&d2) 0 [])] (Zg hti 0 _)
 have live:∀o x,getO (clearAll [((t,0),.row e (r1++r2) (d1&&d2) 0 [])] {st with ob:=delAll (ids1++ids2) st.ob}).ob o=some x→o∉ids1∧o∉ids2∧∃y,getO st.ob o=some y:=fun o x hx=>by
  obtain⟨_,q1,y,q2,_⟩:=h3 o x hx
  rw[List.mem_append,not_or]at q1
  exact⟨q1.1,q1.2,y,q2⟩
 have mono:∀{S S' D T:Nat→Prop},(∀b,S b→S' b)→DstR E w S D T e te r1 d1 vs→DstR E w S' D T e te r1 d1 vs:=fun hm hd=>by
  rcases hd with hd|⟨g,off,c,arr,u,bs,q1,q2,q3,q4,q5,q6,q7⟩
  ·exact .inl hd
  ·exact .inr ⟨g,off,c,arr,u,bs,q1,q2,q3,q4,q5,q6,⟨q7.len,fun j i r l hj hl=>(q7.rd j i r l hj hl).mono hm,q7.ot,q7.sub,q7.nodup,q7.disj⟩⟩
 obtain⟨v',w',G',f1,f2,f3⟩:=h1.appendTo hE (h2 (t,0) (by simp[keys])) (ty:=ty) ha0 ha1 hu hu1 hte (fl:=ids2.flatMap G.top) (T:=fun b=>∃o∈ids1,b∈G.top o)
  (fun b hb=>by
   obtain⟨o,ho,hb⟩:=List.mem_flatMap.mp hb
   obtain⟨y,hy⟩:=hl2 o ho
   obtain⟨q1,q2,q3⟩:=h.tops o y hy b hb
   refine⟨q1,q3,h.top_lt hy b hb,fun o' x' hx'=>?_⟩
   obtain⟨r1',r2',y',r3⟩:=live o' x' hx'
   exact⟨h.tops2 o y o' y' hy r3 (fun e=>r2' (e▸ho)) b hb,fun hb'=>q2 ((h.ins o' y' r3).1 b hb')⟩)
  (fun b ⟨o,ho,hb⟩=>by
   obtain⟨y,hy⟩:=hl1 o ho
   obtain⟨q1,q2,q3⟩:=h.tops o y hy b hb
   refine⟨q1,q2,fun hb'=>?_,q3,fun o' x' hx'=>?_⟩
   ·obtain⟨o',ho',hb'⟩:=List.mem_flatMap.mp hb'
    obtain⟨y',hy'⟩:=hl2 o' ho'
    exact h.tops2 o y o' y' hy hy' (n3 o ho o' ho') b hb hb'
   ·obtain⟨r1',r2',y',r3⟩:=live o' x' hx'
    exact h.tops2 o y o' y' hy r3 (fun e=>r1' (e▸ho)) b hb)
  (fun b hb=>by
   rcases hb with ⟨o,ho,hb⟩|⟨o,ho,hb⟩
   ·obtain⟨y,hy⟩:=hl1 o ho
    refine⟨.inl ((h.ins o y hy).1 b hb),fun o' x' hx'=>?_⟩
    obtain⟨r1',r2',y',r3⟩:=live o' x' hx'
    exact h.ins2 o y o' y' hy r3 (fun e=>r1' (e▸ho)) b hb
   ·obtain⟨y,hy⟩:=hl2 o ho
    refine⟨hb.elim (fun hb=>.inr (List.mem_flatMap.mpr ⟨o,ho,hb⟩)) (fun hb=>.inl ((h.ins o y hy).1 b hb)),fun o' x' hx' hb'=>?_⟩
    obtain⟨r1',r2',y',r3⟩:=live o' x' hx'
    exact h.apart hy r3 (fun e=>r2' (e▸ho)) hb (.inr hb'))
  (fun b ⟨o,ho,hb⟩ ⟨o',ho',hb'⟩=>by
   obtain⟨y,hy⟩:=hl1 o ho
   obtain⟨y',hy'⟩:=hl2 o' ho'
   exact h.apart hy hy' (n3 o ho o' ho') (.inr hb) hb')
  (fun b hb ⟨o',ho',hb'⟩=>by
   obtain⟨y',hy'⟩:=hl1 o' ho'
   rcases hb with ⟨o,ho,hb⟩|⟨o,ho,hb⟩
   ·obtain⟨y,hy⟩:=hl1 o ho
    exact(h.tops o' y' hy' b hb').2.1 ((h.ins o y hy).1 b hb)
   ·obtain⟨y,hy⟩:=hl2 o ho
    exact h.apart hy hy' (fun e=>n3 o' ho' o ho e.symm) hb (.inl hb'))
  (S:=SOf S0 G ids2) (fun b hb=>hb.imp id fun hb=>hb.imp id fun⟨o,ho,hb⟩=>List.mem_flatMap.mpr ⟨o,ho,hb⟩)
  (mono (fun b hb=>hb.imp id .inl) hs) hsrc hby
 refine⟨v',w',f1,?_⟩
 rw[Z8]
 exact⟨G',f2.putO hd f3⟩
theorem Z3Y (hE:EnvOk P E) (h:RelG E base M S0 R0 w0 nt G st a w) (hlook:∀i x,look i=some x→getO st.ob i=some x) {dst:Option Nat} (hd:inB nt dst=true) {ats:Array TypeId} {ty tt t1 e e1:TypeId} (ha0:ats[0]?=some tt) (ha1:ats[1]?=some t1)
  (hu:P.underlying tt=some (.slice e)) (hu1:P.underlying t1=some (.slice e1)) {t:Nat} (hti:t<1000000) {s x:AV} {vs vx:Value} (hs:VR E w S0 G st.ob s vs) (hx:VR E w S0 G st.ob x vx) {r:OpRes} (hr:opAppend E look t e s x=some r) (hg:r.g=true):
  r.o=some []∧Stepped E base M S0 R0 w0 nt st a dst (r.f []) ((Builtin.append_ ats ty #[vs,vx]).run P w):=by
 unfold opAppend at hr
 split at hr
 ·cases hr
 ·rename_i te hte
  split at hr
  ·cases hr
  ·rename_i d hd'
   split at hr
   ·cases hr
   ·rename_i g hgv
    obtain⟨hsrc,hlive2⟩:=Z5M hE h hlook hte hx hgv
    rcases Bool.eq_false_or_eq_true (!nodupId (d.ids++g.ids)||((!g.deep&& !d.up.isEmpty)|| !disjI (keys d.up) g.ids))with hb|hb<;>rw[hb]at hr
    ·cases hr
    simp only[cond_false,under,Option.some.injEq]at hr
    subst hr
    simp only[Bool.or_eq_false_iff,Bool.not_eq_false']at hb
    obtain⟨hnd,hdeep,hdis⟩:=hb
    have hnd:=ZA.mp hnd
    have hby:(d.rows.length+g.d.rows.length)*te.by_≤maxBytes:=by simpa using hg
    refine⟨rfl,?_⟩
    cases hs with
    |nil=>
     simp only[dstOf,Option.some.injEq]at hd'
     subst hd'
     exact Z0j hE h hd ha0 ha1 hu hu1 hte hti (ids1:=[]) (r1:=[]) (d1:=true) hnd (fun o ho=>by cases ho) hlive2 (.inl ⟨rfl,rfl⟩) hsrc hby
    |own o v hr0 h1=>
     simp only[dstOf]at hd'
     split at hd'
     ·rename_i e' rows dp vr hlk
      obtain⟨he,hd2⟩:=Z0 hd'
      have he:=Z3 he;subst he
      simp only[Option.some.injEq]at hd2
      subst hd2
      have hgo:=hlook _ _ hlk
      obtain⟨A,c,q1,q2,q3⟩:=Win.whole hte (h.objs o _ hgo:RowR E w _ _ _ _ _ _ _ _)
      have hdst:=h.dst_row hte hgo q3
      simp only[Int.toNat_zero,List.drop_zero,Int.toNat_natCast,List.take_length]at hdst
      rw[hr0 _ _ _ _ _ hgo]
      refine Z0j hE h hd ha0 ha1 hu hu1 hte hti (ids1:=[o]) hnd (fun o' ho'=>by simp at ho';subst ho';exact⟨_,hgo⟩) hlive2 ?_ hsrc hby
      simpa using hdst
     ·cases hd'
    |vw o lo n v hr0 h1=>
     simp only[dstOf]at hd'
     split at hd'
     ·rename_i e' rows dp vr hlk
      obtain⟨he,hd2⟩:=Z0 hd'
      have he:=Z3 he;subst he
      simp only[Option.some.injEq]at hd2
      subst hd2
      have hgo:=hlook _ _ hlk
      have hdst:=h.dst_row hte hgo (hr0 _ _ _ _ _ te hgo hte)
      refine Z0j hE h hd ha0 ha1 hu hu1 hte hti (ids1:=[o]) hnd (fun o' ho'=>by simp at ho';subst ho';exact⟨_,hgo⟩) hlive2 ?_ hsrc hby
      simpa using hdst
     ·cases hd'
    |nest o ver row col e' whole rows v hrd hn=>
     simp only[dstOf]at hd'
     split at hd'
     ·rename_i eo rowso dp ver' holes hlk
      obtain⟨he,hd2⟩:=Z0 hd'
      simp only[Bool.and_eq_true,Bool.not_eq_true']at he
      obtain⟨he1,he2,he3,he4⟩:=he
      have he1:=Z3 he1;subst he1
      have he2:=Z3 he2;subst he2
      subst he3
      simp only[Option.some.injEq]at hd2
      subst hd2
      have hgo:=hlook _ _ hlk
      simp only[keys,ZL,List.mem_singleton,forall_eq]at hdis
      simp only[List.isEmpty_cons,Bool.not_false,Bool.and_true]at hdeep
      have hdeep:g.deep=true:=by simpa using hdeep
      simp only[List.nil_append]at hnd
      have hnh:∀q,(q,col)∉holes:=fun q hq=>by
       have:∀hs:List (Int×Nat),(q,col)∈hs→colIn col 1 hs=true:=fun hs=>by
        induction hs with
        |nil=>intro hh;cases hh
        |cons p hs ih=>
         intro hh
         obtain⟨p1,p2⟩:=p
         simp only[colIn]
         rcases List.mem_cons.mp hh with hh|hh
         ·cases hh
          have c1:Nat.ble col col=true:=Nat.ble_eq.mpr (by omega)
          have c2:Nat.blt col (col+1)=true:=Nat.ble_eq.mpr (by omega)
          simp[c1,c2]
         ·rw[ih hh];cases(Nat.ble col p2&&Nat.blt p2 (col+1))<;>rfl
       rw[this holes hq]at he4;cases he4
      obtain⟨teo,hteo,_⟩:=(h.objs o _ hgo:RowR E w _ eo rowso true holes _ _ _)
      obtain⟨hr0,hcol,rr,gb,o0,n,cc,xv,hrow,hroot,hcell,_,lo,n',te',hte',hwin⟩:=hn.2 eo rowso ver holes teo hgo rfl hnh hteo
      rw[hte]at hte';cases hte'
      have h1:=(h.dels g.ids).numb G.F (fun _ hb=>hb) (fun o' e' rows' v' hh hg' b hb=>((h.dels g.ids).ins o' _ hg').1 b hb)
      have hgo1:getO (numbO (delAll g.ids st.ob)) o=some (.row eo rowso true ver holes):=by
       rw[ZG,ZC,if_neg hdis,hgo];rfl
      obtain⟨G2,bsC,k1,k2,k3,k4,k5,k6,k7,k8,k9⟩:=h1.hole (Z3t _) (Z3u _) hteo hgo1 hr0 hcol hrow hnh hroot hcell
      obtain⟨bs',o1,o2,o3⟩:=OT.window hte (k2.sl_dat (d':=.sl (rr.getD col default).rows) rfl) k3 hwin
      have o1:OT E w (.sl e) (.sl rows) vs bs':=OT.of_rd o1 hrd
      obtain⟨hdl,tl,rfl,hdst⟩:=DstR.of_ot hte o1 o2
      obtain⟨m1,m2,m3⟩:=List.nodup_append.mp o2
      rw[hdeep]at hsrc
      have hsrc:=hsrc.deepS
      have hinso:=h.ins o _ hgo
      have hbsC:∀b,b∈bsC→b∈G.ins o:=fun b hb=>(k4 b hb).1
      have hF:∀b,b∈bsC→¬S0 b∧(base≤b∨b∈M)∧b<w.heap.size∧b∈G.F:=fun b hb=>by
       have:=hinso.1 b (hbsC b hb)
       obtain⟨q1,q2,q3⟩:=h.F b this
       exact⟨q1,q2,q3,this⟩
      let st2:St:={tm:=numbT st.tm,ob:=setO (numbO (delAll g.ids st.ob)) o (.row eo rowso true ver ((row,col)::holes))}
      have live2:∀o' y,getO st2.ob o'=some y→o'∉g.ids∧∃z,getO st.ob o'=some z:=fun o' y hy=>by
       simp only[st2,Z1]at hy
       split at hy
       ·rename_i e0;subst e0;exact⟨hdis,_,hgo⟩
       ·rw[ZG,ZC]at hy
        split at hy
        ·cases hy
        ·rename_i hn2
         cases hz:getO st.ob o' with
         |none=>rw[hz]at hy;cases hy
         |some z=>exact⟨hn2,z,rfl⟩
      have live:∀o' y,getO (clearAll [((t,0),.row e (rows++g.d.rows) (true&&true) 0 [])] st2).ob o'=some y→o'∉g.ids∧(∃z,getO st.ob o'=some z)∧∃z,getO st2.ob o'=some z:=fun o' y hy=>by
       obtain⟨z,hz⟩:=Z4E _ k1 (Zg hti 0 _) o' y hy
       exact⟨(live2 o' z hz).1,(live2 o' z hz).2,z,hz⟩
      have hno:=(k1.clears [((t,0),.row e (rows++g.d.rows) (true&&true) 0 [])] (Zg hti 0 _)).2.1 (t,0) (by simp[keys])
      have hk:=(k1.clears [((t,0),.row e (rows++g.d.rows) (true&&true) 0 [])] (Zg hti 0 _)).1
      have hinsG:∀o' b,b∈G2.ins o'→b∈G.ins o':=fun o' b hb=>by
       by_cases e0:o'=o
       ·subst e0;exact k9 b hb
       ·rw[k8 o' e0]at hb;exact hb
      have hDfl:∀b,DOf G g.ids b→b∉bsC∧(b∈G2.F∨b∈g.ids.flatMap G.top):=fun b ⟨o',ho',hb⟩=>by
       obtain⟨y,hy⟩:=hlive2 o' ho'
       have hne:o≠o':=fun e0=>hdis (e0▸ho')
       have hnb:b∉bsC:=fun hb'=>h.apart hgo hy hne (.inr (hbsC b hb')) hb
       refine⟨hnb,?_⟩
       rcases hb with hb|hb
       ·exact .inr (List.mem_flatMap.mpr ⟨o',ho',hb⟩)
       ·exact .inl ((k5 b ((h.ins o' y hy).1 b hb)).resolve_right hnb)
      obtain⟨v',w',G',f1,f2,f3⟩:=hk.appendTo hE hno (ty:=ty) ha0 ha1 hu hu1 hte (fl:=g.ids.flatMap G.top++tl) (T:=fun b=>b∈hdl) (D1:=fun b=>b∈tl) (D2:=DOf G g.ids)
       (fun b hb=>by
        rcases List.mem_append.mp hb with hb|hb
        ·obtain⟨o',ho',hb⟩:=List.mem_flatMap.mp hb
         obtain⟨y,hy⟩:=hlive2 o' ho'
         obtain⟨q1,q2,q3⟩:=h.tops o' y hy b hb
         refine⟨q1,q3,h.top_lt hy b hb,fun o'' y' hy'=>?_⟩
         obtain⟨r1,⟨z,r2⟩,_⟩:=live o'' y' hy'
         refine⟨fun hb'=>?_,fun hb'=>q2 ((h.ins o'' z r2).1 b (hinsG o'' b hb'))⟩
         rw[(k7 o'').2]at hb'
         exact h.tops2 o' y o'' z hy r2 (fun e0=>r1 (e0▸ho')) b hb hb'
        ·have hbC:=o3 b (List.mem_append.mpr (.inr hb))
         obtain⟨q1,q2,q3,q4⟩:=hF b hbC
         refine⟨q1,q2,q3,fun o'' y' hy'=>?_⟩
         obtain⟨_,_,z,r3⟩:=live o'' y' hy'
         exact(k4 b hbC).2.2 o'' z r3)
       (fun b hb=>by
        have hbC:=o3 b (List.mem_append.mpr (.inl hb))
        obtain⟨q1,q2,q3,q4⟩:=hF b hbC
        refine⟨q1,(k4 b hbC).2.1,fun hb'=>?_,q2,fun o'' y' hy'=>?_⟩
        ·rcases List.mem_append.mp hb' with hb'|hb'
         ·obtain⟨o',ho',hb'⟩:=List.mem_flatMap.mp hb'
          obtain⟨y,hy⟩:=hlive2 o' ho'
          exact(h.tops o' y hy b hb').2.1 q4
         ·exact m3 b hb b hb' rfl
        ·obtain⟨_,_,z,r3⟩:=live o'' y' hy'
         exact((k4 b hbC).2.2 o'' z r3).1)
       (fun b hb=>by
        rcases hb with hb|hb
        ·refine⟨.inr (List.mem_append.mpr (.inr hb)),fun o'' y' hy'=>?_⟩
         obtain⟨_,_,z,r3⟩:=live o'' y' hy'
         exact((k4 b (o3 b (List.mem_append.mpr (.inr hb)))).2.2 o'' z r3).2
        ·obtain⟨s1,s2⟩:=hDfl b hb
         refine⟨s2.imp id fun hb=>List.mem_append.mpr (.inl hb),fun o'' y' hy' hb'=>?_⟩
         obtain⟨r1,⟨z,r2⟩,_⟩:=live o'' y' hy'
         obtain⟨o',ho',hb⟩:=hb
         obtain⟨y,hy⟩:=hlive2 o' ho'
         exact h.apart hy r2 (fun e0=>r1 (e0▸ho')) hb (.inr (hinsG o'' b hb')))
       (fun b hb hb'=>(hDfl b hb').1 (o3 b (List.mem_append.mpr (.inr hb))))
       (fun b hb hb'=>by
        rcases hb with hb|hb
        ·exact m3 b hb' b hb rfl
        ·exact(hDfl b hb).1 (o3 b (List.mem_append.mpr (.inl hb'))))
       (S:=fun b=>S0 b∨b∈G2.F∨b∈g.ids.flatMap G.top++tl) (fun b hb=>hb)
       (hdst _ (fun b hb=>.inr (.inr (List.mem_append.mpr (.inr hb)))))
       (by
        obtain⟨B,c,u,bs,s1,s2,s3,s4⟩:=hsrc
        exact⟨B,c,u,bs,s1,s2,s3,⟨s4.len,fun j i r l hj hl=>(s4.rd j i r l hj hl).mono (fun b hb=>.inr ((hDfl b hb).2.imp id fun hb=>List.mem_append.mpr (.inl hb))),s4.ot,s4.sub,s4.nodup,s4.disj⟩⟩) hby
      refine⟨v',w',f1,?_⟩
      rw[Z8]
      simp only[hdeep]
      exact⟨G',f2.putO hd f3⟩
     ·cases hd'
    |_=>simp[dstOf]at hd'
end
end Go.Proofs.YtnihikajdbcoaaaGreat.Vai
namespace Go.Proofs.YtnihikajdbcoaaaGreat.Vai
open Go
theorem Z3Z {α:Type} (xs:List α):∀(l:List α) (i:Nat),i+xs.length≤l.length→setRange l i xs=l.take i++xs++l.drop (i+xs.length):=by
 intro l i h
 apply List.ext_getElem?
 intro k
 rw[ZJ]
 by_cases h1:i≤k∧k<i+xs.length
 ·rw[if_pos h1,if_pos (by omega),List.append_assoc,List.getElem?_append_right (by simp;omega),List.getElem?_append_left (by simp;omega)]
  simp only[List.length_take]
  congr 1
  omega
 ·rw[if_neg h1]
  by_cases h2:k<i
  ·rw[List.append_assoc,List.getElem?_append_left (by simp;omega),List.getElem?_take,if_pos h2]
  ·rw[List.getElem?_append_right (by simp;omega)]
   simp only[List.length_append,List.length_take,List.getElem?_drop]
   congr 1
   omega
section
variable {P:Program} {E:Env} {base:Nat} {M:List Nat} {S0:Nat→Prop} {R0:Id→Value} {w0:World} {nt:Nat} {G:Gh} {st:St} {a:Act} {w:World} {look:Look}
theorem Z0X {t:TypeId} {ti:TI} (hT:TOk P E t ti) {g off:Nat} {arr:Array Value} {et:TypeId} (hg:w.heap[g]?=some (.cells arr et (0,0))) {v:Value} (hv:v.cells.size=ti.ls.length) (h1:∀u∈v.cells.toList,oneV u) (hle:off+ti.ls.length≤arr.size):
  (Instr.storeAt t (.pointer (some ⟨g,off,none⟩)) v).run P w=.ok () (w.setRow g (setRange arr.toList off v.cells.toList).toArray):=by
 have hst:=run_storeCells_at P g off et v.cells.toList 0 arr w hg (by simp;omega) (fun x hx=>Z2P (h1 x hx))
 simp only[Nat.add_zero]at hst
 rw[Z3Z _ _ _ (by simp;omega)]
 simp[Instr.storeAt,Instr.sureAddr,storeVar,hT.size,hv]
 simpa[hv]using hst
theorem RelG.compWrite (h:RelG E base M S0 R0 w0 nt G st a w) {o:Id} {x y:Obj} (ho:getO st.ob o=some x) {g:Nat} (hg:g∈G.top o) {arr':Array Value} {G':Gh} (hr:∀o',G'.root o'=G.root o') (hF:∀b∈G.F,b∈G'.F)
  (hbox:∀t cells,y=.box t cells→∃t0 cells0,x=.box t0 cells0)
  (hrow:∀e rows' dp' vr' h',y=.row e rows' dp' vr' h'→∃rows dp vr hh,x=.row e rows dp vr hh∧rows'.length=rows.length∧vr≤vr'∧(dp'=true→vr'=vr→dp=true∧(∀x∈hh,x∈h')∧∀(te:TI) (j:Nat) (r:List Dat),E.T e=some te→rows[j]?=some r→
   ∃r',rows'[j]?=some r'∧∀(col:Nat) (e':TypeId),te.ls[col]?=some (.sl e')→(∀q,(q,col)∉h')→
    (r'.getD col default).rows.length=(r.getD col default).rows.length∧
    ∀g0 o0 n c,G.root o=.slice (some ⟨g0,o0,none⟩) n c→(w.setRow g arr').cell? ⟨g0,o0+(j*te.ls.length+col),none⟩=w.cell? ⟨g0,o0+(j*te.ls.length+col),none⟩)) (hmp:∀kl el es,y≠.mp kl el es):
  Comp (fun _=>False) E w S0 G st.ob (w.setRow g arr') G' (setO st.ob o y):=by
 have htop:=h.tops o x ho g hg
 have hold:∀b,b≠g→(w.setRow g arr').heap[b]?=w.heap[b]?:=fun b hb=>setRow_other w g b arr' hb
 refine⟨fun b hb=>hold b (fun e=>htop.1 (e▸hb)),fun b hb=>⟨hold b (fun e=>htop.2.1 (e▸hb)),hF b hb⟩,fun o' t cells _ hg'=>?_,fun o' e rows' dp' vr' h' _ hg'=>?_,fun o' kl el es _ hg'=>?_⟩
 ·rw[Z1]at hg'
  refine⟨hr o',?_⟩
  split at hg'
  ·rename_i e0
   subst e0
   obtain⟨t0,c0,hx⟩:=hbox t cells (Option.some.inj hg')
   exact⟨t0,c0,by rw[ho,hx]⟩
  ·exact⟨t,cells,hg'⟩
 ·rw[Z1]at hg'
  refine⟨hr o',?_⟩
  split at hg'
  ·rename_i e0
   subst e0
   obtain⟨rows,dp,vr,hh,hx,q1,q2,q3⟩:=hrow _ _ _ _ _ (Option.some.inj hg')
   exact⟨rows,dp,vr,hh,by rw[ho,hx],q1,q2,q3⟩
  ·rename_i e0
   refine⟨rows',dp',vr',h',hg',rfl,Nat.le_refl _,fun hd _=>⟨hd,fun _ hx=>hx,fun te j r hte hj=>⟨r,hj,fun col e' hc hq=>⟨rfl,fun g0 o0 n c hroot=>?_⟩⟩⟩⟩
   refine ZD (a:=⟨g0,o0+(j*te.ls.length+col),none⟩) (hold g0 (fun e1=>?_))
   have hin:g0∈G.top o':=by
    obtain⟨te',_,_,h3⟩:=(h.objs o' _ hg':RowR E w _ e rows' dp' h' _ _ _)
    rcases h3 with ⟨h3,_⟩|⟨g',off,c',arr,u,bs,a1,a2,_⟩
    ·rw[h3]at hroot;cases hroot
    ·rw[a1]at hroot;cases hroot;rw[a2];simp
   exact h.tops2 o x o' _ ho hg' (fun e=>e0 e.symm) g hg (e1▸hin)
 ·rw[Z1]at hg'
  refine⟨hr o',?_⟩
  split at hg'
  ·exact absurd (Option.some.inj hg') (hmp kl el es)
  ·exact⟨kl,el,es,hg'⟩
def SteppedU (E:Env) (base:Nat) (M:List Nat) (S0:Nat→Prop) (R0:Id→Value) (w0:World) (nt:Nat) (st:St) (a:Act) (dst:Option Nat) (d:Delta) (run:Result Unit):Prop:=
 ∃w',run=.ok () w'∧Rel E base M S0 R0 w0 nt (applyD st dst d) (a.put dst undef) w'
theorem RelG.kept_set (h:RelG E base M S0 R0 w0 nt G st a w) {o:Id} {x:Obj} (ho:getO st.ob o=some x) {g:Nat} (hg:g∈G.top o) (arr':Array Value):Kept base M w0 (w.setRow g arr'):=
 ⟨by simpa using h.kept.size,fun b hb hm=>(setRow_other w g b arr' (fun e=>by
  subst e
  exact(h.tops o x ho b hg).2.2.elim (fun h=>by omega) hm)).trans (h.kept.heap b hb hm),h.kept.os,h.kept.tape,h.kept.output⟩
theorem Z2Q {e:TypeId} {al:Bool} {rows:List (List Dat)}:∀{l:List AV},.ro e al rows∈l→hasRo l=true
 |[],h=>by cases h
 |v::r,h=>by
  rcases List.mem_cons.mp h with h|h
  ·subst h;rfl
  ·have:=Z2Q h
   cases v<;>simp only[hasRo,this]
theorem Z1b (hE:EnvOk P E) (h:RelG E base M S0 R0 w0 nt G st a w) {dst:Option Nat} (hd:inB nt dst=true) {t:TypeId} {ti:TI} (hT:TOk P E t ti) {o:Id} {row:Int} {off:Nat} {va:Value} (hp:PtrR E G st.ob o row off va)
  {bt:TypeId} {cells:List AV} (ho:getO st.ob o=some (.box bt cells)) {x:AV} {vx:Value} (hx:VR E w S0 G st.ob x vx) (hle:off+ti.ls.length≤cells.length) (hl:(flat x).length=ti.ls.length) (hsol:solid x=true) (hpr:(isPar o&&hasRo (flat x))=false):
  SteppedU E base M S0 R0 w0 nt st a dst {v:=.dead,up:=[(o,.box bt (setRange cells off (flat x)))]} ((Instr.storeAt t va vx).run P w):=by
 have _:=hE
 obtain⟨_,g,hroot,rfl⟩:=hp.1 _ _ ho
 obtain⟨g',arr,et,b1,b2,b3,b4,b5,b6⟩:=(h.objs o _ ho:BoxR E w S0 G st.ob cells _ _ _)
 rw[hroot]at b1;cases b1
 have hfr:=hx.flatR hsol
 have hsz:vx.cells.size=ti.ls.length:=by have:=hfr.1;simp at this;omega
 have hone:∀u∈vx.cells.toList,oneV u:=fun u hu=>by
  obtain⟨i,hi⟩:=List.getElem?_of_mem hu
  have hi':i<(flat x).length:=by rw[hfr.1];exact(List.getElem?_eq_some_iff.mp hi).1
  exact(hfr.2 i _ u (List.getElem?_eq_getElem hi') hi).2
 have hrun:=Z0X hT (off:=off) b4 hsz hone (by omega)
 have hgt:g∈G.top o:=by rw[b2];simp
 have hc:=h.compWrite ho hgt (y:=.box bt (setRange cells off (flat x))) (arr':=(setRange arr.toList off vx.cells.toList).toArray) (G':=G) (fun _=>rfl) (fun _ hb=>hb) (fun _ _ _=>⟨_,_,rfl⟩) (fun _ _ _ _ _ h=>by cases h) (fun _ _ _ h=>by cases h)
 have htop:=h.tops o _ ho g hgt
 have hcs:CellsR E w S0 G st.ob cells arr.toList:=⟨by simp[b5],fun i v x hv hx=>b6 i v x hv (by simpa using hx)⟩
 have hcs':=hcs.setRange hfr off
 have key:=h.upd o _ (.box bt (setRange cells off (flat x))) ho G (h.kept_set ho hgt _) (by simp) hc.old hc.F (fun o' x' hx' hne b hb=>setRow_other w g b _ (fun e=>h.tops2 o _ o' x' ho hx' (fun e=>hne e.symm) g hgt (e▸hb))) (fun _ _=>⟨rfl,rfl,rfl⟩) rfl (fun b hb=>.inl hb) hc
  (by
   refine⟨g,_,et,hroot,b2,b3,setRow_heap w g arr _ et _ b4,by simp[ZB,b5],fun i v u hv hu=>?_⟩
   obtain⟨q1,q2⟩:=hcs'.2 i v u hv (by simpa using hu)
   exact⟨q1.map hc (fun _ _ h=>h),q2⟩)
  ⟨fun b hb=>⟨(h.ins o _ ho).1 b hb,fun o' x' hx' hne=>h.ins2 o _ o' x' ho hx' (fun e=>hne e.symm) b hb⟩,(h.ins o _ ho).2⟩ (fun e0=>by
   intro t' cs ht' c e rows hcc
   rw[Z1,if_pos e0.symm]at ht'
   cases ht'
   rw[ZJ]at hcc
   split at hcc
   ·rename_i hin
    split at hcc
    ·have hm:=List.mem_of_getElem? hcc
     have:hasRo (flat x)=true:=Z2Q hm
     rw[this,e0,Z0H]at hpr
     cases hpr
    ·cases hcc
   ·rename_i hin
    have ho':=ho
    rw[e0]at ho'
    obtain⟨g0,q1,q2⟩:=h.fix _ cells ho' c e rows hcc
    have h1:=h.par _ _ Z0H ho'
    rw[←e0,hroot,e0,q1]at h1
    cases h1
    refine⟨g,q1,?_⟩
    rw[←q2]
    have hh:=setRow_heap w g arr (setRange arr.toList off vx.cells.toList).toArray et _ b4
    simp only[World.cell?,hh,b4]
    have hfl:=hfr.1
    simp only[Array.length_toList]at hfl
    simp only[List.getElem?_toArray,ZJ,Array.length_toList,←hfl]
    rw[if_neg hin]
    simp)
 refine⟨_,hrun,?_⟩
 rw[Z8]
 exact⟨G,key.putO hd (.dead _)⟩
theorem Zd {off n:Nat}:∀{hs:List (Int×Nat)} {p:Int×Nat},p∈holesOut off n hs↔p∈hs∧¬(off≤p.2∧p.2<off+n)
 |[],p=>by simp[holesOut]
 |(r,c)::hs,p=>by
  simp only[holesOut]
  cases hb:(Nat.ble off c&&Nat.blt c (off+n))with
  |true=>
   simp only[cond_true,List.mem_cons]
   rw[Zd]
   simp only[Bool.and_eq_true]at hb
   have h1:=Nat.le_of_ble_eq_true hb.1
   have h2:c<off+n:=Nat.le_of_ble_eq_true hb.2
   constructor
   ·rintro ⟨q1,q2⟩;exact⟨.inr q1,q2⟩
   ·rintro ⟨q1|q1,q2⟩
    ·subst q1;exact absurd ⟨h1,h2⟩ q2
    ·exact⟨q1,q2⟩
  |false=>
   simp only[cond_false,List.mem_cons]
   rw[Zd]
   have hn:¬(off≤c∧c<off+n):=fun⟨h1,h2⟩=>by
    have c1:Nat.ble off c=true:=Nat.ble_eq.mpr h1
    have c2:Nat.blt c (off+n)=true:=Nat.ble_eq.mpr h2
    rw[c1,c2]at hb;cases hb
   constructor
   ·rintro (q1|⟨q1,q2⟩)
    ·subst q1;exact⟨.inl rfl,hn⟩
    ·exact⟨.inr q1,q2⟩
   ·rintro ⟨q1|q1,q2⟩
    ·exact .inl q1
    ·exact .inr ⟨q1,q2⟩
theorem Z2R {row:Int}:∀{hs:List (Int×Nat)},rowIs row hs=true→∀p∈hs,p.1=row
 |[],_,p,hp=>by cases hp
 |(r,c)::hs,h,p,hp=>by
  simp only[rowIs,Bool.and_eq_true,decide_eq_true_eq]at h
  rcases List.mem_cons.mp hp with rfl|hp
  ·exact h.1
  ·exact Z2R h.2 p hp
theorem Z04 {off n:Nat}:∀{hs:List (Int×Nat)},colIn off n hs=false→∀p∈hs,¬(off≤p.2∧p.2<off+n)
 |[],_,p,hp=>by cases hp
 |(r,c)::hs,h,p,hp=>by
  simp only[colIn]at h
  cases hb:(Nat.ble off c&&Nat.blt c (off+n))with
  |true=>rw[hb]at h;cases h
  |false=>
   rw[hb]at h
   rcases List.mem_cons.mp hp with rfl|hp
   ·rintro ⟨h1,h2⟩
    have c1:Nat.ble off c=true:=Nat.ble_eq.mpr h1
    have c2:Nat.blt c (off+n)=true:=Nat.ble_eq.mpr h2
    rw[c1,c2]at hb;cases hb
   ·exact Z04 h p hp
end
end Go.Proofs.YtnihikajdbcoaaaGreat.Vai
namespace Go.Proofs.YtnihikajdbcoaaaGreat.Vai
open Go
section
variable {P:Program} {E:Env} {base:Nat} {M:List Nat} {S0:Nat→Prop} {R0:Id→Value} {w0:World} {nt:Nat} {G:Gh} {st:St} {a:Act} {w:World} {look:Look}
theorem Z2S {sz row j i off n:Nat} (hi:i<sz) (hn:off+n≤sz):row*sz+off≤j*sz+i∧j*sz+i<row*sz+off+n↔j=row∧off≤i∧i<off+n:=by
 constructor
 ·rintro ⟨h1,h2⟩
  have:j=row:=(Z2F (i:=row) (j:=j) hi).mp ⟨by omega,by omega⟩
  subst this
  omega
 ·rintro ⟨rfl,h1,h2⟩;omega
theorem RelG.writeRow (h:RelG E base M S0 R0 w0 nt G st a w) {dst:Option Nat} (hd:inB nt dst=true) {o:Id} {e:TypeId} {rows:List (List Dat)} {dp:Bool} {vr:Nat} {holes:List (Int×Nat)} (ho:getO st.ob o=some (.row e rows dp vr holes))
  {te:TI} (hte:E.T e=some te) (hlen:∀(j:Nat) (r:List Dat),rows[j]?=some r→r.length=te.ls.length)
  {g offb c:Nat} {arr:Array Value} {u:Nat→Nat→Value} {bs:Nat→Nat→List Nat} (a1:G.root o=.slice (some ⟨g,offb,none⟩) rows.length c) (a2:G.top o=[g]) (a3:w.heap[g]?=some (.cells arr e (0,0))) (a4:rows.length≤c)
  (a5:offb+c*te.ls.length≤arr.size) (a6:∀j i:Nat,j<rows.length→i<te.ls.length→arr[offb+(j*te.ls.length+i)]?=some (u j i)∧oneV (u j i))
  (a7:∀(j i:Nat) (r:List Dat) (l:Leaf),rows[j]?=some r→te.ls[i]?=some l→¬isHole holes j i→if dp then OT E w l (r.getD i default) (u j i) (bs j i)else RD E w (fun b=>S0 b∨b∈G.F) l (r.getD i default) (u j i))
  (a8:dp=true→G.ins o=flatB bs rows.length te.ls.length) (a10:∀j i,isHole holes j i→bs j i=[])
  {row:Nat} (hrow:row<rows.length) {off:Nat} {ls:List Leaf} (hn:off+ls.length≤te.ls.length) (hls:∀(i:Nat) (l:Leaf),ls[i]?=some l→te.ls[off+i]?=some l) {ds:List Dat} {vs:List Value} (hds:ds.length=ls.length) (hvs:vs.length=ls.length)
  {dl:List Id} (hdl:∀o'∈dl,∃y,getO st.ob o'=some y) (hodl:o∉dl) {deep':Bool} (hdp:deep'=true→dp=true) {bsn:Nat→List Nat}
  (hrd:∀(i:Nat) (l:Leaf),ls[i]?=some l→RD E w (SOf S0 G dl) l (ds.getD i default) (vs.getD i undef)) (hot:deep'=true→∀(i:Nat) (l:Leaf),ls[i]?=some l→OT E w l (ds.getD i default) (vs.getD i undef) (bsn i))
  (hD:∀i,i<ls.length→∀b∈bsn i,DOf G dl b∨(dp=true∧b∈bs row (off+i))) (hnd:∀i,(bsn i).Nodup) (hdj:∀i j,i≠j→∀b∈bsn i,b∉bsn j)
  {holes':List (Int×Nat)} {vr':Nat} (hh1:∀p∈holes',p∈holes) (hh2:∀p∈holes,p∈holes'∨(p.1.toNat=row∧off≤p.2∧p.2<off+ls.length)) (hh3:∀p∈holes',¬(p.1.toNat=row∧off≤p.2∧p.2<off+ls.length))
  (hvr:vr≤vr') (hvr2:vr'=vr→(∀(i:Nat) (e':TypeId),ls[i]?≠some (.sl e'))∧holes'=holes):
  ∃G',RelG E base M S0 R0 w0 nt G' (applyD st dst {v:=.dead,up:=[(o,.row e (rows.set row (setRange (rows.getD row []) off ds)) deep' vr' holes')],dl:=dl}) (a.put dst undef) (w.setRow g (setRange arr.toList (offb+(row*te.ls.length+off)) vs).toArray):=by
 let bsN:Nat→Nat→List Nat:=fun j i=>if j=row∧off≤i∧i<off+ls.length then bsn (i-off)else if j<rows.length∧i<te.ls.length then bs j i else[]
 have hbsN:∀j i,bsN j i=if j=row∧off≤i∧i<off+ls.length then bsn (i-off)else if j<rows.length∧i<te.ls.length then bs j i else[]:=fun _ _=>rfl
 let insN:List Nat:=if deep' then flatB bsN rows.length te.ls.length else[]
 let G':Gh:={G with ins:=fun o'=>if o'=o then insN else G.ins o',F:=G.F++dl.flatMap G.top}
 have h1:=h.dels dl
 have hgt:g∈G.top o:=by rw[a2];simp
 have ho1:getO (delAll dl st.ob) o=some (.row e rows dp vr holes):=by rw[ZC,if_neg hodl];exact ho
 have hlive:∀o' y,getO (delAll dl st.ob) o'=some y→o'∉dl∧getO st.ob o'=some y:=fun o' y hy=>by
  rw[ZC]at hy
  split at hy
  ·cases hy
  ·rename_i hn;exact⟨hn,hy⟩
 have htop:=h.tops o _ ho g hgt
 have hr:rows[row]?=some (rows.getD row []):=by simp[List.getElem?_eq_getElem hrow,List.getD]
 have hrl:(rows.getD row []).length=te.ls.length:=hlen row _ hr
 have hSne:∀b,SOf S0 G dl b→b≠g:=fun b hb e0=>by
  subst e0
  rcases hb with hb|hb|⟨o',ho',hb⟩
  ·exact htop.1 hb
  ·exact htop.2.1 hb
  ·obtain⟨y,hy⟩:=hdl o' ho'
   exact h.tops2 o _ o' y ho hy (fun e=>hodl (e▸ho')) b hgt hb
 have hDne:∀b,DOf G dl b→b≠g:=fun b ⟨o',ho',hb⟩ e0=>by
  subst e0
  obtain⟨y,hy⟩:=hdl o' ho'
  exact h.apart ho hy (fun e=>hodl (e▸ho')) (.inl hgt) hb
 have hbsins:dp=true→∀j i,j<rows.length→i<te.ls.length→∀b∈bs j i,b∈G.ins o:=fun hd j i hj hi b hb=>by rw[a8 hd];exact Z2.mpr ⟨j,i,hj,hi,hb⟩
 have hinsne:∀b,b∈G.ins o→b≠g:=fun b hb e0=>htop.2.1 (e0▸(h.ins o _ ho).1 b hb)
 have hold:∀b,b≠g→(w.setRow g (setRange arr.toList (offb+(row*te.ls.length+off)) vs).toArray).heap[b]?=w.heap[b]?:=fun b hb=>setRow_other w g b _ hb
 have hfit:row*te.ls.length+te.ls.length≤c*te.ls.length:=by
  have:(row+1)*te.ls.length≤c*te.ls.length:=Nat.mul_le_mul_right _ (by omega)
  rw[Nat.add_mul]at this;omega
 have hcell:∀j i,j<rows.length→i<te.ls.length→(setRange arr.toList (offb+(row*te.ls.length+off)) vs).toArray[offb+(j*te.ls.length+i)]?=some (if j=row∧off≤i∧i<off+ls.length then vs.getD (i-off) undef else u j i):=fun j i hj hi=>by
  simp only[List.getElem?_toArray,ZJ,hvs]
  by_cases hc:j=row∧off≤i∧i<off+ls.length
  ·have:=(Z2S (row:=row) (off:=off) hi hn).mpr hc
   rw[if_pos (by omega),if_pos (by simp;omega),if_pos hc]
   obtain⟨rfl,c1,c2⟩:=hc
   have e1:offb+(j*te.ls.length+i)-(offb+(j*te.ls.length+off))=i-off:=by omega
   rw[e1]
   have:i-off<vs.length:=by omega
   simp[List.getD,this]
  ·have hc':¬(offb+(row*te.ls.length+off)≤offb+(j*te.ls.length+i)∧offb+(j*te.ls.length+i)<offb+(row*te.ls.length+off)+ls.length):=fun hh=>hc ((Z2S (row:=row) (off:=off) hi hn).mp ⟨by omega,by omega⟩)
   rw[if_neg hc',if_neg hc]
   simpa using(a6 j i hj hi).1
 have hone:∀j i,j<rows.length→i<te.ls.length→oneV (if j=row∧off≤i∧i<off+ls.length then vs.getD (i-off) undef else u j i):=fun j i hj hi=>by
  split
  ·rename_i hc
   exact(hrd (i-off) _ (List.getElem?_eq_getElem (by omega))).one
  ·exact(a6 j i hj hi).2
 have hget:∀j r,(rows.set row (setRange (rows.getD row []) off ds))[j]?=some r→j<rows.length∧r.length=te.ls.length∧∃r0,rows[j]?=some r0∧∀i,i<te.ls.length→r.getD i default=if j=row∧off≤i∧i<off+ls.length then ds.getD (i-off) default else r0.getD i default:=fun j r hj=>by
  have hjl:j<rows.length:=by have:=(List.getElem?_eq_some_iff.mp hj).1;simpa using this
  rw[List.getElem?_set]at hj
  by_cases hji:row=j
  ·subst hji
   simp only[if_true,hrow]at hj
   cases hj
   refine⟨hrow,by rw[ZB];exact hrl,_,hr,fun i hi=>?_⟩
   simp only[List.getD,ZJ,hds,true_and]
   by_cases hc:off≤i∧i<off+ls.length
   ·rw[if_pos hc,if_pos (by simp only[List.getD]at hrl;omega),if_pos hc]
   ·rw[if_neg hc,if_neg hc]
  ·rw[if_neg hji]at hj
   refine⟨hjl,hlen j r hj,r,hj,fun i hi=>?_⟩
   rw[if_neg (fun hc=>hji hc.1.symm)]
 have hnohole:∀j i,¬isHole holes' j i→¬(j=row∧off≤i∧i<off+ls.length)→¬isHole holes j i:=fun j i hnh hc ⟨q,hq,hq'⟩=>by
  rcases hh2 _ hq with hq2|⟨c1,c2,c3⟩
  ·exact hnh ⟨q,hq2,hq'⟩
  ·exact hc ⟨hq'.symm.trans c1,c2,c3⟩
 have hc:Comp (fun _=>False) E w S0 G (delAll dl st.ob) (w.setRow g (setRange arr.toList (offb+(row*te.ls.length+off)) vs).toArray) G' (setO (delAll dl st.ob) o (.row e (rows.set row (setRange (rows.getD row []) off ds)) deep' vr' holes')):=by
  refine h1.compWrite ho1 hgt (fun _=>rfl) (fun b hb=>List.mem_append.mpr (.inl hb)) (fun _ _ h=>by cases h) (fun e2 rows2 dp2 vr2 h2 hy=>?_) (fun _ _ _ h=>by cases h)
  cases hy
  refine⟨rows,dp,vr,holes,rfl,by simp,hvr,fun hd hv=>?_⟩
  obtain⟨hv1,hv2⟩:=hvr2 hv
  refine⟨hdp hd,fun x hx=>by rw[hv2];exact hx,fun te2 j r ht2 hj=>?_⟩
  rw[hte]at ht2;cases ht2
  have hjl:=(List.getElem?_eq_some_iff.mp hj).1
  refine⟨_,List.getElem?_eq_getElem (by simpa using hjl),fun col e' hcol hq=>?_⟩
  have hci:=(List.getElem?_eq_some_iff.mp hcol).1
  obtain⟨_,_,r0,hr0,hr1⟩:=hget j _ (List.getElem?_eq_getElem (by simpa using hjl))
  rw[hj]at hr0;cases hr0
  have hnc:¬(j=row∧off≤col∧col<off+ls.length):=fun⟨_,c1,c2⟩=>by
   have hl:=hls (col-off) _ (List.getElem?_eq_getElem (by omega:col-off<ls.length))
   have:off+(col-off)=col:=by omega
   rw[this,hcol]at hl
   refine hv1 (col-off) e' ?_
   rw[List.getElem?_eq_getElem (by omega)]
   exact hl.symm
  refine⟨by rw[hr1 col hci,if_neg hnc],fun g0 o0 n0 c0 hroot=>?_⟩
  rw[a1]at hroot
  injection hroot with e1 e2 e3
  injection e1 with e1
  injection e1 with e1 e4 _
  subst e1;subst e4
  have h4:=hcell j col hjl hci
  rw[if_neg hnc]at h4
  have h5:=(a6 j col hjl hci).1
  simp only[World.cell?,setRow_heap w g arr _ e _ a3,a3,Option.isSome_none,Bool.false_eq_true,if_false]
  rw[h4,h5]
 have hflmem:∀b,b∈dl.flatMap G.top→∃o'∈dl,b∈G.top o':=fun b hb=>by
  obtain⟨o',ho',hb⟩:=List.mem_flatMap.mp hb
  exact⟨o',ho',hb⟩
 have hmono:∀b,SOf S0 G dl b→S0 b∨b∈G'.F:=fun b hb=>by
  rcases hb with hb|hb|⟨o',ho',hb⟩
  ·exact .inl hb
  ·exact .inr (List.mem_append.mpr (.inl hb))
  ·exact .inr (List.mem_append.mpr (.inr (List.mem_flatMap.mpr ⟨o',ho',hb⟩)))
 have hbN:∀j i b,j<rows.length→i<te.ls.length→b∈bsN j i→deep'=true→DOf G dl b∨b∈G.ins o:=fun j i b hj hi hb hd=>by
  rw[hbsN]at hb
  split at hb
  ·rename_i hc
   rcases hD (i-off) (by omega) b hb with hb|⟨hb,hb'⟩
   ·exact .inl hb
   ·exact .inr (hbsins hb row _ hrow (by omega) b hb')
  ·rw[if_pos ⟨hj,hi⟩]at hb
   exact .inr (hbsins (hdp hd) j i hj hi b hb)
 have hbN2:deep'=true→(∀j i,(bsN j i).Nodup)∧∀j i j' i',¬(j=j'∧i=i')→∀b∈bsN j i,b∉bsN j' i':=fun hd=>by
  have hndo:=(h.ins o _ ho).2
  rw[a8 (hdp hd)]at hndo
  obtain⟨f1,f2⟩:=ZZ hndo
  have cross:∀i b,i<ls.length→b∈bsn i→∀j' i',j'<rows.length→i'<te.ls.length→¬(j'=row∧off≤i'∧i'<off+ls.length)→b∉bs j' i':=fun i b hi hb j' i' hj' hi' hc hb'=>by
   rcases hD i hi b hb with ⟨o',ho',hb2⟩|⟨_,hb2⟩
   ·obtain⟨y,hy⟩:=hdl o' ho'
    exact h.apart ho hy (fun e=>hodl (e▸ho')) (.inr (hbsins (hdp hd) j' i' hj' hi' b hb')) hb2
   ·exact f2 row (off+i) j' i' hrow (by omega) hj' hi' (fun⟨e1,e2⟩=>hc ⟨e1.symm,by omega,by omega⟩) b hb2 hb'
  refine⟨fun j i=>?_,fun j i j' i' hne b hb hb'=>?_⟩
  ·rw[hbsN]
   split
   ·exact hnd _
   ·split
    ·rename_i hc;exact f1 j i hc.1 hc.2
    ·simp
  ·rw[hbsN]at hb hb'
   split at hb<;>split at hb'
   ·rename_i c1 c2
    exact hdj (i-off) (i'-off) (fun e=>hne ⟨c1.1.trans c2.1.symm,by omega⟩) b hb hb'
   ·rename_i c1 c2
    split at hb'
    ·rename_i c3;exact cross (i-off) b (by omega) hb j' i' c3.1 c3.2 c2 hb'
    ·cases hb'
   ·rename_i c1 c2
    split at hb
    ·rename_i c3;exact cross (i'-off) b (by omega) hb' j i c3.1 c3.2 c1 hb
    ·cases hb
   ·split at hb
    ·split at hb'
     ·rename_i c3 c4;exact f2 j i j' i' c3.1 c3.2 c4.1 c4.2 hne b hb hb'
     ·cases hb'
    ·cases hb
 have key:=h1.upd o _ (.row e (rows.set row (setRange (rows.getD row []) off ds)) deep' vr' holes') ho1 G' (h1.kept_set ho1 hgt _) (by simp) hc.old hc.F
  (fun o' x' hx' hne b hb=>setRow_other w g b _ (fun e0=>h1.tops2 o _ o' x' ho1 hx' (fun e=>hne e.symm) g hgt (e0▸hb))) (fun o' hne=>⟨rfl,rfl,by simp[G',hne]⟩) rfl
  (fun b hb=>by
   rcases List.mem_append.mp hb with hb|hb
   ·exact .inl hb
   ·obtain⟨o',ho',hb⟩:=hflmem b hb
    obtain⟨y,hy⟩:=hdl o' ho'
    obtain⟨q1,q2,q3⟩:=h.tops o' y hy b hb
    refine .inr ⟨q1,q3,by simpa using h.top_lt hy b hb,fun o'' y' hy'=>?_⟩
    obtain⟨r1,r2⟩:=hlive o'' y' hy'
    exact h.tops2 o' y o'' y' hy r2 (fun e=>r1 (e▸ho')) b hb) hc
  (by
   simp only[ObjR,G',if_true]
   refine⟨te,hte,fun j r hj=>(hget j r hj).2.1,.inr ⟨g,offb,c,_,fun j i=>if j=row∧off≤i∧i<off+ls.length then vs.getD (i-off) undef else u j i,bsN,by rw[a1];simp,a2,setRow_heap w g arr _ e _ a3,by simpa using a4,by simpa[ZB]using a5,fun j i hj hi=>⟨hcell j i (by simpa using hj) hi,hone j i (by simpa using hj) hi⟩,
    fun j i r l hj hl hnh=>?_,fun hd=>by simp[insN,hd],fun hd=>by simp[insN,hd],fun j i hh=>?_⟩⟩
   ·obtain⟨hjl,_,r0,hr0,hr1⟩:=hget j r hj
    have hi:=(List.getElem?_eq_some_iff.mp hl).1
    rw[hr1 i hi]
    show if deep' then OT E _ l _ (if j=row∧off≤i∧i<off+ls.length then vs.getD (i-off) undef else u j i) (bsN j i)else RD E _ _ l _ (if j=row∧off≤i∧i<off+ls.length then vs.getD (i-off) undef else u j i)
    by_cases hc2:j=row∧off≤i∧i<off+ls.length
    ·rw[if_pos hc2,if_pos hc2]
     have hli:ls[i-off]?=some l:=by
      have hlt:i-off<ls.length:=by omega
      have:=hls (i-off) _ (List.getElem?_eq_getElem hlt)
      have e1:off+(i-off)=i:=by omega
      rw[e1,hl]at this
      rw[List.getElem?_eq_getElem hlt]
      exact this.symm
     cases hdd:deep' with
     |true=>
      simp only[if_true]
      have e1:bsN j i=bsn (i-off):=by rw[hbsN,if_pos hc2]
      rw[e1]
      refine(hot hdd (i-off) l hli).frame fun b hb=>hold b ?_
      rcases hD (i-off) (by omega) b hb with hb|⟨hb,hb'⟩
      ·exact hDne b hb
      ·exact hinsne b (hbsins hb row _ hrow (by omega) b hb')
     |false=>
      simp only[Bool.false_eq_true,if_false]
      exact(hrd (i-off) l hli).frame (fun b hb=>hold b (hSne b hb)) hmono
    ·rw[if_neg hc2,if_neg hc2]
     have:=a7 j i r0 l hr0 hl (hnohole j i hnh hc2)
     cases hdd:deep' with
     |true=>
      have hdp':=hdp hdd
      subst hdp'
      simp only[if_true]at this⊢
      have e1:bsN j i=bs j i:=by rw[hbsN,if_neg hc2,if_pos ⟨hjl,hi⟩]
      rw[e1]
      exact this.frame fun b hb=>hold b (hinsne b (hbsins rfl j i hjl hi b hb))
     |false=>
      simp only[Bool.false_eq_true,if_false]
      have hrd0:RD E w (fun b=>S0 b∨b∈G.F) l (r0.getD i default) (u j i):=by
       cases dp with
       |true=>
        simp only[if_true]at this
        exact this.rd fun b hb=>.inr ((h.ins o _ ho).1 b (hbsins rfl j i hjl hi b hb))
       |false=>simpa using this
      exact hrd0.frame (fun b hb=>hold b (hSne b (hb.imp id .inl))) (fun b hb=>hmono b (hb.imp id .inl))
   ·obtain⟨q,hq,hq'⟩:=hh
    have h1':¬(j=row∧off≤i∧i<off+ls.length):=fun hc=>hh3 _ hq ⟨hq'.trans hc.1,hc.2⟩
    rw[hbsN,if_neg h1',a10 j i ⟨q,hh1 _ hq,hq'⟩]
    simp)
  (by
   simp only[G',if_true,insN]
   refine⟨fun b hb=>?_,?_⟩
   ·split at hb
    ·rename_i hdd
     obtain⟨j,i,hj,hi,hb⟩:=Z2.mp hb
     rcases hbN j i b hj hi hb hdd with ⟨o',ho',hb⟩|hb
     ·obtain⟨y,hy⟩:=hdl o' ho'
      refine⟨List.mem_append.mpr (hb.elim (fun hb=>.inr (List.mem_flatMap.mpr ⟨o',ho',hb⟩)) (fun hb=>.inl ((h.ins o' y hy).1 b hb))),fun o'' y' hy' _ hb'=>?_⟩
      obtain⟨r1,r2⟩:=hlive o'' y' hy'
      exact h.apart hy r2 (fun e=>r1 (e▸ho')) hb (.inr hb')
     ·refine⟨List.mem_append.mpr (.inl ((h.ins o _ ho).1 b hb)),fun o'' y' hy' hne hb'=>?_⟩
      obtain⟨r1,r2⟩:=hlive o'' y' hy'
      exact h.ins2 o _ o'' y' ho r2 (fun e=>hne e.symm) b hb hb'
    ·cases hb
   ·split
    ·rename_i hdd
     obtain⟨q1,q2⟩:=hbN2 hdd
     exact ZX q1 q2
    ·simp)
 refine⟨G',?_⟩
 rw[Z8]
 exact(key .setRow).putO hd (.dead _)
end
end Go.Proofs.YtnihikajdbcoaaaGreat.Vai
namespace Go.Proofs.YtnihikajdbcoaaaGreat.Vai
open Go
section
variable {P:Program} {E:Env} {base:Nat} {M:List Nat} {S0:Nat→Prop} {R0:Id→Value} {w0:World} {nt:Nat} {G:Gh} {st:St} {a:Act} {w:World} {look:Look}
theorem Z2q {o:Id} {off ver:Nat} {holes:List (Int×Nat)} {ls:List Leaf} {x:AV} {row':Int} {d:Dat} (h:selfOver o off ver holes ls x=some (row',d)):
  ∃e wh r,ls=[.sl e]∧x=.nest o ver row' off e wh r∧colIn off 1 holes=false∧d=.sl r:=by
 unfold selfOver at h
 split at h
 ·rename_i e o' ver' row col e' wh r
  obtain⟨h1,h2⟩:=Z0 h
  simp only[Bool.and_eq_true,Bool.not_eq_true']at h1
  obtain⟨q1,q2,q3,q4,q5⟩:=h1
  have q1:=Z5.mp q1;subst q1
  have q2:=Z3 q2;subst q2
  have q3:=Z3 q3;subst q3
  have q4:=Z3 q4;subst q4
  simp only[Option.some.injEq,Prod.mk.injEq]at h2
  obtain⟨rfl,rfl⟩:=h2
  exact⟨_,_,_,rfl,rfl,q5,rfl⟩
 ·cases h
theorem Z3a (hE:EnvOk P E) (h:RelG E base M S0 R0 w0 nt G st a w) (hlook:∀i x,look i=some x→getO st.ob i=some x) {dst:Option Nat} (hd:inB nt dst=true) {t e:TypeId} {ti:TI} (hA:E.A t=some (e,ti)) {x pa:AV} {vx va:Value}
  (hx:VR E w S0 G st.ob x vx) (hpa:VR E w S0 G st.ob pa va) {r:OpRes} (hr:opStoreA look ti x pa=some r):
  r.o=some []∧SteppedU E base M S0 R0 w0 nt st a dst (r.f []) ((Instr.storeAt t va vx).run P w):=by
 obtain⟨hT,_,_⟩:=hE.A t e ti hA
 cases hpa with
 |ptr o row off va hp h1=>
  simp only[opStoreA]at hr
  split at hr
  ·rename_i bt cells hl
   have hgo:=hlook _ _ hl
   obtain⟨hb,hr2⟩:=Z0 hr
   simp only[just,Option.some.injEq]at hr2
   subst hr2
   simp only[Bool.and_eq_true]at hb
   obtain⟨b1,b2,b3,b4⟩:=hb
   exact⟨rfl,Z1b hE h hd hT hp hgo hx (Nat.le_of_ble_eq_true b1) (Z3 b2) b3 (by simpa only[Bool.not_eq_true']using b4)⟩
  ·cases hr
 |_=>simp[opStoreA]at hr
theorem Z3v (hE:EnvOk P E) (h:RelG E base M S0 R0 w0 nt G st a w) (hlook:∀i x,look i=some x→getO st.ob i=some x) {dst:Option Nat} (hd:inB nt dst=true) {t:TypeId} {x pa:AV} {vx va:Value}
  (hx:VR E w S0 G st.ob x vx) (hpa:VR E w S0 G st.ob pa va) {r:OpRes} (hr:opStore E look t x pa=some r) (hg:r.g=true):
  r.o=some []∧SteppedU E base M S0 R0 w0 nt st a dst (r.f []) ((Instr.storeAt t va vx).run P w):=by
 cases hpa with
 |ptr o row off va hp h1=>
  simp only[opStore]at hr
  split at hr
  ·cases hr
  ·rename_i ti ht
   have hTi:=hE.T t ti ht
   split at hr
   ·rename_i bt cells hl
    have hgo:=hlook _ _ hl
    obtain⟨hb,hr2⟩:=Z0 hr
    simp only[just,Option.some.injEq]at hr2
    subst hr2
    simp only[Bool.and_eq_true]at hb
    obtain⟨b1,b2,b3,b4⟩:=hb
    exact⟨rfl,Z1b hE h hd (hE.T _ _ ht) hp hgo hx (Nat.le_of_ble_eq_true b1) (Z3 b2) b3 (by simpa only[Bool.not_eq_true']using b4)⟩
   ·rename_i e rows dp ver holes hl
    have hgo:=hlook _ _ hl
    obtain⟨te,hte,hlen,hobj⟩:=(h.objs o _ hgo:RowR E w _ e rows dp holes _ _ _)
    obtain⟨hr0,hrl,gp,op,np,cp,hroot,hva⟩:=hp.2.1 e rows dp ver holes te hgo hte
    subst hva
    rcases hobj with ⟨b3,_⟩|⟨g,offb,c,arr,u,bs,a1,a2,a3,a4,a5,a6,a7,a8,a9,a10⟩
    ·rw[b3]at hroot;cases hroot
    rw[a1]at hroot
    injection hroot with e1 e2 e3
    injection e1 with e1
    injection e1 with e1 e4 _
    subst e1;subst e4;subst e2;subst e3
    have hfitc:row.toNat*te.ls.length+te.ls.length≤c*te.ls.length:=by
     have:(row.toNat+1)*te.ls.length≤c*te.ls.length:=Nat.mul_le_mul_right _ (by omega)
     rw[Nat.add_mul]at this;omega
    have hrw:rows[row.toNat]?=some (rows.getD row.toNat []):=by simp[List.getElem?_eq_getElem hrl,List.getD]
    have hplace:fits E ti.ls off e=true→(∀(i:Nat) (l:Leaf),ti.ls[i]?=some l→te.ls[off+i]?=some l)∧off+ti.ls.length≤te.ls.length:=fun hf=>by
     obtain⟨te',q1,q2⟩:=Z1k hf
     rw[hte]at q1;cases q1
     refine⟨q2,?_⟩
     have hpos:=hTi.pos.1
     have:=q2 (ti.ls.length-1) _ (List.getElem?_eq_getElem (by omega))
     have:=(List.getElem?_eq_some_iff.mp this).1
     omega
    split at hr
    ·
     rename_i row' d hself
     obtain⟨hf,hr2⟩:=Z0 hr
     obtain⟨e1,wh,rr,hls,rfl,hcol,rfl⟩:=Z2q hself
     simp only[under,Option.some.injEq]at hr2
     subst hr2
     have hrow:row'=row:=by simpa using hg
     subst hrow
     obtain⟨hpl,hn⟩:=hplace hf
     refine⟨rfl,?_⟩
     cases hx with
     |nest _ _ _ _ _ _ _ _ hrd hnest=>
      have hone:=hrd.one
      have hcells:vx.cells.toList=[vx]:=by rw[ZO hone]
      have hnh:∀q,(q,off)∉holes:=fun q hq=>Z04 hcol _ hq ⟨Nat.le_refl _,by simp⟩
      have hcole:te.ls[off]?=some (.sl e1):=by have:=hpl 0 (.sl e1) (by rw[hls];rfl);simpa using this
      obtain⟨bsn,hbn⟩:∃bsn:List Nat,(dp=true→OT E w (.sl e1) (.sl rr) vx bsn∧∀b∈bsn,b∈bs row'.toNat off)∧bsn.Nodup∧(dp=false→bsn=[]):=by
       cases dp with
       |false=>exact⟨[],(fun h=>by cases h),by simp,fun _=>rfl⟩
       |true=>
        obtain⟨_,_,r1,g',o0,n',cc,xv,n1,n2,n3,_,lo,n'',te1,n5,n6⟩:=hnest.2 e rows ver holes te hgo rfl hnh hte
        rw[hrw]at n1;cases n1
        rw[a1]at n2
        injection n2 with e1 e2 e3
        injection e1 with e1
        injection e1 with e1 e4 _
        subst e1;subst e4
        have hoi:=(List.getElem?_eq_some_iff.mp hcole).1
        have hxv:u row'.toNat off=xv:=by
         have:=(a6 row'.toNat off hrl hoi).1
         simp only[World.cell?,a3]at n3
         simp at n3
         rw[n3]at this
         exact(Option.some.inj this).symm
        have hot:=a7 row'.toNat off _ _ hrw hcole (fun⟨q,hq,_⟩=>hnh q hq)
        simp only[if_true]at hot
        rw[hxv]at hot
        have hnd:(bs row'.toNat off).Nodup:=by
         have:=(h.ins o _ hgo).2
         rw[a8 rfl]at this
         exact(ZZ this).1 _ _ hrl hoi
        obtain⟨bs',w1,w2,w3⟩:=OT.window n5 (hot.sl_dat (d':=.sl ((rows.getD row'.toNat []).getD off default).rows) rfl) hnd n6
        exact⟨bs',fun _=>⟨w1.of_rd hrd,w3⟩,w2,fun h=>by cases h⟩
      have hrun:=Z0X hTi (off:=offb+(row'.toNat*te.ls.length+off)) a3 (v:=vx) (by rw[ZO hone,hls];rfl) (by rw[hcells];intro u hu;simp at hu;subst hu;exact hone) (by omega)
      rw[hcells]at hrun
      have one1:∀{i:Nat} {l:Leaf},ti.ls[i]?=some l→i=0∧l=.sl e1:=fun{i l} hl=>by
       rw[hls]at hl
       cases i with
       |zero=>simp at hl;exact⟨rfl,hl.symm⟩
       |succ i=>simp at hl
      obtain⟨G',key⟩:=h.writeRow hd hgo hte hlen a1 a2 a3 a4 a5 a6 a7 a8 a10 hrl (off:=off) (ls:=ti.ls) hn hpl (ds:=[.sl rr]) (vs:=[vx]) (by rw[hls];rfl) (by rw[hls];rfl) (dl:=[]) (fun _ h=>by cases h) (by simp) (deep':=dp) (fun h=>h)
       (bsn:=fun i=>if i=0 then bsn else[]) (fun i l hl=>by
        obtain⟨rfl,rfl⟩:=one1 hl
        exact hrd.mono fun b hb=>hb.imp id .inl) (fun hdp i l hl=>by
        obtain⟨rfl,rfl⟩:=one1 hl
        exact(hbn.1 hdp).1) (fun i hi b hb=>by
        split at hb
        ·rename_i e0
         subst e0
         cases dp with
         |true=>exact .inr ⟨rfl,(hbn.1 rfl).2 b hb⟩
         |false=>rw[hbn.2.2 rfl]at hb;cases hb
        ·cases hb) (fun i=>by
        show(if i=0 then bsn else[]).Nodup
        split
        ·exact hbn.2.1
        ·simp) (fun i j hij b hb hb'=>by
        split at hb
        ·split at hb'
         ·exact hij (by omega)
         ·cases hb'
        ·cases hb)
       (holes':=holes) (vr':=ver+1) (fun _ h=>h) (fun _ h=>.inl h) (fun p hp hc=>Z04 hcol p hp ⟨hc.2.1,by have:=hc.2.2;rw[hls]at this;exact this⟩) (Nat.le_succ _) (fun h=>by omega)
      exact⟨_,hrun,G',key⟩
    ·
     rename_i hself
     split at hr
     ·cases hr
     ·rename_i gv hgv
      rcases Bool.eq_false_or_eq_true (memId o gv.ids||(!nodupId gv.ids|| !fits E ti.ls off e))with hb|hb<;>rw[hb]at hr
      ·cases hr
      simp only[cond_false]at hr
      simp only[Bool.or_eq_false_iff,Bool.not_eq_false']at hb
      obtain⟨b1,b2,b3⟩:=hb
      have b1:=Z03.mp b1
      have b2:=ZA.mp b2
      obtain⟨hpl,hn⟩:=hplace b3
      have hsol:=Z1Z hTi.pos.1 hgv
      have hfr:=hx.flatR hsol
      obtain⟨⟨bsn,q⟩,qlive,qlen⟩:=Z0I h hlook hTi.elem (us:=fun k=>vx.cells.toList.getD k undef) (fun k y hy=>by
       have hk:k<vx.cells.toList.length:=by have:=(List.getElem?_eq_some_iff.mp hy).1;rw[hfr.1]at this;exact this
       have hxx:vx.cells.toList[k]?=some (vx.cells.toList.getD k undef):=by simp[List.getElem?_eq_getElem hk,List.getD]
       exact(hfr.2 k y _ hy hxx).1) hgv b2
      have hsz:vx.cells.size=ti.ls.length:=by have:=hfr.1;simp at this;omega
      have hrun:=Z0X hTi (off:=offb+(row.toNat*te.ls.length+off)) a3 (v:=vx) hsz (fun u hu=>by
       obtain⟨i,hi⟩:=List.getElem?_of_mem hu
       have hi':i<(flat x).length:=by rw[hfr.1];exact(List.getElem?_eq_some_iff.mp hi).1
       exact(hfr.2 i _ u (List.getElem?_eq_getElem hi') hi).2) (by omega)
      have core:=fun{holes':List (Int×Nat)} {vr':Nat} hh1 hh2 hh3 hvr hvr2=>h.writeRow hd hgo hte hlen a1 a2 a3 a4 a5 a6 a7 a8 a10 hrl (off:=off) (ls:=ti.ls) hn hpl (ds:=gv.ds) (vs:=vx.cells.toList) q.len (by simp[hsz]) qlive b1 (deep':=dp&&gv.deep)
       (fun h=>by simp only[Bool.and_eq_true]at h;exact h.1) q.rd (fun h=>by simp only[Bool.and_eq_true]at h;exact q.ot h.2) (fun i _ b hb=>.inl (q.sub i b hb)) q.nodup q.disj (holes':=holes') (vr':=vr') hh1 hh2 hh3 hvr hvr2
      cases hc:colIn off ti.ls.length holes<;>rw[hc]at hr
      ·simp only[cond_false,just,Option.some.injEq]at hr
       subst hr
       refine⟨rfl,?_⟩
       obtain⟨G',key⟩:=core (holes':=holes) (vr':=bif hasSl ti.ls then ver+1 else ver) (fun _ h=>h) (fun _ h=>.inl h) (fun p hp hcc=>Z04 hc p hp hcc.2) (by cases hasSl ti.ls<;>simp) (fun he=>by
        cases hs:hasSl ti.ls with
        |true=>rw[hs]at he;simp at he
        |false=>exact⟨fun i e' hh=>Z1a hs i _ hh e' rfl,rfl⟩)
       exact⟨_,hrun,G',key⟩
      ·simp only[cond_true,under,Option.some.injEq]at hr
       subst hr
       refine⟨rfl,?_⟩
       have hri:rowIs row holes=true:=hg
       obtain⟨G',key⟩:=core (holes':=holesOut off ti.ls.length holes) (vr':=ver+1) (fun p hp=>(Zd.mp hp).1) (fun p hp=>by
        by_cases hin:off≤p.2∧p.2<off+ti.ls.length
        ·exact .inr ⟨by rw[Z2R hri p hp],hin⟩
        ·exact .inl (Zd.mpr ⟨hp,hin⟩)) (fun p hp hcc=>(Zd.mp hp).2 hcc.2) (Nat.le_succ _) (fun h=>by omega)
       exact⟨_,hrun,G',key⟩
   ·cases hr
 |_=>simp[opStore]at hr
end
end Go.Proofs.YtnihikajdbcoaaaGreat.Vai
namespace Go.Proofs.YtnihikajdbcoaaaGreat.Vai
open Go
inductive PackR:List TI→List Value→List Value→Prop
 |nil:PackR [] [] []
 |cons (ti:TI) (v:Value) (cs:List Value) (tis:List TI) (vs rest:List Value) (h1:Packed ti.agg v cs) (h2:cs.length=ti.ls.length) (h:PackR tis vs rest):PackR (ti::tis) (v::vs) (cs++rest)
inductive RDs (E:Env) (w:World) (S:Nat→Prop):List Leaf→List Dat→List Value→Prop
 |nil:RDs E w S [] [] []
 |cons (l:Leaf) (d:Dat) (v:Value) (ls:List Leaf) (ds:List Dat) (vs:List Value) (h1:RD E w S l d v) (h:RDs E w S ls ds vs):RDs E w S (l::ls) (d::ds) (v::vs)
inductive OTs (E:Env) (w:World):List Leaf→List Dat→List Value→List Nat→Prop
 |nil:OTs E w [] [] [] []
 |cons (l:Leaf) (d:Dat) (v:Value) (b:List Nat) (ls:List Leaf) (ds:List Dat) (vs:List Value) (bs:List Nat) (h1:OT E w l d v b) (h:OTs E w ls ds vs bs):OTs E w (l::ls) (d::ds) (v::vs) (b++bs)
def oneOrV:List Value→Value
 |[v]=>v
 |vs=>.tuple vs.toArray
def PlainOk (P:Program) (E:Env) (call:FuncId→List Dat→Option (List Dat)):Prop:=
 ∀f fn ps rs ds out,E.F f=some fn→E.mode f=.plain→lsOf E fn.params.toList=some ps→lsOf E fn.resultTypes.toList=some rs→call f ds=some out→
  ∀(w:World) (S:Nat→Prop) (vs cells:List Value),PackR ps vs cells→RDs E w S (joinLs ps) ds cells→(∀b,S b→b<w.heap.size)→
   Calls P f vs.toArray w fun
    |.returned v,w'=>Kept w.heap.size [] w w'∧∃rvs rcells bs,v=oneOrV rvs∧PackR rs rvs rcells∧OTs E w' (joinLs rs) out rcells bs∧bs.Nodup∧∀b∈bs,w.heap.size≤b
    |_,_=>False
theorem Z13 {E:Env} {t:TypeId} {r:List TypeId} {ps:List TI} (h:lsOf E (t::r)=some ps):∃ti q,E.T t=some ti∧lsOf E r=some q∧ps=ti::q:=by
 simp only[lsOf]at h
 split at h
 ·rename_i ti ht
  split at h
  ·rename_i q hq
   cases h
   exact⟨ti,q,ht,hq,rfl⟩
  ·cases h
 ·cases h
theorem ZI {P:Program} {E:Env} (hE:EnvOk P E):∀{r:List TypeId} {ps:List TI},lsOf E r=some ps→∀e,Leaf.sl e∈joinLs ps→∃te,E.T e=some te
 |[],ps,h,e,he=>by simp only[lsOf,Option.some.injEq]at h;subst h;simp[joinLs]at he
 |t::r,ps,h,e,he=>by
  obtain⟨ti,q,h1,h2,rfl⟩:=Z13 h
  simp only[joinLs,List.mem_append]at he
  rcases he with he|he
  ·exact(hE.T t ti h1).elem e he
  ·exact ZI hE h2 e he
section
variable {P:Program} {E:Env} {base:Nat} {M:List Nat} {S0:Nat→Prop} {R0:Id→Value} {w0:World} {nt:Nat} {G:Gh} {st:St} {a:Act} {w:World} {look:Look}
theorem Z1Q (h:RelG E base M S0 R0 w0 nt G st a w) (hlook:∀i x,look i=some x→getO st.ob i=some x):∀{ps:List TI} (_:∀e,Leaf.sl e∈joinLs ps→∃te,E.T e=some te) {xs:List AV} {vs:List Value}
  (_:xs.length=vs.length) (_:∀(i:Nat) (x:AV) (v:Value),xs[i]?=some x→vs[i]?=some v→VR E w S0 G st.ob x v) {ds:List Dat} (_:toDats look (joinLs ps) (flats xs)=some ds) (_:argsFit ps xs=true),
  ∃cells,PackR ps vs cells∧RDs E w (LiveR S0 G st.ob) (joinLs ps) ds cells
 |[],_,[],[],_,_,ds,hd,_=>by
  simp only[joinLs,flats,toDats,Option.some.injEq]at hd
  subst hd
  exact⟨[],.nil,.nil⟩
 |[],_,_::_,_,_,_,_,_,hf=>by cases hf
 |_::_,_,[],_,_,_,_,_,hf=>by cases hf
 |_,_,[],_::_,hl,_,_,_,_=>by simp at hl
 |_,_,_::_,[],hl,_,_,_,_=>by simp at hl
 |ti::ps,hel,x::xs,v::vs,hl,hv,ds,hd,hf=>by
  simp only[argsFit,Bool.and_eq_true]at hf
  obtain⟨hf1,hf2⟩:=hf
  simp only[joinLs,flats]at hd
  have key:∀(ls:List Leaf) (ys:List AV) (us:List Value) (rest:List Leaf) (zs:List AV) (ds:List Dat),ls.length=ys.length→ys.length=us.length→(∀e,Leaf.sl e∈ls→∃te,E.T e=some te)→(∀(i:Nat) (y:AV) (u:Value),ys[i]?=some y→us[i]?=some u→VR E w S0 G st.ob y u)→
    toDats look (ls++rest) (ys++zs)=some ds→∃d1 d2,ds=d1++d2∧RDs E w (LiveR S0 G st.ob) ls d1 us∧toDats look rest zs=some d2:=by
   intro ls
   induction ls with
   |nil=>
    intro ys us rest zs ds h1 h2 _ _ hd
    have:ys=[]:=List.length_eq_zero_iff.mp h1.symm
    subst this
    have:us=[]:=List.length_eq_zero_iff.mp h2.symm
    subst this
    exact⟨[],ds,rfl,.nil,hd⟩
   |cons l ls ih=>
    intro ys us rest zs ds h1 h2 h3 h4 hd
    match ys,us,h1,h2 with
    |y::ys,u::us,h1,h2=>
     simp only[List.cons_append,toDats]at hd
     split at hd
     ·rename_i d hd1
      split at hd
      ·rename_i ds' hd2
       cases hd
       obtain⟨d1,d2,q1,q2,q3⟩:=ih ys us rest zs ds' (by simpa using h1) (by simpa using h2) (fun e he=>h3 e (by simp[he])) (fun i y u hy hu=>h4 (i+1) y u (by simpa using hy) (by simpa using hu)) hd2
       subst q1
       exact⟨d::d1,d2,rfl,.cons _ _ _ _ _ _ (h.toDat hlook (h4 0 y u rfl rfl) (fun e he=>h3 e (by simp[he])) hd1) q2,q3⟩
      ·cases hd
     ·cases hd
  have hpk:∃cs,Packed ti.agg v cs∧cs.length=ti.ls.length∧(flat x).length=ti.ls.length∧((∃d,toDats look (ti.ls++joinLs ps) (flat x++flats xs)=some d)→∀(i:Nat) (y:AV) (u:Value),(flat x)[i]?=some y→cs[i]?=some u→VR E w S0 G st.ob y u)∧(flat x).length=cs.length:=by
   have hvx:=hv 0 x v rfl rfl
   cases hag:ti.agg with
   |true=>
    cases x<;>simp only[argFit,hag,Bool.not_true,Bool.false_and,Bool.true_and,Bool.false_eq_true]at hf1
    rename_i cs
    have hf1:=Z3 hf1
    cases hvx with
    |agg _ arr hl' h' h1'=>
     refine⟨arr.toList,⟨fun u hu=>?_,by simp⟩,by simp;omega,hf1,fun _ i y u hy hu=>h' i y u hy (by simpa using hu),by simp[flat,hl']⟩
     obtain⟨i,hi⟩:=List.getElem?_of_mem hu
     exact h1' i u (by simpa using hi)
   |false=>
    have hf1':ti.ls.length=1:=by
     cases x<;>simp only[argFit,hag,Bool.not_false,Bool.true_and,Bool.false_and,Bool.false_eq_true]at hf1<;>exact(Z3 hf1).symm
    have hfl:flat x=[x]:=by
     cases x<;>simp only[argFit,hag,Bool.false_and,Bool.false_eq_true]at hf1<;>rfl
    have hone:oneV v:=by
     refine hvx.one_of (fun cs e=>?_) (fun ws e=>?_) (fun e=>?_)
     ·subst e;simp[argFit,hag]at hf1
     ·subst e
      obtain⟨l,hl⟩:=List.length_eq_one_iff.mp hf1'
      rw[hfl,hl]at hd
      cases l<;>simp[toDats,toDat,Vai.slOf]at hd
     ·subst e
      obtain⟨l,hl⟩:=List.length_eq_one_iff.mp hf1'
      rw[hfl,hl]at hd
      cases l<;>simp[toDats,toDat,Vai.slOf]at hd
    refine⟨[v],⟨fun u hu=>by simp at hu;subst hu;exact hone,by simp⟩,by simp[hf1'],by rw[hfl,hf1'];rfl,fun _ i y u hy hu=>?_,by rw[hfl];rfl⟩
    rw[hfl]at hy
    cases i with
    |zero=>simp at hy hu;subst hy;subst hu;exact hvx
    |succ i=>simp at hy
  obtain⟨cs,p1,p2,p3,p4,p5⟩:=hpk
  obtain⟨d1,d2,q1,q2,q3⟩:=key ti.ls (flat x) cs (joinLs ps) (flats xs) ds p3.symm p5 (fun e he=>hel e (by simp[joinLs,he])) (p4 ⟨ds,hd⟩) hd
  obtain⟨rest,r1,r2⟩:=Z1Q h hlook (fun e he=>hel e (by simp[joinLs,he])) (xs:=xs) (vs:=vs) (by simpa using hl) (fun i x v hx hv'=>hv (i+1) x v (by simpa using hx) (by simpa using hv')) q3 hf2
  subst q1
  have app:∀{ls1:List Leaf} {d1:List Dat} {c1:List Value},RDs E w (LiveR S0 G st.ob) ls1 d1 c1→RDs E w (LiveR S0 G st.ob) (ls1++joinLs ps) (d1++d2) (c1++rest):=fun h1=>by
   induction h1 with
   |nil=>exact r2
   |cons l d v ls ds vs h1 _ ih=>exact .cons _ _ _ _ _ _ h1 ih
  exact⟨cs++rest,.cons _ _ _ _ _ _ p1 p2 r1,app q2⟩
end
end Go.Proofs.YtnihikajdbcoaaaGreat.Vai
namespace Go.Proofs.YtnihikajdbcoaaaGreat.Vai
open Go
theorem Z1l (t:Nat):∀(ls:List Leaf) (c:Nat) (ds:List Dat),∀k∈keys (resObjs t c ls ds),k.1=t∧c≤k.2
 |[],c,ds,k,hk=>by simp[resObjs,keys]at hk
 |l::ls,c,ds,k,hk=>by
  have ih:=Z1l t ls (c+1) ds.tail
  have rest:k∈keys (resObjs t (c+1) ls ds.tail)→k.1=t∧c≤k.2:=fun hk=>by
   obtain⟨h1,h2⟩:=ih k hk
   exact⟨h1,by omega⟩
  cases l with
  |sl e=>
   simp only[resObjs,keys,List.mem_cons]at hk
   rcases hk with hk|hk
   ·subst hk;exact⟨rfl,Nat.le_refl _⟩
   ·exact rest hk
  |int k'=>simp only[resObjs]at hk;exact rest hk
  |bool=>simp only[resObjs]at hk;exact rest hk
  |str=>simp only[resObjs]at hk;exact rest hk
theorem Z5A {t:Nat} (ht:t<1000000) (c:Nat) (ls:List Leaf) (ds:List Dat):∀k∈keys (resObjs t c ls ds),isPar k=false:=fun k hk=>by
 obtain⟨k1,k2⟩:=k
 have:=(Z1l t ls c ds _ hk).1
 simp only at this
 subst this
 exact Z0z ht _
section
variable {P:Program} {E:Env} {base:Nat} {M:List Nat} {S0:Nat→Prop} {R0:Id→Value} {w0:World} {nt:Nat} {G:Gh} {st:St} {a:Act} {w:World} {look:Look}
theorem RelG.addRes (t:Nat):∀(ls:List Leaf) (c:Nat) {G:Gh} {st:St} {ds:List Dat} {vs:List Value} {bs:List Nat},RelG E base M S0 R0 w0 nt G st a w→OTs E w ls ds vs bs→bs.Nodup→
  (∀b∈bs,¬S0 b∧b∉G.F∧(base≤b∨b∈M)∧∀o x,getO st.ob o=some x→b∉G.top o∧b∉G.ins o)→(∀k∈keys (resObjs t c ls ds),NoRef k st)→
  ∃G',RelG E base M S0 R0 w0 nt G' {st with ob:=upAll (resObjs t c ls ds) st.ob} a w∧(∀(i:Nat) (e:TypeId) (v:Value),ls[i]?=some (.sl e)→vs[i]?=some v→G'.root (t,c+i)=v)∧
   (∀o,o∉keys (resObjs t c ls ds)→G'.root o=G.root o∧G'.top o=G.top o∧G'.ins o=G.ins o)∧(∀b∈G.F,b∈G'.F)∧
   (∀k',k'∉keys (resObjs t c ls ds)→NoRef k' st→NoRef k' {st with ob:=upAll (resObjs t c ls ds) st.ob})
 |[],c,G,st,ds,vs,bs,h,hot,_,_,_=>⟨G,h,(fun i e v hi=>by simp at hi),(fun _ _=>⟨rfl,rfl,rfl⟩),(fun _ hb=>hb),fun _ _ h=>h⟩
 |l::ls,c,G,st,_,_,_,h,.cons _ d v b _ ds vs bs h1 hot,hnd,hbs,hno=>by
  obtain⟨n1,n2,n3⟩:=List.nodup_append.mp hnd
  have plain:(∀e,l≠.sl e)→resObjs t c (l::ls) (d::ds)=resObjs t (c+1) ls ds→
    ∃G',RelG E base M S0 R0 w0 nt G' {st with ob:=upAll (resObjs t c (l::ls) (d::ds)) st.ob} a w∧(∀(i:Nat) (e:TypeId) (v':Value),(l::ls)[i]?=some (.sl e)→(v::vs)[i]?=some v'→G'.root (t,c+i)=v')∧
    (∀o,o∉keys (resObjs t c (l::ls) (d::ds))→G'.root o=G.root o∧G'.top o=G.top o∧G'.ins o=G.ins o)∧(∀b∈G.F,b∈G'.F)∧
    (∀k',k'∉keys (resObjs t c (l::ls) (d::ds))→NoRef k' st→NoRef k' {st with ob:=upAll (resObjs t c (l::ls) (d::ds)) st.ob}):=fun hl he=>by
   rw[he]at hno⊢
   obtain⟨G',r1,r2,r3,r4,r5⟩:=RelG.addRes t ls (c+1) h hot n2 (fun b' hb'=>hbs b' (List.mem_append.mpr (.inr hb'))) hno
   exact⟨G',r1,fun i e v' hi hv=>by
    cases i with
    |zero=>simp at hi;exact absurd hi (hl e)
    |succ i=>
     have:=r2 i e v' (by simpa using hi) (by simpa using hv)
     rw[←this];congr 2;omega,r3,r4,r5⟩
  cases l with
  |sl e=>
   simp only[resObjs,List.headD_cons,List.tail_cons,keys,List.mem_cons]at hno⊢
   have hkey:(t,c)∉keys (resObjs t (c+1) ls ds):=fun hk=>by have:=(Z1l t ls (c+1) ds _ hk).2;simp only at this;omega
   obtain⟨G1,q1,q2,q3,q4,q5⟩:=h.addTree (hno (t,c) (.inl rfl)) h1 n1 (fun b' hb'=>hbs b' (List.mem_append.mpr (.inl hb')))
   obtain⟨G',r1,r2,r3,r4,r5⟩:=RelG.addRes t ls (c+1) q1 hot n2 (fun b' hb'=>by
    obtain⟨s1,s2,s3,s4⟩:=hbs b' (List.mem_append.mpr (.inr hb'))
    have hnb:b'∉b:=fun hb=>n3 b' hb b' hb' rfl
    refine⟨s1,fun hF=>?_,s3,fun o x hx=>?_⟩
    ·exact(q3 b' (.inl hF)).elim s2 hnb
    ·simp only[Z1]at hx
     split at hx
     ·rename_i e0
      subst e0
      exact⟨fun hb=>(q3 b' (.inr (.inl hb))).elim s2 hnb,fun hb=>(q3 b' (.inr (.inr hb))).elim s2 hnb⟩
     ·rename_i e0
      obtain⟨g1,g2,g3⟩:=q4 o e0
      rw[g2,g3]
      exact s4 o x hx) (fun k hk=>(hno k (.inr hk)).set (fun e=>hkey (e▸hk)) (fun _ _ h=>by cases h))
   refine⟨G',r1,fun i e' v' hi hv=>?_,fun o ho=>?_,fun b' hb'=>r4 b' (q5 b' hb'),fun k' hk' hn=>?_⟩
   ·cases i with
    |zero=>
     simp at hv;subst hv
     rw[Nat.add_zero,(r3 _ hkey).1,q2]
    |succ i=>
     have:=r2 i e' v' (by simpa using hi) (by simpa using hv)
     rw[←this];congr 2;omega
   ·obtain⟨o1,o2⟩:=not_or.mp ho
    obtain⟨g1,g2,g3⟩:=r3 o o2
    obtain⟨g4,g5,g6⟩:=q4 o o1
    exact⟨g1.trans g4,g2.trans g5,g3.trans g6⟩
   ·obtain⟨o1,o2⟩:=not_or.mp hk'
    exact r5 k' o2 (hn.set o1 (fun _ _ h=>by cases h))
  |int k=>exact plain (fun _ h=>by cases h) rfl
  |bool=>exact plain (fun _ h=>by cases h) rfl
  |str=>exact plain (fun _ h=>by cases h) rfl
theorem Z14 {t:Nat} {ob:List (Id×Obj)}:∀{ls:List Leaf} {c:Nat} {ds:List Dat} {vs:List Value} {bs:List Nat},OTs E w ls ds vs bs→(∀(i:Nat) (e:TypeId) (v:Value),ls[i]?=some (.sl e)→vs[i]?=some v→G.root (t,c+i)=v)→
  CellsR E w S0 G ob (resAVs t c ls ds) vs
 |[],c,_,_,_,.nil,_=>⟨rfl,fun i v x hv=>by simp[resAVs]at hv⟩
 |l::ls,c,_,_,_,.cons _ d v b _ ds vs bs h1 hot,hr=>by
  have ih:=Z14 (ob:=ob) (c:=c+1) hot (fun i e v' hi hv=>by
   have:=hr (i+1) e v' (by simpa using hi) (by simpa using hv)
   rw[←this];congr 2;omega)
  have hd:∃y,resAVs t c (l::ls) (d::ds)=y::resAVs t (c+1) ls ds∧VR E w S0 G ob y v∧oneV v:=by
   have hone:=h1.one
   cases l with
   |sl e=>exact⟨_,rfl,.own _ _ (fun _ _ _ _ _ _=>(hr 0 e v rfl rfl).symm) hone,hone⟩
   |int k=>exact⟨_,rfl,by cases h1;exact .i _ _,hone⟩
   |bool=>exact⟨_,rfl,by cases h1;exact .b _,hone⟩
   |str=>exact⟨_,rfl,by cases h1;exact .s _,hone⟩
  obtain⟨y,e1,e2,e3⟩:=hd
  rw[e1]
  refine⟨by simp[ih.1],fun i z u hz hu=>?_⟩
  cases i with
  |zero=>simp at hz hu;subst hz;subst hu;exact⟨e2,e3⟩
  |succ i=>exact ih.2 i z u (by simpa using hz) (by simpa using hu)
theorem ZH {ob:List (Id×Obj)}:∀{tis:List TI} {vs cells:List Value},PackR tis vs cells→∀{avs:List AV},CellsR E w S0 G ob avs cells→
  (packAll tis avs).length=vs.length∧∀(i:Nat) (y:AV) (v:Value),(packAll tis avs)[i]?=some y→vs[i]?=some v→VR E w S0 G ob y v
 |[],_,_,.nil,avs,_=>⟨rfl,fun i y v hy=>by simp[packAll]at hy⟩
 |ti::tis,_,_,.cons _ v cs _ vs rest h1 h2 h,avs,hc=>by
  have hlen:=hc.1
  have hc1:∀(i:Nat) (y:AV) (u:Value),(avs.take ti.ls.length)[i]?=some y→cs[i]?=some u→VR E w S0 G ob y u∧oneV u:=fun i y u hy hu=>by
   rw[List.getElem?_take]at hy
   split at hy
   ·exact hc.2 i y u hy (by rw[List.getElem?_append_left (by omega)];exact hu)
   ·cases hy
  have hc2:CellsR E w S0 G ob (avs.drop ti.ls.length) rest:=⟨by simp[hlen,h2],fun i y u hy hu=>by
   rw[List.getElem?_drop]at hy
   exact hc.2 _ y u hy (by rw[List.getElem?_append_right (by omega)];rw[←hu];congr 1;omega)⟩
  obtain⟨i1,i2⟩:=ZH h hc2
  refine⟨by simp[packAll,i1],fun i y u hy hu=>?_⟩
  cases i with
  |succ i=>exact i2 i y u (by simpa[packAll]using hy) (by simpa using hu)
  |zero=>
   simp[packAll]at hy hu
   subst hy;subst hu
   obtain⟨p1,p2⟩:=h1
   cases hag:ti.agg with
   |true=>
    rw[hag]at p2
    simp only[if_true]at p2
    subst p2
    simp only[pack,cond_true]
    refine .agg _ _ (by simp[hlen,h2]) (fun i y u hy hu=>(hc1 i y u hy (by simpa using hu)).1) (fun i u hu=>p1 u (List.mem_of_getElem? (i:=i) (by simpa using hu)))
   |false=>
    rw[hag]at p2
    simp only[Bool.false_eq_true,if_false]at p2
    subst p2
    simp only[pack,cond_false]
    match avs,hlen with
    |z::avs,_=>
     have h2':ti.ls.length=1:=h2.symm
     rw[h2']
     exact(hc1 0 z _ (by rw[h2'];rfl) rfl).1
theorem Z1m {ob:List (Id×Obj)} {ys:List AV} {vs:List Value} (hl:ys.length=vs.length) (h:∀(i:Nat) (y:AV) (v:Value),ys[i]?=some y→vs[i]?=some v→VR E w S0 G ob y v):VR E w S0 G ob (oneOr ys) (oneOrV vs):=by
 match ys,vs,hl with
 |[],[],_=>exact .tup _ _ rfl (fun i y v hy=>by simp at hy)
 |[y],[v],_=>exact h 0 y v rfl rfl
 |y::y2::ys,v::v2::vs,hl=>exact .tup _ _ (by simpa using hl) (fun i y v hy hv=>h i y v hy (by simpa using hv))
theorem RelG.call_end (h:RelG E base M S0 R0 w0 nt G st a w) {dst:Option Nat} (hd:inB nt dst=true) {t:Nat} (hti:t<1000000) {w':World} (hk:Kept w.heap.size [] w w') {rs:List TI} {out:List Dat} {rvs rcells:List Value} {bs:List Nat} (hp:PackR rs rvs rcells) (hot:OTs E w' (joinLs rs) out rcells bs)
  (hnd:bs.Nodup) (hbs:∀b∈bs,w.heap.size≤b):
  Rel E base M S0 R0 w0 nt (applyD st dst {v:=oneOr (packAll rs (resAVs t 0 (joinLs rs) out)),nw:=resObjs t 0 (joinLs rs) out}) (a.put dst (oneOrV rvs)) w':=by
 have hsame:∀b,b<w.heap.size→w'.heap[b]?=w.heap[b]?:=fun b hb=>hk.heap b hb (by simp)
 have h0:=h.world (w':=w') ⟨Nat.le_trans h.kept.size hk.size,fun b hb hm=>(hsame b (Nat.lt_of_lt_of_le hb h.kept.size)).trans (h.kept.heap b hb hm),hk.os.trans h.kept.os,hk.tape.trans h.kept.tape,hk.output.trans h.kept.output⟩ hk.size
  (fun b hb=>hsame b (h.live_lt (.inl hb))) (fun b hb=>hsame b (h.live_lt (.inr (.inl hb)))) (fun o x hx b hb=>hsame b (h.live_lt (.inr (.inr ⟨o,x,hx,hb⟩))))
 obtain⟨h1,h2,h3⟩:=h0.after_dels [] (resObjs t 0 (joinLs rs) out) (Z5A hti 0 _ _)
 obtain⟨G',r1,r2,r3,r4,r5⟩:=h1.addRes t (joinLs rs) 0 hot hnd (fun b hb=>by
  obtain⟨f1,f2,f3,f4⟩:=h.old_lt (hbs b hb)
  refine⟨f1,f2,.inl f3,fun o x hx=>?_⟩
  obtain⟨_,_,y,q2,_⟩:=h3 o x hx
  exact f4 o y q2) h2
 obtain⟨p1,p2⟩:=ZH hp (Z14 (S0:=S0) (ob:=upAll (resObjs t 0 (joinLs rs) out) (clearAll (resObjs t 0 (joinLs rs) out) st).ob) hot r2)
 rw[Z8]
 exact⟨G',r1.putO hd (Z1m p1 p2)⟩
end
end Go.Proofs.YtnihikajdbcoaaaGreat.Vai
namespace Go.Proofs.YtnihikajdbcoaaaGreat.Vai
open Go
section
variable {P:Program} {E:Env} {base:Nat} {M:List Nat} {S0:Nat→Prop} {R0:Id→Value} {w0:World} {nt:Nat} {G:Gh} {st:St} {a:Act} {w:World} {look:Look}
theorem Z09 (hE:EnvOk P E) {t:TypeId} {l:Leaf} (h:mapT E t l=true) (d:Dat):∃ds,P.underlying t=some ds∧MapKept.IsKey ds (leafV l d)∧∃b fs,E.T t=some ⟨[l],b,false,fs⟩:=by
 unfold mapT at h
 split at h
 ·rename_i l' b fs ht
  simp only[Bool.and_eq_true]at h
  have hl:=Z1s h.1
  subst hl
  obtain⟨q,h1,h2⟩:=(hE.T _ _ ht).single rfl
  cases h1
  cases l with
  |int k=>exact⟨_,h2,rfl,_,_,ht⟩
  |bool=>exact⟨_,h2,trivial,_,_,ht⟩
  |str=>exact⟨_,h2,trivial,_,_,ht⟩
  |sl e=>have:=h.2;cases this
 ·cases h
theorem Z3h {l:Leaf} (hs:scal l=true) {a b:Dat}:dEq l a b=true↔leafV l a=leafV l b:=by
 cases l with
 |int k=>simp[dEq,leafV]
 |bool=>simp[dEq,leafV]
 |str=>simp[dEq,leafV]
 |sl e=>cases hs
theorem Z0S {t:TypeId} {l:Leaf} (h:mapT E t l=true):scal l=true:=by
 unfold mapT at h
 split at h
 ·simp only[Bool.and_eq_true]at h;exact h.2
 ·cases h
theorem Z0k {kl el:Leaf} {ds:TypeDesc} (hs:scal kl=true) (hk:∀d,MapKept.IsKey ds (leafV kl d)) (kd:Dat):∀(l:List MapEntry) (es:List (Dat×Dat)) (i:Nat),l.map (fun e=>(e.key,e.val))=es.map (fun p=>(leafV kl p.1,leafV el p.2))→
  (mfind kl kd es=none∧Instr.findNow ds (leafV kl kd) l i=some none∧∀u,mput kl kd u es=es++[(kd,u)])∨
  ∃j v x,l[j]?=some x∧x.key=leafV kl kd∧mfind kl kd es=some v∧Instr.findNow ds (leafV kl kd) l i=some (some (i+j,leafV el v))∧∀u,mput kl kd u es=es.set j (kd,u)
 |[],[],i,_=>.inl ⟨rfl,rfl,fun _=>rfl⟩
 |[],_::_,_,h=>by cases h
 |_::_,[],_,h=>by cases h
 |x::l,(a,v)::es,i,h=>by
  simp only[List.map_cons,List.cons.injEq,Prod.mk.injEq]at h
  obtain⟨⟨h1,h2⟩,h3⟩:=h
  obtain⟨r,hr,hiff⟩:=MapKept.sameNow_of_keys (hk kd) (b:=x.key) (by rw[h1];exact hk a)
  cases r with
  |true=>
   have e:=hiff.1 rfl
   have hd:dEq kl kd a=true:=(Z3h hs).mpr (by rw[e,h1])
   exact .inr ⟨0,v,x,rfl,e.symm,by simp only[mfind,hd,cond_true],by simp[Instr.findNow,hr,h2],fun u=>by simp only[mput,hd,cond_true,List.set_cons_zero]⟩
  |false=>
   have hd:dEq kl kd a=false:=by
    cases hq:dEq kl kd a with
    |false=>rfl
    |true=>have:=hiff.2 (by rw[h1];exact(Z3h hs).mp hq);cases this
   rcases Z0k hs hk kd l es (i+1) h3 with ⟨q1,q2,q3⟩|⟨j,v',x',q1,q2,q3,q4,q5⟩
   ·exact .inl ⟨by simp only[mfind,hd,cond_false,q1],by simp[Instr.findNow,hr,q2],fun u=>by simp only[mput,hd,cond_false,q3,List.cons_append]⟩
   ·exact .inr ⟨j+1,v',x',by simpa using q1,q2,by simp only[mfind,hd,cond_false,q3],by simp[Instr.findNow,hr,q4];omega,fun u=>by simp only[mput,hd,cond_false,q5,List.set_cons_succ]⟩
theorem Z2y {ob:List (Id×Obj)} {l:Leaf} (hs:scal l=true) (d:Dat):VR E w S0 G ob (datAV false l d) (leafV l d):=by
 cases l with
 |int k=>exact .i _ _
 |bool=>exact .b _
 |str=>exact .s _
 |sl e=>cases hs
theorem Z0Y {look:Look} {ob:List (Id×Obj)} {l:Leaf} (hs:scal l=true) {x:AV} {d:Dat} (h:toDat look l x=some d) {v:Value} (hv:VR E w S0 G ob x v):v=leafV l d:=by
 cases l with
 |int k=>
  cases x<;>simp only[toDat,reduceCtorEq]at h
  obtain⟨hk,h⟩:=Z0 h
  cases h
  simp only[ikEq,decide_eq_true_eq]at hk
  subst hk
  cases hv;rfl
 |bool=>
  cases x<;>simp only[toDat,reduceCtorEq]at h
  cases h
  cases hv;rfl
 |str=>
  cases x<;>simp only[toDat,reduceCtorEq]at h
  cases h
  cases hv;rfl
 |sl e=>cases hs
theorem Z3w {l:Leaf} (hs:scal l=true):leafV l (zeroDat l)=zeroV l:=by
 cases l with
 |int k=>rfl
 |bool=>rfl
 |str=>rfl
 |sl e=>cases hs
theorem RelG.mapAt (h:RelG E base M S0 R0 w0 nt G st a w) {o:Id} {row:Int} {off:Nat} {v:Value} (hv:VR E w S0 G st.ob (.ptr o row off) v) {kl el:Leaf} {es:List (Dat×Dat)} (hg:getO st.ob o=some (.mp kl el es)):
  ∃(g:Nat) (arr:Array MapEntry) (ck:Nat),v=.map (some g)∧G.root o=.map (some g)∧G.top o=[g]∧G.ins o=[]∧w.heap[g]?=some (.map arr ck)∧arr.toList.map (fun e=>(e.key,e.val))=es.map fun p=>(leafV kl p.1,leafV el p.2):=by
 cases hv with
 |ptr _ _ _ _ hp h1=>
  obtain⟨g,arr,ck,b1,b2,b3,b4,b5⟩:=(h.objs o _ hg:MapR w kl el es _ _ _)
  exact⟨g,arr,ck,(hp.2.2 kl el es hg).trans b1,b1,b2,b3,b4,b5⟩
theorem Z4n (hE:EnvOk P E) {t:TypeId} {l:Leaf} {b:Nat} {fs:List (Nat×TypeId)} (ht:E.T t=some ⟨[l],b,false,fs⟩):(zeroValue t).run P w=.ok (zeroV l) w:=by
 obtain⟨i,hi,_,_,hz⟩:=(hE.T t _ ht).info
 simp[zeroValue,typeInfo,hi,hz]
theorem Z4F (hE:EnvOk P E) (h:RelG E base M S0 R0 w0 nt G st a w) (hlook:∀i x,look i=some x→getO st.ob i=some x) {ty:TypeId} {m k:AV} {vm vk:Value} (hm:VR E w S0 G st.ob m vm) (hk:VR E w S0 G st.ob k vk) {ok:Bool} {r:OpRes}
  (hr:opLookup E look ty m k ok=some r):PureR E S0 G st.ob ((Instr.lookup ty vm vk ok).run P w) w r:=by
 unfold opLookup at hr
 split at hr
 ·rename_i o row off kt et hM
  split at hr
  ·rename_i kl el es hl
   split at hr
   ·rename_i kd hkd
    obtain⟨hb,hr⟩:=Z0 hr
    simp only[Bool.and_eq_true]at hb
    obtain⟨g,arr,ck,rfl,_,_,_,b4,b5⟩:=h.mapAt hm (hlook _ _ hl)
    have hkl:=Z0S hb.1
    have hel:=Z0S hb.2
    have:=Z0Y hkl hkd hk
    subst this
    obtain⟨dk,u1,u2,_⟩:=Z09 hE hb.1 kd
    have u3:∀d,MapKept.IsKey dk (leafV kl d):=fun d=>by
     obtain⟨dk',v1,v2,_⟩:=Z09 hE hb.1 d
     rw[u1]at v1;cases v1;exact v2
    obtain⟨de,_,_,eb,ef,hte⟩:=Z09 hE hb.2 kd
    have hu:=hE.M ty kt et hM
    have fin:∀(v:Value) (d:Dat) (t:Bool),v=leafV el d→(Instr.lookup ty (.map (some g)) (leafV kl kd) ok).run P w=.ok (if ok then .tuple #[v,.bool t]else v) w→r=⟨true,some [],fun _=>{v:=bif ok then .tup [datAV false el d,.b t]else datAV false el d}⟩→PureR E S0 G st.ob ((Instr.lookup ty (.map (some g)) (leafV kl kd) ok).run P w) w r:=fun v d t hv hrun hrr=>by
     subst hv;subst hrr
     refine⟨_,_,rfl,rfl,hrun,?_⟩
     cases ok with
     |true=>
      refine .tup _ _ rfl fun i y u hy hu=>?_
      match i with
      |0=>simp at hy hu;subst hy;subst hu;exact Z2y hel d
      |1=>simp at hy hu;subst hy;subst hu;exact .b _
      |i+2=>simp at hy
     |false=>exact Z2y hel d
    rcases Z0k hkl u3 kd arr.toList es 0 b5 with ⟨q1,q2,_⟩|⟨j,v,x,q0,q0',q1,q2,_⟩
    ·rw[q1]at hr
     refine fin (zeroV el) (zeroDat el) false (Z3w hel).symm ?_ (by simpa[val,just]using hr.symm)
     simp only[Instr.lookup,Sem.run_bind,run_underlying hu,Result.andThen_ok,MapKept.run_getObj_map b4,MapKept.run_checkKey u1 u2,MapKept.run_findKey u1 q2,Z4n hE hte,Sem.run_pure]
    ·rw[q1]at hr
     refine fin (leafV el v) v true rfl ?_ (by simpa[val,just]using hr.symm)
     simp only[Instr.lookup,Sem.run_bind,run_underlying hu,Result.andThen_ok,MapKept.run_getObj_map b4,MapKept.run_checkKey u1 u2,MapKept.run_findKey u1 q2,Sem.run_pure]
   ·cases hr
  ·cases hr
 ·cases hr
theorem Z2z {α β:Type} (f:α→β):∀(l:List α) (j:Nat) (x:α),(l.set j x).map f=(l.map f).set j (f x)
 |[],_,_=>rfl
 |_::l,0,_=>rfl
 |y::l,j+1,x=>by simp only[List.set_cons_succ,List.map_cons,Z2z f l]
theorem Z15 (hE:EnvOk P E) (h:RelG E base M S0 R0 w0 nt G st a w) (hlook:∀i x,look i=some x→getO st.ob i=some x) {dst:Option Nat} (hd:inB nt dst=true) {ty:TypeId} {m k x:AV} {vm vk vx:Value} (hm:VR E w S0 G st.ob m vm) (hk:VR E w S0 G st.ob k vk) (hx:VR E w S0 G st.ob x vx) {r:OpRes} {out:List Dat}
  (hr:opMapUpdate E look ty m k x=some r) (ho:r.o=some out):SteppedU E base M S0 R0 w0 nt st a dst (r.f out) ((Instr.mapUpdate ty vm vk vx).run P w):=by
 unfold opMapUpdate at hr
 split at hr
 ·rename_i o row off kt et hM
  split at hr
  ·rename_i kl el es hl
   split at hr
   ·rename_i kd xd hkd hxd
    obtain⟨hb,hr⟩:=Z0 hr
    simp only[Bool.and_eq_true,Bool.not_eq_true']at hb
    have hgo:=hlook _ _ hl
    obtain⟨g,arr,ck,rfl,b1,b2,b3,b4,b5⟩:=h.mapAt hm hgo
    have hkl:=Z0S hb.1
    have hel:=Z0S hb.2.1
    have e1:=Z0Y hkl hkd hk
    have e2:=Z0Y hel hxd hx
    subst e1;subst e2
    simp only[just,Option.some.injEq]at hr
    subst hr
    obtain⟨dk,u1,u2,_⟩:=Z09 hE hb.1 kd
    have u3:∀d,MapKept.IsKey dk (leafV kl d):=fun d=>by
     obtain⟨dk',v1,v2,_⟩:=Z09 hE hb.1 d
     rw[u1]at v1;cases v1;exact v2
    have hu:=hE.M ty kt et hM
    have hlt:g<w.heap.size:=(Array.getElem?_eq_some_iff.mp b4).1
    have hpar:o≠(1000000,0):=fun e=>by
     rw[e]at hb
     have:=hb.2.2
     rw[Z0H]at this;cases this
    have fin:∀(arr':Array MapEntry) (ck':Nat),arr'.toList.map (fun e=>(e.key,e.val))=(mput kl kd xd es).map (fun p=>(leafV kl p.1,leafV el p.2))→(Instr.mapUpdate ty (.map (some g)) (leafV kl kd) (leafV el xd)).run P w=.ok () {w with heap:=w.heap.setIfInBounds g (.map arr' ck')}→
      SteppedU E base M S0 R0 w0 nt st a dst {v:=.dead,up:=[(o,.mp kl el (mput kl kd xd es))]} ((Instr.mapUpdate ty (.map (some g)) (leafV kl kd) (leafV el xd)).run P w):=fun arr' ck' hent hrun=>by
     have hgt:g∈G.top o:=by rw[b2];simp
     obtain⟨t1,t2,t3⟩:=h.tops o _ hgo g hgt
     have hne:∀b,b≠g→({w with heap:=w.heap.setIfInBounds g (.map arr' ck')}:World).heap[b]?=w.heap[b]?:=fun b hbg=>(MapKept.heap_set b4).2 b hbg
     have hold:∀b,S0 b→({w with heap:=w.heap.setIfInBounds g (.map arr' ck')}:World).heap[b]?=w.heap[b]?:=fun b hb=>hne b (fun e=>t1 (e▸hb))
     have hF:∀b∈G.F,({w with heap:=w.heap.setIfInBounds g (.map arr' ck')}:World).heap[b]?=w.heap[b]?:=fun b hb=>hne b (fun e=>t2 (e▸hb))
     have hother:∀o' x',getO st.ob o'=some x'→o'≠o→∀b∈G.top o',({w with heap:=w.heap.setIfInBounds g (.map arr' ck')}:World).heap[b]?=w.heap[b]?:=fun o' x' hx' hne' b hb=>hne b (fun e=>h.tops2 o _ o' x' hgo hx' (fun e=>hne' e.symm) g hgt (e▸hb))
     have hcomp:Comp (fun _=>False) E w S0 G st.ob {w with heap:=w.heap.setIfInBounds g (.map arr' ck')} G (setO st.ob o (.mp kl el (mput kl kd xd es))):=
      ⟨hold,fun b hb=>⟨hF b hb,hb⟩,fun o' t c _ hg=>by
       rw[Z1]at hg
       by_cases e:o'=o
       ·rw[if_pos e]at hg;cases hg
       ·rw[if_neg e]at hg;exact⟨rfl,t,c,hg⟩,fun o' e rows dp vr hh _ hg=>by
       rw[Z1]at hg
       by_cases e:o'=o
       ·rw[if_pos e]at hg;cases hg
       ·rw[if_neg e]at hg
        refine⟨rfl,rows,dp,vr,hh,hg,rfl,Nat.le_refl _,fun hd _=>⟨hd,fun _ hx=>hx,fun te j r hte hj=>⟨r,hj,fun col e' hc hq=>⟨rfl,fun g' o0 n c hr=>?_⟩⟩⟩⟩
        refine ZD (a:=⟨g',o0+(j*te.ls.length+col),none⟩) (hother o' _ hg e g' ?_)
        obtain⟨te',_,_,h3⟩:=(h.objs o' _ hg:RowR E w _ _ rows dp hh _ _ _)
        rcases h3 with ⟨h3,_⟩|⟨g'',off,c',arr,u,bs,a1,a2,_⟩
        ·rw[h3]at hr;cases hr
        ·rw[a1]at hr;cases hr;rw[a2];simp,fun o' kl' el' es' _ hg=>by
       rw[Z1]at hg
       by_cases e:o'=o
       ·subst e;exact⟨rfl,kl,el,es,hgo⟩
       ·rw[if_neg e]at hg;exact⟨rfl,kl',el',es',hg⟩⟩
     have hsz:({w with heap:=w.heap.setIfInBounds g (.map arr' ck')}:World).heap.size=w.heap.size:=by simp
     have key:=h.upd o _ (.mp kl el (mput kl kd xd es)) hgo G (w':={w with heap:=w.heap.setIfInBounds g (.map arr' ck')}) ⟨by rw[hsz];exact h.kept.size,fun b hb hnm=>(hne b (fun e=>by subst e;exact t3.elim (fun q=>by omega) hnm)).trans (h.kept.heap b hb hnm),h.kept.os,h.kept.tape,h.kept.output⟩ (by rw[hsz];exact Nat.le_refl _) hold (fun b hb=>⟨hF b hb,hb⟩) hother (fun _ _=>⟨rfl,rfl,rfl⟩) rfl (fun b hb=>.inl hb) hcomp
      ⟨g,arr',ck',b1,b2,b3,(MapKept.heap_set b4).1,hent⟩ ⟨(fun b hb=>by rw[b3]at hb;cases hb),(by rw[b3];exact .nil)⟩ (fun e=>absurd e hpar)
     refine⟨_,hrun,?_⟩
     rw[Z8]
     exact⟨_,key.putO hd (.dead _)⟩
    rcases Z0k hkl u3 kd arr.toList es 0 b5 with ⟨q1,q2,q3⟩|⟨j,v,y,q0,q0',q1,q2,q3⟩
    ·refine fin (arr.push {key:=leafV kl kd,val:=leafV el xd,born:=ck}) (ck+1) (by rw[q3];simp[b5]) ?_
     simp only[Instr.mapUpdate,Sem.run_bind,run_underlying hu,Result.andThen_ok,MapKept.run_getObj_map b4,MapKept.run_checkKey u1 u2,MapKept.run_findKey u1 q2,MapKept.run_setObj_map _ b4]
    ·have hj:arr[j]?=some y:=by simpa using q0
     refine fin (arr.modify j fun e=>{e with key:=leafV kl kd,val:=leafV el xd}) ck ?_ ?_
     ·rw[q3 xd,Z2z,←b5]
      apply List.ext_getElem?
      intro i
      simp only[List.getElem?_map,Array.getElem?_toList,Array.getElem?_modify,List.getElem?_set,List.length_map,Array.length_toList]
      by_cases hij:j=i
      ·subst hij
       simp[(Array.getElem?_eq_some_iff.mp hj).1]
      ·simp[hij]
     ·simp only[Instr.mapUpdate,Sem.run_bind,run_underlying hu,Result.andThen_ok,MapKept.run_getObj_map b4,MapKept.run_checkKey u1 u2,MapKept.run_findKey u1 q2,Nat.zero_add,hj,Option.map_some,Option.getD_some,q0',MapKept.run_keyThatStays u2,MapKept.run_setObj_map _ b4]
   ·cases hr
  ·cases hr
 ·cases hr
theorem Z3x (hE:EnvOk P E) (h:RelG E base M S0 R0 w0 nt G st a w) {dst:Option Nat} (hd:inB nt dst=true) {t:Nat} (hti:t<1000000) (ty:TypeId) (kl el:Leaf):
  Stepped E base M S0 R0 w0 nt st a dst {v:=.ptr (t,0) 0 0,nw:=[((t,0),.mp kl el [])]} ((Instr.makeMap ty none).run P w):=by
 have _:=hE
 refine⟨.map (some w.heap.size),w.alloc (.map #[] 0),by simp[Instr.makeMap],?_⟩
 obtain⟨h1,h2,h3⟩:=h.after_dels [] [((t,0),.mp kl el [])] (Zg hti 0 _)
 obtain⟨k1,k2⟩:=h1.kept_alloc (.map #[] 0)
 obtain⟨f1,f2,f3,f4⟩:=h1.old_lt (Nat.le_refl w.heap.size)
 have key:=h1.add1 (h2 (t,0) (by simp[keys])) (.mp kl el []) (.map (some w.heap.size)) [w.heap.size] [] [] k1 (by simp) (fun b hb=>k2 b (h1.live_lt hb)) (fun b hb=>by cases hb)
  (fun b hb=>by
   simp at hb;subst hb
   exact⟨f1,f2,(by simp),.inl f3,fun o x hx=>(f4 o x hx).1⟩) (fun b hb=>by cases hb) (by simp) (by
   obtain⟨q1,q2,q3⟩:=Z0P (G:=G) (k:=(t,0)) (root:=.map (some w.heap.size)) (top:=[w.heap.size]) (ins:=[]) (fl:=[])
   simp only[ObjR,q1,q2,q3]
   exact⟨w.heap.size, #[],0,rfl,rfl,rfl,heap_alloc_new w _,rfl⟩)
 have hp:∀{u:World} {ob:List (Id×Obj)},VR E u S0 (G.set1 (t,0) (.map (some w.heap.size)) [w.heap.size] [] []) (setO ob (t,0) (.mp kl el [])) (.ptr (t,0) 0 0) (.map (some w.heap.size)):=fun{u ob}=>by
  refine .ptr _ _ _ _ ⟨fun t' c' hg=>?_,fun e rows dp vr hh te hg _=>?_,fun kl el es hg=>by simp[Gh.set1]⟩ ⟨(fun _ h=>by cases h),(fun _ h=>by cases h)⟩
  ·rw[Z1,if_pos rfl]at hg;cases hg
  ·rw[Z1,if_pos rfl]at hg;cases hg
 rw[Z8]
 exact⟨_,key.putO hd hp⟩
theorem Z4G (hE:EnvOk P E) (h:RelG E base M S0 R0 w0 nt G st a w) (hlook:∀i x,look i=some x→getO st.ob i=some x) {ats:Array TypeId} {ty tt kt et:TypeId} (ha0:ats[0]?=some tt) (hM:E.M tt=some (kt,et)) {m:AV} {vm:Value} (hm:VR E w S0 G st.ob m vm) {r:OpRes}
  (hr:opLenM look m=some r):PureR E S0 G st.ob ((Builtin.len_ ats ty #[vm]).run P w) w r:=by
 unfold opLenM at hr
 split at hr
 ·rename_i o row off
  split at hr
  ·rename_i kl el es hl
   obtain⟨g,arr,ck,rfl,_,_,_,b4,b5⟩:=h.mapAt hm (hlook _ _ hl)
   have hn:arr.size=es.length:=by have:=congrArg List.length b5;simpa using this
   have hu:=hE.M tt kt et hM
   refine Z4 hr (v:=.int .i64 arr.size) ?_ (by rw[hn];exact .i _ _)
   simp[Builtin.len_,ha0,run_underlying hu,MapKept.run_getObj_map b4,Result.andThen,goInt]
  ·cases hr
 ·cases hr
def Nx (E:Env) (base:Nat) (M:List Nat) (S0:Nat→Prop) (R0:Id→Value) (w0:World) (nt:Nat) (st:St) (dst:Option Nat) (d:Delta):Act→World→Prop:=
 fun a' w'=>Rel E base M S0 R0 w0 nt (applyD st dst d) a' w'
theorem PureR.wp (h:RelG E base M S0 R0 w0 nt G st a w) {o:Oper} (hd:inB nt o.dst=true) {s:Sem Value} (hs:execOp a.eval o=(do pure (.value (←s)))) {r:OpRes} {out:List Dat} (ho:r.o=some out)
  (hp:PureR E S0 G st.ob (s.run P w) w r) {Q:Exit→Act→World→Prop}:o.wp P a w (Nx E base M S0 R0 w0 nt st o.dst (r.f out)) Q:=by
 obtain⟨x,v,h1,h2,h3,h4⟩:=hp
 rw[ho]at h1
 cases h1
 unfold Oper.wp
 rw[hs]
 simp only[Sem.run_bind,h3,Result.andThen_ok,Sem.run_pure,Oper.upon,Nx]
 rw[h2]
 exact⟨G,h.done_pure hd h4⟩
theorem Stepped.wp {o:Oper} {s:Sem Value} (hs:execOp a.eval o=(do pure (.value (←s)))) {d:Delta} (hp:Stepped E base M S0 R0 w0 nt st a o.dst d (s.run P w)) {Q:Exit→Act→World→Prop}:
  o.wp P a w (Nx E base M S0 R0 w0 nt st o.dst d) Q:=by
 obtain⟨v,w',h1,h2⟩:=hp
 unfold Oper.wp
 rw[hs]
 simp only[Sem.run_bind,h1,Result.andThen_ok,Sem.run_pure,Oper.upon,Nx]
 exact h2
theorem SteppedU.wp {o:Oper} {s:Sem Unit} (hs:execOp a.eval o=(do s;pure .skip)) {d:Delta} (hp:SteppedU E base M S0 R0 w0 nt st a o.dst d (s.run P w)) {Q:Exit→Act→World→Prop}:
  o.wp P a w (Nx E base M S0 R0 w0 nt st o.dst d) Q:=by
 obtain⟨w',h1,h2⟩:=hp
 unfold Oper.wp
 rw[hs]
 simp only[Sem.run_bind,h1,Result.andThen_ok,Sem.run_pure,Oper.upon,Nx]
 exact h2
theorem slT (hE:EnvOk P E) {t:TypeId} {e:TypeId} {b:Nat} {fs:List (Nat×TypeId)} (h:E.T t=some ⟨[.sl e],b,false,fs⟩):P.underlying t=some (.slice e)∧∃te,E.T e=some te:=by
 obtain⟨l,h1,h2⟩:=(hE.T _ _ h).single rfl
 cases h1
 exact⟨h2,(hE.T _ _ h).elem e (by simp)⟩
theorem Z2G (hE:EnvOk P E) {t:TypeId} {b:Nat} {fs:List (Nat×TypeId)} (h:E.T t=some ⟨[.str],b,false,fs⟩):P.underlying t=some .string:=by
 obtain⟨l,h1,h2⟩:=(hE.T _ _ h).single rfl
 cases h1
 exact h2
theorem Z4o (hE:EnvOk P E) {t:TypeId} {k:IntKind} {b:Nat} {fs:List (Nat×TypeId)} (h:E.T t=some ⟨[.int k],b,false,fs⟩):P.underlying t=some (.int k):=by
 obtain⟨l,h1,h2⟩:=(hE.T _ _ h).single rfl
 cases h1
 exact h2
theorem Z1v (h:RelG E base M S0 R0 w0 nt G st a w) (x:Option Operand):BndR E w S0 G st.ob (evo st.tm x) (x.map a.eval):=by
 cases x with
 |none=>trivial
 |some x=>exact h.ev x
theorem Z16 (h:RelG E base M S0 R0 w0 nt G st a w):∀(l:List Operand),(evs st.tm l).length=(l.map a.eval).length∧∀(i:Nat) (x:AV) (v:Value),(evs st.tm l)[i]?=some x→(l.map a.eval)[i]?=some v→VR E w S0 G st.ob x v
 |[]=>⟨rfl,fun i x v hx=>by simp[evs]at hx⟩
 |y::l=>by
  obtain⟨h1,h2⟩:=Z16 h l
  refine⟨by simp only[evs,List.length_cons,List.map_cons,h1],fun i x v hx hv=>?_⟩
  cases i with
  |zero=>simp[evs]at hx hv;subst hx;subst hv;exact h.ev y
  |succ i=>exact h2 i x v (by simpa[evs]using hx) (by simpa using hv)
theorem Z1w (h:RelG E base M S0 R0 w0 nt G st a w):∀(l:List (Nat×Operand)),(evp st.tm l).length=(l.map fun p=>(p.1,a.eval p.2)).length∧
  (∀(i:Nat) (x:Nat×AV) (v:Nat×Value),(evp st.tm l)[i]?=some x→(l.map fun p=>(p.1,a.eval p.2))[i]?=some v→x.1=v.1∧VR E w S0 G st.ob x.2 v.2)∧(∀p∈evp st.tm l,p.2∈evpV st.tm l)
 |[]=>⟨rfl,(fun i x v hx=>by simp[evp]at hx),(fun p hp=>by simp[evp]at hp)⟩
 |(n,y)::l=>by
  obtain⟨h1,h2,h3⟩:=Z1w h l
  refine⟨by simp only[evp,List.length_cons,List.map_cons,h1],fun i x v hx hv=>?_,fun p hp=>?_⟩
  ·cases i with
   |zero=>simp[evp]at hx hv;subst hx;subst hv;exact⟨rfl,h.ev y⟩
   |succ i=>exact h2 i x v (by simpa[evp]using hx) (by simpa using hv)
  ·simp only[evp,List.mem_cons]at hp
   simp only[evpV,List.mem_cons]
   rcases hp with rfl|hp
   ·exact .inl rfl
   ·exact .inr (h3 p hp)
theorem Z2T {cs:List AV} {v:AV} {o:Id} (h:v∈cs) (ho:o∈idsA v):o∈idsL cs:=by
 obtain⟨i,hi⟩:=List.getElem?_of_mem h
 exact Zo hi ho
theorem Z5T {α:Type} {l:List α} (h:1=l.length):∃v,l=[v]:=List.length_eq_one_iff.mp h.symm
theorem Z4p {α:Type} {l:List α} (h:2=l.length):∃v u,l=[v,u]:=by
 match l,h with
 |[v,u],_=>exact⟨v,u,rfl⟩
def CallR (P:Program) (E:Env) (base:Nat) (M:List Nat) (S0:Nat→Prop) (R0:Id→Value) (w0:World) (nt:Nat) (call:FuncId→List Dat→Option (List Dat)):Prop:=
 ∀(G:Gh) (st:St) (a:Act) (w:World) (look:Look) (t:Nat) (f:FuncId) (xs:List AV) (vs:List Value) (dst:Option Nat) (r:OpRes) (out:List Dat),RelG E base M S0 R0 w0 nt G st a w→(∀i x,look i=some x→getO st.ob i=some x)→inB nt dst=true→t<1000000→
  xs.length=vs.length→(∀(i:Nat) (x:AV) (v:Value),xs[i]?=some x→vs[i]?=some v→VR E w S0 G st.ob x v)→opCall E call look t f xs=some r→r.g=true→r.o=some out→
  (∃fn,E.F f=some fn)∧Calls P f vs.toArray w fun
   |.returned v,w'=>Rel E base M S0 R0 w0 nt (applyD st dst (r.f out)) (a.put dst v) w'
   |_,_=>False
theorem Z4H (hE:EnvOk P E) (hnt:nt≤1000000) {call:FuncId→List Dat→Option (List Dat)} (hC:CallR P E base M S0 R0 w0 nt call) (h:RelG E base M S0 R0 w0 nt G st a w) (hlook:∀i x,look i=some x→getO st.ob i=some x) {o:Oper} (hd:inB nt o.dst=true)
  {r:OpRes} (hr:iop E call look st.tm o=some r) (hg:r.g=true) {out:List Dat} (ho:r.o=some out) {Q:Exit→Act→World→Prop}:o.wp P a w (Nx E base M S0 R0 w0 nt st o.dst (r.f out)) Q:=by
 have hti:o.dst.getD 0<1000000:=by
  cases hds:o.dst with
  |none=>simp
  |some d=>
   rw[hds]at hd
   have:d<nt:=Nat.le_of_ble_eq_true hd
   exact Nat.lt_of_lt_of_le this hnt
 have hmv:∀x,(o.op=.move x∨o.op=.assign x)→(match ev st.tm x with
   |.nil=>match E.T o.type with
    |some ⟨[.sl e],_,false,_⟩=>just {v:=.own (o.dst.getD 0,0),nw:=[((o.dst.getD 0,0),.row e [] true 0 [])]}
    |_=>none
   |v=>val v)=some r→o.wp P a w (Nx E base M S0 R0 w0 nt st o.dst (r.f out)) Q:=fun x hop hr=>by
  have hex:execOp a.eval o=(do pure (.value (←(pure (a.eval x):Sem Value)))):=by
   unfold execOp
   rcases hop with hop|hop<;>rw[hop]<;>rfl
  have hx:=h.ev x
  split at hr
  ·rename_i hnil
   rw[hnil]at hx
   generalize hav:a.eval x=v at hx hex
   cases hx
   split at hr
   ·rename_i e b fs ht
    simp only[just,Option.some.injEq]at hr
    subst hr
    exact Stepped.wp hex (Z4j hE h hd (slT hE ht).2 hti)
   ·cases hr
  ·exact PureR.wp h hd hex ho (Z4 hr rfl hx)
 unfold iop at hr
 simp only at hr
 split at hr
 ·rename_i x hop;exact hmv x (.inl hop) hr
 ·rename_i x hop;exact hmv x (.inr hop) hr
 ·rename_i c x y hop
  exact PureR.wp h hd (s:=do pure (if←asBool (a.eval c)then a.eval x else a.eval y)) (by unfold execOp;rw[hop];simp) ho (Z4A (h.ev c) (h.ev x) (h.ev y) hr hg)
 ·rename_i e hop
  split at hr
  ·split at hr
   ·cases hr
   ·rename_i el ti hA
    simp only[just,Option.some.injEq]at hr
    subst hr
    exact Stepped.wp (s:=Instr.alloc e true (.tuple #[])) (by unfold execOp;rw[hop]) (Z1t hE h hd (hE.A _ _ _ hA).1 hti)
  ·rename_i ti ht
   simp only[just,Option.some.injEq]at hr
   subst hr
   exact Stepped.wp (s:=Instr.alloc e true (.tuple #[])) (by unfold execOp;rw[hop]) (Z1t hE h hd (hE.T _ _ ht) hti)
 ·rename_i e x hop
  split at hr
  ·cases hr
  ·rename_i ti ht
   obtain⟨hb,hr2⟩:=Z0 hr
   simp only[Bool.and_eq_true,Bool.not_eq_true']at hb
   obtain⟨b1,b2,b3⟩:=hb
   simp only[just,Option.some.injEq]at hr2
   subst hr2
   exact Stepped.wp (s:=Instr.box e (a.eval x)) (by unfold execOp;rw[hop]) (Z4k hE h hd (h.ev x) hti ⟨(fun vs e=>by rw[e]at b2;cases b2),(fun e=>by rw[e]at b2;cases b2)⟩ (Z03.mp b3))
 ·rename_i ty x hop
  exact PureR.wp h hd (s:=Instr.loadAt ty (a.eval x)) (by unfold execOp;rw[hop]) ho (Z47 hE h hlook (h.ev x) hr)
 ·rename_i ty pa x hop
  obtain⟨h1,h2⟩:r.o=some []∧SteppedU E base M S0 R0 w0 nt st a o.dst (r.f []) ((Instr.storeAt ty (a.eval pa) (a.eval x)).run P w):=by
   split at hr
   ·rename_i e ti hA
    exact Z3a hE h hlook hd hA (h.ev x) (h.ev pa) hr
   ·exact Z3v hE h hlook hd (h.ev x) (h.ev pa) hr hg
  rw[ho]at h1;cases h1
  exact SteppedU.wp (s:=Instr.storeAt ty (a.eval pa) (a.eval x)) (by unfold execOp;rw[hop]) h2
 ·rename_i x hop
  split at hr
  ·rename_i oo rr ff hx
   split at hr
   ·cases hr
   ·rename_i y hnm hl
    have hv:=h.ev x
    rw[hx]at hv
    have hgo:=hlook _ _ hl
    generalize hav:a.eval x=v at hv
    have hv':=hv
    cases hv' with
    |ptr _ _ _ _ hp h1=>
     have hpt:∃ad,v=.pointer (some ad):=by
      cases y with
      |mp kl el es=>exact absurd rfl (hnm kl el es)
      |box t cells=>obtain⟨_,g,_,e⟩:=hp.1 _ _ hgo;exact⟨_,e⟩
      |row e rows dp vr hh=>
       obtain⟨te,b1,_⟩:=(h.objs oo _ hgo:RowR E w _ e rows dp hh _ _ _)
       obtain⟨_,_,g,o0,n,c,_,e⟩:=hp.2.1 _ _ _ _ _ te hgo b1
       exact⟨_,e⟩
     obtain⟨ad,rfl⟩:=hpt
     exact PureR.wp h hd (s:=pure (.pointer (some ad))) (by unfold execOp;rw[hop];simp[hav]) ho (Z4 hr rfl hv)
   ·cases hr
  ·cases hr
 ·rename_i s x f hop
  split at hr
  ·cases hr
  ·rename_i ti ht
   rcases Bool.eq_false_or_eq_true ti.agg with ha|ha<;>rw[ha]at hr
   ·simp only[Bool.not_true,cond_false]at hr
    have hv:=h.ev x
    split at hr
    ·rename_i fo ft oo rr off hf hx
     rw[hx]at hv
     split at hr
     ·cases hr
     ·rename_i y hnm hl
      obtain⟨v',q1,q2⟩:=Z3n hE ht hf hv ⟨y,hlook _ _ hl,fun kl el es e=>hnm kl el es e⟩ h ha
      exact PureR.wp h hd (s:=Instr.fieldAt s (a.eval x) f) (by unfold execOp;rw[hop]) ho (Z4 hr q1 q2)
     ·cases hr
    ·rename_i fo ft e al cs off hf hx
     rw[hx]at hv
     generalize hav:a.eval x=v at hv
     cases hv with
     |pro _ te _ _ _ g o0 u hte hl hm hrd=>
      exact PureR.wp h hd (s:=Instr.fieldAt s (.pointer (some ⟨g,o0+off,none⟩)) f) (by unfold execOp;rw[hop];simp[hav]) ho (Z4 hr (Z0s hE ht hf ha g (o0+off)) (by
       rw[Nat.add_assoc]
       exact .pro _ te _ _ _ g o0 u hte hl hm hrd))
    ·cases hr
   ·cases hr
 ·rename_i s x f hop
  split at hr
  ·cases hr
  ·rename_i ti ht
   rcases Bool.eq_false_or_eq_true ti.agg with ha|ha<;>rw[ha]at hr
   ·simp only[Bool.not_true,cond_false]at hr
    have hv:=h.ev x
    split at hr
    ·rename_i fo ft cs hf hx
     rw[hx]at hv
     split at hr
     ·rename_i fi hfi
      obtain⟨hb,hr2⟩:=Z0 hr
      exact PureR.wp h hd (s:=Instr.field s (a.eval x) f) (by unfold execOp;rw[hop]) ho (Z2D hE ht ha hf hfi hv (Nat.le_of_ble_eq_true hb) hr2)
     ·cases hr
    ·cases hr
   ·cases hr
 ·rename_i ty x ix hop
  split at hr
  ·rename_i e b fs k n ht hix
   have hvx:=h.ev ix
   rw[hix]at hvx
   generalize hav:a.eval ix=v at hvx
   cases hvx
   obtain⟨hu,te,hte⟩:=slT hE ht
   exact PureR.wp h hd (s:=Instr.indexAt ty (a.eval x) (.int k n)) (by unfold execOp;rw[hop];simp[hav]) ho (Z2C hE h hlook hu hte (h.ev x) hr hg)
  ·rename_i k n ht hix
   split at hr
   ·rename_i e ti hA
    split at hr
    ·rename_i te hte
     have hvx:=h.ev ix
     rw[hix]at hvx
     generalize hav:a.eval ix=v at hvx
     cases hvx
     exact PureR.wp h hd (s:=Instr.indexAt ty (a.eval x) (.int k n)) (by unfold execOp;rw[hop];simp[hav]) ho (Z3T hE hlook hA hte (h.ev x) hr hg)
    ·cases hr
   ·cases hr
  ·cases hr
 ·rename_i ty x ix hop
  split at hr
  ·rename_i b fs s k n ht hx hix
   have hvx:=h.ev ix
   rw[hix]at hvx
   generalize hav:a.eval ix=v at hvx
   cases hvx
   have hvs:=h.ev x
   rw[hx]at hvs
   generalize hav2:a.eval x=v2 at hvs
   cases hvs
   exact PureR.wp h hd (s:=Instr.index ty (.string s) (.int k n)) (by unfold execOp;rw[hop];simp[hav,hav2]) ho (Z3V (Z2G hE ht) hr hg)
  ·cases hr
 ·rename_i x ix hop
  split at hr
  ·rename_i vs hx
   split at hr
   ·rename_i y hy
    exact PureR.wp h hd (s:=Instr.extract (a.eval x) ix) (by unfold execOp;rw[hop]) ho (Z2r (h.ev x) hx hy hr)
   ·cases hr
  ·cases hr
 ·rename_i ty x lo hi hop
  split at hr
  ·rename_i e b fs ht
   obtain⟨hu,te,hte⟩:=slT hE ht
   exact PureR.wp h hd (s:=Instr.sliceAt ty (a.eval x) (lo.map a.eval) (hi.map a.eval) none) (by unfold execOp;rw[hop];rfl) ho (Z3o hE h hlook hu hte (h.ev x) (Z1v h lo) (Z1v h hi) hr hg)
  ·rename_i b fs ht
   split at hr
   ·rename_i s hx
    have hvs:=h.ev x
    rw[hx]at hvs
    generalize hav2:a.eval x=v2 at hvs
    cases hvs
    exact PureR.wp h hd (s:=Instr.sliceAt ty (.string s) (lo.map a.eval) (hi.map a.eval) none) (by unfold execOp;rw[hop];simp[hav2]) ho (Z3U (Z2G hE ht) (Z1v h lo) (Z1v h hi) hr hg)
   ·cases hr
  ·cases hr
 ·rename_i op ty x hop
  exact PureR.wp h hd (s:=Op.unary op (a.eval x)) (by unfold execOp;rw[hop]) ho (Z57 hr (h.ev x))
 ·rename_i op ty x y yt hop
  exact PureR.wp h hd (s:=do eqGuard op ty x y (a.eval x) (a.eval y);binOp op ty (a.eval x) (a.eval y)) (by unfold execOp;rw[hop]) ho (Z4i hE (h.ev x) (h.ev y) x y hr hg)
 ·rename_i src dd x hop
  split at hr
  ·rename_i ks b1 f1 k b2 f2 k' n hs hds hx
   have hvx:=h.ev x
   rw[hx]at hvx
   generalize hav:a.eval x=v at hvx
   cases hvx
   exact PureR.wp h hd (s:=convert src dd (.int k' n)) (by unfold execOp;rw[hop];simp[hav]) ho (Z3p (Z4o hE hs) (Z4o hE hds) hr)
  ·rename_i b1 f1 b2 f2 s hs hds hx
   have hvx:=h.ev x
   rw[hx]at hvx
   generalize hav:a.eval x=v at hvx
   cases hvx
   exact PureR.wp h hd (s:=convert src dd (.string s)) (by unfold execOp;rw[hop];simp[hav]) ho (Z3q (Z2G hE hs) (Z2G hE hds) hr)
  ·rename_i e b1 f1 b2 f2 hs hds
   split at hr
   ·rename_i b3 f3 e' rows hte hsl
    obtain⟨hb,hr2⟩:=Z0 hr
    exact PureR.wp h hd (s:=convert src dd (a.eval x)) (by unfold execOp;rw[hop]) ho (Z2s hE h hlook (slT hE hs).1 (Z4o hE hte) (Z2G hE hds) hte rfl (h.ev x) hsl hb hr2)
   ·cases hr
  ·cases hr
 ·rename_i ty parts hop
  split at hr
  ·split at hr
   ·rename_i e ti hA
    split at hr
    ·rename_i te hte
     split at hr
     ·rename_i cs hcs
      obtain⟨hb,hr2⟩:=Z0 hr
      simp only[just,Option.some.injEq]at hr2
      subst hr2
      obtain⟨e1,e2,e3⟩:=Z1w h parts.toList
      have hdis:=ZL.mp hb
      have hrun:execOp a.eval o=(do pure (.value (←Instr.build ty (parts.toList.map fun p=>(p.1,a.eval p.2)).toArray))):=by
       unfold execOp
       rw[hop]
       have:(parts.map fun(i,x)=>(i,a.eval x))=(parts.toList.map fun p=>(p.1,a.eval p.2)).toArray:=by
        apply Array.ext'
        simp
       simp only[this]
      exact Stepped.wp hrun (Z3W hE h hd hA hte hti e1 e2 (fun p hp k hk hk'=>hdis k hk' (Z2T (e3 p hp) hk)) hcs)
     ·cases hr
    ·cases hr
   ·cases hr
  ·rename_i ti ht
   split at hr
   ·rename_i cs hcs
    obtain⟨hb,hr2⟩:=Z0 hr
    simp only[Bool.and_eq_true]at hb
    simp only[just,Option.some.injEq]at hr2
    subst hr2
    obtain⟨e1,e2,e3⟩:=Z1w h parts.toList
    have hdis:=ZL.mp hb.2
    have hrun:execOp a.eval o=(do pure (.value (←Instr.build ty (parts.toList.map fun p=>(p.1,a.eval p.2)).toArray))):=by
     unfold execOp
     rw[hop]
     have:(parts.map fun(i,x)=>(i,a.eval x))=(parts.toList.map fun p=>(p.1,a.eval p.2)).toArray:=by
      apply Array.ext'
      simp
     simp only[this]
    exact Stepped.wp hrun (Z3s hE h hd ht hb.1 hti e1 e2 (fun p hp k hk hk'=>hdis k hk' (Z2T (e3 p hp) hk)) hcs)
   ·cases hr
 ·rename_i ty len parts hop
  split at hr
  ·rename_i e b fs ht
   obtain⟨hu,te0,hte0⟩:=slT hE ht
   split at hr
   ·cases hr
   ·rename_i te hte
    split at hr
    ·rename_i bb hbb
     obtain⟨hb,hr2⟩:=Z0 hr
     simp only[Bool.and_eq_true]at hb
     simp only[just,Option.some.injEq]at hr2
     subst hr2
     obtain⟨e1,e2,e3⟩:=Z1w h parts.toList
     have hrun:execOp a.eval o=(do pure (.value (←Instr.buildSlice ty len (parts.toList.map fun p=>(p.1,a.eval p.2)).toArray))):=by
      unfold execOp
      rw[hop]
      have:(parts.map fun(i,x)=>(i,a.eval x))=(parts.toList.map fun p=>(p.1,a.eval p.2)).toArray:=by
       apply Array.ext'
       simp
      simp only[this]
     exact Stepped.wp hrun (Z1u hE h hlook hd hu hte hti len e1 e2 hbb (ZA.mp hb.1) (Nat.le_of_ble_eq_true hb.2))
    ·cases hr
  ·cases hr
 ·rename_i ty l c hop
  split at hr
  ·rename_i e b fs n m ht hl hc
   obtain⟨hu,te0,hte0⟩:=slT hE ht
   split at hr
   ·cases hr
   ·rename_i te hte
    simp only[under,Option.some.injEq]at hr
    subst hr
    have⟨g1,g2,g3⟩:0≤n∧n=m∧n.toNat*te.by_≤maxBytes:=by simpa using hg
    subst g2
    have hvl:=h.ev l
    rw[hl]at hvl
    generalize hav:a.eval l=v at hvl
    cases hvl
    have hvc:=h.ev c
    rw[hc]at hvc
    generalize hav2:a.eval c=v2 at hvc
    cases hvc
    exact Stepped.wp (s:=Instr.makeSlice ty (.int .i64 n) (.int .i64 n)) (by unfold execOp;rw[hop];simp[hav,hav2]) (Z4D hE h hd hu hte hti g1 g3)
  ·cases hr
 ·rename_i b args ats hop
  obtain⟨e1,e2⟩:=Z16 h args.toList
  have harr:args.map a.eval=(args.toList.map a.eval).toArray:=by
   apply Array.ext'
   simp
  split at hr
  ·rename_i x hx
   obtain⟨v,hvs⟩:=Z5T (by rw[hx]at e1;exact e1)
   have hv:VR E w S0 G st.ob x v:=e2 0 x v (by rw[hx];rfl) (by rw[hvs];rfl)
   have hrun:execOp a.eval o=(do pure (.value (←Builtin.len_ ats o.type #[v]))):=by
    unfold execOp
    rw[hop]
    simp[resolve,harr,hvs,invoke,builtin]
   split at hr
   ·rename_i b1 f1 s ht
    cases hv
    obtain⟨t0,ha0,ht0⟩:=Option.bind_eq_some_iff.mp ht
    exact PureR.wp h hd hrun ho (Z49 ha0 (Z2G hE ht0) hr)
   ·cases hr
   ·rename_i e b1 f1 ht hne
    obtain⟨t0,ha0,ht0⟩:=Option.bind_eq_some_iff.mp ht
    exact PureR.wp h hd hrun ho (Z4h h hlook ha0 (slT hE ht0).1 hv (fun s e=>hne s e) hr)
   ·split at hr
    ·rename_i p hp
     obtain⟨t0,ha0,ht0⟩:=Option.bind_eq_some_iff.mp hp
     obtain⟨kt,et⟩:=p
     exact PureR.wp h hd hrun ho (Z4G hE h hlook ha0 ht0 hv hr)
    ·cases hr
  ·rename_i x y hx
   obtain⟨v,u,hvs⟩:=Z4p (by rw[hx]at e1;exact e1)
   have hv:VR E w S0 G st.ob x v:=e2 0 x v (by rw[hx];rfl) (by rw[hvs];rfl)
   have hu:VR E w S0 G st.ob y u:=e2 1 y u (by rw[hx];rfl) (by rw[hvs];rfl)
   have hrun:execOp a.eval o=(do pure (.value (←Builtin.append_ ats o.type #[v,u]))):=by
    unfold execOp
    rw[hop]
    simp[resolve,harr,hvs,invoke,builtin]
   split at hr
   ·rename_i e b1 f1 e' b2 f2 ht ht'
    obtain⟨t0,ha0,ht0⟩:=Option.bind_eq_some_iff.mp ht
    obtain⟨t1,ha1,ht1⟩:=Option.bind_eq_some_iff.mp ht'
    obtain⟨q1,q2⟩:=Z3Y hE h hlook hd (ty:=o.type) ha0 ha1 (slT hE ht0).1 (slT hE ht1).1 hti hv hu hr hg
    rw[ho]at q1;cases q1
    exact Stepped.wp hrun q2
   ·cases hr
  ·rename_i k i k' j hx
   obtain⟨v,u,hvs⟩:=Z4p (by rw[hx]at e1;exact e1)
   have hv:VR E w S0 G st.ob (.i k i) v:=e2 0 _ v (by rw[hx];rfl) (by rw[hvs];rfl)
   have hu:VR E w S0 G st.ob (.i k' j) u:=e2 1 _ u (by rw[hx];rfl) (by rw[hvs];rfl)
   cases hv;cases hu
   have hrun:execOp a.eval o=(do pure (.value (←Builtin.max_ ats o.type #[.int k i,.int k' j]))):=by
    unfold execOp
    rw[hop]
    simp[resolve,harr,hvs,invoke,builtin]
   exact PureR.wp h hd hrun ho (Z1V (at_:=ats) (ty:=o.type) true hr)
  ·rename_i k i k' j hx
   obtain⟨v,u,hvs⟩:=Z4p (by rw[hx]at e1;exact e1)
   have hv:VR E w S0 G st.ob (.i k i) v:=e2 0 _ v (by rw[hx];rfl) (by rw[hvs];rfl)
   have hu:VR E w S0 G st.ob (.i k' j) u:=e2 1 _ u (by rw[hx];rfl) (by rw[hvs];rfl)
   cases hv;cases hu
   have hrun:execOp a.eval o=(do pure (.value (←Builtin.min_ ats o.type #[.int k i,.int k' j]))):=by
    unfold execOp
    rw[hop]
    simp[resolve,harr,hvs,invoke,builtin]
   exact PureR.wp h hd hrun ho (Z1V (at_:=ats) (ty:=o.type) false hr)
  ·cases hr
 ·rename_i f args ats hop
  obtain⟨e1,e2⟩:=Z16 h args.toList
  have harr:args.map a.eval=(args.toList.map a.eval).toArray:=by
   apply Array.ext'
   simp
  obtain⟨⟨fn,hfn⟩,hcall⟩:=hC G st a w look _ f _ (args.toList.map a.eval) o.dst r out h hlook hd hti e1 e2 hr hg ho
  obtain⟨f1,f2,f3⟩:=hE.F f fn hfn
  have hrun:(execOp a.eval o).run P w=.ok (.enter f (args.toList.map a.eval).toArray) w:=by
   unfold execOp
   rw[hop]
   have g2:¬fn.name= "runtime.NumGoroutine" :=by simpa using f2
   have g3:¬fn.body=none:=fun e=>by rw[e]at f3;cases f3
   simp[resolve,Act.eval,Deferred.ofValue,harr,invoke,callFunc,f1,g2,g3]
  unfold Oper.wp
  rw[hrun,Oper.upon_enter]
  refine hcall.mono fun e w' hh=>?_
  cases e with
  |returned v=>exact hh
  |panicked c=>exact hh.elim
  |outgrown=>exact hh.elim
 ·rename_i c args ats hop
  split at hr
  ·rename_i f caps hfc
   obtain⟨e1,e2⟩:=Z16 h args.toList
   have hvc:=h.tmps c
   rw[hfc]at hvc
   generalize hval:a.tmps.getD c undef=vf at hvc
   cases hvc with
   |fn _ _ arr hl hcs=>
    have harr:args.map a.eval=(args.toList.map a.eval).toArray:=by
     apply Array.ext'
     simp
    have d1:(evs st.tm args.toList++caps).length=(args.toList.map a.eval++arr.toList).length:=by
     simp only[List.length_append,e1,hl,Array.length_toList]
    obtain⟨⟨fn,hfn⟩,hcall⟩:=hC G st a w look _ f _ (args.toList.map a.eval++arr.toList) o.dst r out h hlook hd hti d1 (fun i x v hx hv=>by
     by_cases hi:i<(evs st.tm args.toList).length
     ·rw[List.getElem?_append_left hi]at hx
      rw[List.getElem?_append_left (by omega)]at hv
      exact e2 i x v hx hv
     ·rw[List.getElem?_append_right (by omega)]at hx
      rw[List.getElem?_append_right (by omega),←e1]at hv
      exact hcs _ x v hx (by simpa using hv)) hr hg ho
    obtain⟨f1,f2,f3⟩:=hE.F f fn hfn
    have hrun:(execOp a.eval o).run P w=.ok (.enter f (args.toList.map a.eval++arr.toList).toArray) w:=by
     unfold execOp
     rw[hop]
     have g2:¬fn.name= "runtime.NumGoroutine" :=by simpa using f2
     have g3:¬fn.body=none:=fun e=>by rw[e]at f3;cases f3
     have g4:a.eval (.tmp c)=.func (.func f) #[] arr:=hval
     simp[resolve,g4,Deferred.ofValue,harr,invoke,callFunc,f1,g2,g3]
    unfold Oper.wp
    rw[hrun,Oper.upon_enter]
    refine hcall.mono fun e w' hh=>?_
    cases e with
    |returned v=>exact hh
    |panicked c=>exact hh.elim
    |outgrown=>exact hh.elim
  ·cases hr
 ·rename_i ty hop
  split at hr
  ·split at hr
   ·rename_i kl _ _ el _ _ _ _
    simp only[just,Option.some.injEq]at hr
    subst hr
    exact Stepped.wp (s:=Instr.makeMap ty none) (by unfold execOp;rw[hop];rfl) (Z3x hE h hd hti ty kl el)
   ·cases hr
  ·cases hr
 ·rename_i ty m k ok hop
  exact PureR.wp h hd (s:=Instr.lookup ty (a.eval m) (a.eval k) ok) (by unfold execOp;rw[hop]) ho (Z4F hE h hlook (h.ev m) (h.ev k) hr)
 ·rename_i ty m k x hop
  exact SteppedU.wp (s:=Instr.mapUpdate ty (a.eval m) (a.eval k) (a.eval x)) (by unfold execOp;rw[hop]) (Z15 hE h hlook hd (h.ev m) (h.ev k) (h.ev x) hr ho)
 ·rename_i ty m k x hop
  exact SteppedU.wp (s:=Instr.mapUpdate ty (a.eval m) (a.eval k) (a.eval x)) (by unfold execOp;rw[hop]) (Z15 hE h hlook hd (h.ev m) (h.ev k) (h.ev x) hr ho)
 ·rename_i f first captured hop
  split at hr
  ·rename_i hfirst
   obtain⟨e1,e2⟩:=Z16 h captured.toList
   have hf0:first= #[]:=Array.toList_inj.mp (by simpa using hfirst)
   refine PureR.wp h hd (s:=Instr.makeFunc (.func f) (first.map a.eval) (captured.map a.eval)) (by unfold execOp;rw[hop]) ho (Z4 hr (v:=.func (.func f) #[] (captured.map a.eval)) ?_ (.fn f _ _ (by simpa using e1) fun i x v hx hv=>e2 i x v hx (by simpa using hv)))
   rw[hf0]
   simp[Instr.makeFunc]
  ·cases hr
 ·cases hr
end
end Go.Proofs.YtnihikajdbcoaaaGreat.Vai
