import Derived.WalkKit
import Derived.Great.BuildSlice
namespace Go.Proofs.YtnihikajdbcoaaaGreat.Vai
open Go
inductive Dat where
 |int (n:Int)
 |bool (b:Bool)
 |str (s:ByteArray)
 |sl (rows:List (List Dat))
instance:Inhabited Dat:=⟨.int 0⟩
def Dat.n:Dat→Int
 |.int n=>n
 |_=>0
def Dat.b:Dat→Bool
 |.bool b=>b
 |_=>false
def Dat.s:Dat→ByteArray
 |.str s=>s
 |_=>⟨#[]⟩
def Dat.rows:Dat→List (List Dat)
 |.sl r=>r
 |_=>[]
inductive Leaf where
 |int (k:IntKind)
 |bool
 |str
 |sl (e:TypeId)
 deriving DecidableEq
structure TI where
 ls:List Leaf
 by_:Nat
 agg:Bool
 fs:List (Nat×TypeId)
abbrev Id:=Nat×Nat
def idEq (a b:Id):Bool:=Nat.beq a.1 b.1&&Nat.beq a.2 b.2
inductive AV where
 |dead
 |i (k:IntKind) (n:Int)
 |b (x:Bool)
 |s (x:ByteArray)
 |nil
 |agg (cs:List AV)
 |tup (vs:List AV)
 |ro (e:TypeId) (al:Bool) (rows:List (List Dat))
 |own (o:Id)
 |vw (o:Id) (lo n:Int)
 |nest (o:Id) (ver:Nat) (row:Int) (col:Nat) (e:TypeId) (whole:Bool) (rows:List (List Dat))
 |ptr (o:Id) (row:Int) (off:Nat)
 |pro (e:TypeId) (al:Bool) (cells:List Dat) (off:Nat)
 |fn (f:FuncId) (caps:List AV)
inductive Obj where
 |row (e:TypeId) (rows:List (List Dat)) (deep:Bool) (ver:Nat) (holes:List (Int×Nat))
 |box (t:TypeId) (cells:List AV)
 |mp (kl el:Leaf) (es:List (Dat×Dat))
structure St where
 tm:List (Nat×AV)
 ob:List (Id×Obj)
def getT:List (Nat×AV)→Nat→AV
 |[],_=>.dead
 |(k,v)::r,t=>bif Nat.beq k t then v else getT r t
def putT:List (Nat×AV)→Nat→AV→List (Nat×AV)
 |[],t,v=>[(t,v)]
 |(k,u)::r,t,v=>bif Nat.beq k t then(t,v)::r else(k,u)::putT r t v
def getO:List (Id×Obj)→Id→Option Obj
 |[],_=>none
 |(k,v)::r,o=>bif idEq k o then some v else getO r o
def delO:List (Id×Obj)→Id→List (Id×Obj)
 |[],_=>[]
 |(k,v)::r,o=>bif idEq k o then delO r o else(k,v)::delO r o
mutual
def killA (o:Id):AV→AV
 |.own o'=>bif idEq o o' then .dead else .own o'
 |.vw o' lo n=>bif idEq o o' then .dead else .vw o' lo n
 |.nest o' v r c e wh rows=>bif idEq o o' then .ro e true rows else .nest o' v r c e wh rows
 |.ptr o' r f=>bif idEq o o' then .dead else .ptr o' r f
 |.agg cs=>.agg (killL o cs)
 |.tup cs=>.tup (killL o cs)
 |.fn f cs=>.fn f (killL o cs)
 |v=>v
def killL (o:Id):List AV→List AV
 |[]=>[]
 |v::r=>killA o v::killL o r
end
def killT (o:Id):List (Nat×AV)→List (Nat×AV)
 |[]=>[]
 |(k,v)::r=>(k,killA o v)::killT o r
def killO (o:Id):List (Id×Obj)→List (Id×Obj)
 |[]=>[]
 |(k,.box t cs)::r=>(k,.box t (killL o cs))::killO o r
 |(k,v)::r=>(k,v)::killO o r
mutual
def numbA:AV→AV
 |.ro e al rows=>bif al then .dead else .ro e al rows
 |.nest _ _ _ _ _ _ _=>.dead
 |.pro e al cs f=>bif al then .dead else .pro e al cs f
 |.agg cs=>.agg (numbL cs)
 |.tup cs=>.tup (numbL cs)
 |.fn f cs=>.fn f (numbL cs)
 |v=>v
def numbL:List AV→List AV
 |[]=>[]
 |v::r=>numbA v::numbL r
end
def numbT:List (Nat×AV)→List (Nat×AV)
 |[]=>[]
 |(k,v)::r=>(k,numbA v)::numbT r
def numbO:List (Id×Obj)→List (Id×Obj)
 |[]=>[]
 |(k,.box t cs)::r=>(k,.box t (numbL cs))::numbO r
 |(k,.mp kl el es)::r=>(k,.mp kl el es)::numbO r
 |(k,.row e rows deep ver h)::r=>bif deep then(k,.row e rows deep ver h)::numbO r else delO (numbO r) k
structure Delta where
 v:AV
 nw:List (Id×Obj):=[]
 up:List (Id×Obj):=[]
 dl:List Id:=[]
 nm:Bool:=false
 up2:List (Id×Obj):=[]
def delAll:List Id→List (Id×Obj)→List (Id×Obj)
 |[],ob=>ob
 |o::r,ob=>delAll r (delO ob o)
def setO:List (Id×Obj)→Id→Obj→List (Id×Obj)
 |[],o,v=>[(o,v)]
 |(k,u)::r,o,v=>bif idEq k o then(o,v)::r else(k,u)::setO r o v
def upAll:List (Id×Obj)→List (Id×Obj)→List (Id×Obj)
 |[],ob=>ob
 |(o,v)::r,ob=>upAll r (setO ob o v)
def clearAll:List (Id×Obj)→St→St
 |[],st=>st
 |(o,_)::r,st=>clearAll r {tm:=killT o st.tm,ob:=killO o (delO st.ob o)}
def applyD (st:St) (dst:Option Nat) (d:Delta):St:=
 let st1:St:={st with ob:=delAll d.dl st.ob}
 let st2:St:=bif d.nm then{tm:=numbT st1.tm,ob:=numbO st1.ob}else st1
 let st3:=clearAll d.nw {st2 with ob:=upAll d.up st2.ob}
 let st4:St:={st3 with ob:=upAll d.up2 (upAll d.nw st3.ob)}
 match dst with
 |some t=>{st4 with tm:=putT st4.tm t d.v}
 |none=>st4
inductive Sty where
 |rd (t:TypeId)
 |tk (t:TypeId)
 |io (t:TypeId)
 |fn (g:FuncId) (n:Nat)
inductive Mode where
 |plain
 |muts
 |cur (pt:TypeId)
 |gen (ss:List Sty)
 |gens (alts:List (List Sty))
 |mk (pt:TypeId)
 |capt (pt:TypeId)
 |sorts (g:FuncId)
structure Env where
 T:TypeId→Option TI
 F:FuncId→Option Func
 mode:FuncId→Mode
 X:FuncId→Option (List Dat→Option (List Dat))
 keep:FuncId→Nat→List Nat
 eqT:TypeId→Bool
 M:TypeId→Option (TypeId×TypeId)
 A:TypeId→Option (TypeId×TI)
abbrev Look:=Id→Option Obj
def cv:Value→AV
 |.int k n=>.i k n
 |.bool b=>.b b
 |.string s=>.s s
 |.slice none 0 0=>.nil
 |_=>.dead
def ev (tm:List (Nat×AV)):Operand→AV
 |.tmp t=>getT tm t
 |.const v=>cv v
 |.func f=>.fn f []
 |_=>.dead
def flat:AV→List AV
 |.agg cs=>cs
 |v=>[v]
def pack (agg:Bool) (vs:List AV):AV:=bif agg then .agg vs else vs.headD .dead
def datAV (al:Bool):Leaf→Dat→AV
 |.int k,d=>.i k d.n
 |.bool,d=>.b d.b
 |.str,d=>.s d.s
 |.sl e,d=>.ro e al d.rows
def nestAV (o:Id) (ver:Nat) (row:Int) (col:Nat):Leaf→Dat→AV
 |.int k,d=>.i k d.n
 |.bool,d=>.b d.b
 |.str,d=>.s d.s
 |.sl e,d=>.nest o ver row col e true d.rows
def datAVs (al:Bool):List Leaf→List Dat→List AV
 |[],_=>[]
 |l::ls,ds=>datAV al l (ds.headD default)::datAVs al ls ds.tail
def nestAVs (o:Id) (ver:Nat) (row:Int):Nat→List Leaf→List Dat→List AV
 |_,[],_=>[]
 |c,l::ls,ds=>nestAV o ver row c l (ds.headD default)::nestAVs o ver row (c+1) ls ds.tail
def slOf (look:Look):AV→Option (Option TypeId×List (List Dat))
 |.nil=>some (none,[])
 |.ro e _ r=>some (some e,r)
 |.nest _ _ _ _ e _ r=>some (some e,r)
 |.own o=>match look o with
  |some (.row e rows _ _ [])=>some (some e,rows)
  |_=>none
 |.vw o lo n=>match look o with
  |some (.row e rows _ _ [])=>some (some e,(rows.drop lo.toNat).take n.toNat)
  |_=>none
 |_=>none
def eOK (e:TypeId):Option TypeId→Bool
 |none=>true
 |some e'=>Nat.beq e e'
def ikEq (a b:IntKind):Bool:=decide (a=b)
def toDat (look:Look):Leaf→AV→Option Dat
 |.int k,.i k' n=>bif ikEq k k' then some (.int n)else none
 |.bool,.b x=>some (.bool x)
 |.str,.s x=>some (.str x)
 |.sl e,v=>match slOf look v with
  |some (e',r)=>bif eOK e e' then some (.sl r)else none
  |none=>none
 |_,_=>none
def toDats (look:Look):List Leaf→List AV→Option (List Dat)
 |[],[]=>some []
 |l::ls,v::vs=>match toDat look l v with
  |some d=>match toDats look ls vs with
   |some ds=>some (d::ds)
   |none=>none
  |none=>none
 |_,_=>none
structure Given where
 d:Dat
 ids:List Id
 deep:Bool
def give (look:Look):Leaf→AV→Option Given
 |.sl e,.own o=>match look o with
  |some (.row e' rows deep _ [])=>bif Nat.beq e e' then some ⟨.sl rows,[o],deep⟩else none
  |_=>none
 |.sl e,.vw o lo n=>match look o with
  |some (.row e' rows deep _ [])=>bif Nat.beq e e' then some ⟨.sl ((rows.drop lo.toNat).take n.toNat),[o],deep⟩else none
  |_=>none
 |.sl _,.nil=>some ⟨.sl [],[],true⟩
 |.sl e,.ro e' _ r=>bif Nat.beq e e' then some ⟨.sl r,[],false⟩else none
 |.sl e,.nest _ _ _ _ e' _ r=>bif Nat.beq e e' then some ⟨.sl r,[],false⟩else none
 |.int k,.i k' n=>bif ikEq k k' then some ⟨.int n,[],true⟩else none
 |.bool,.b x=>some ⟨.bool x,[],true⟩
 |.str,.s x=>some ⟨.str x,[],true⟩
 |_,_=>none
structure Givens where
 ds:List Dat
 ids:List Id
 deep:Bool
def gives (look:Look):List Leaf→List AV→Option Givens
 |[],[]=>some ⟨[],[],true⟩
 |l::ls,v::vs=>match give look l v with
  |some g=>match gives look ls vs with
   |some h=>some ⟨g.d::h.ds,g.ids++h.ids,g.deep&&h.deep⟩
   |none=>none
  |none=>none
 |_,_=>none
def memId (o:Id):List Id→Bool
 |[]=>false
 |p::r=>bif idEq o p then true else memId o r
def nodupId:List Id→Bool
 |[]=>true
 |o::r=>bif memId o r then false else nodupId r
def zeroDat:Leaf→Dat
 |.int _=>.int 0
 |.bool=>.bool false
 |.str=>.str ⟨#[]⟩
 |.sl _=>.sl []
def zeroAVs (t:Nat):Nat→List Leaf→List AV
 |_,[]=>[]
 |c,.int k::ls=>.i k 0::zeroAVs t (c+1) ls
 |c,.bool::ls=>.b false::zeroAVs t (c+1) ls
 |c,.str::ls=>.s ⟨#[]⟩::zeroAVs t (c+1) ls
 |c,.sl _::ls=>.own (t,c)::zeroAVs t (c+1) ls
def zeroObjs (t:Nat):Nat→List Leaf→List (Id×Obj)
 |_,[]=>[]
 |c,.sl e::ls=>((t,c),.row e [] true 0 [])::zeroObjs t (c+1) ls
 |c,_::ls=>zeroObjs t (c+1) ls
structure OpRes where
 g:Bool
 o:Option (List Dat)
 f:List Dat→Delta
def just (d:Delta):Option OpRes:=some ⟨true,some [],fun _=>d⟩
def val (v:AV):Option OpRes:=just {v:=v}
def under (g:Bool) (d:Delta):Option OpRes:=some ⟨g,some [],fun _=>d⟩
def setRange {α:Type}:List α→Nat→List α→List α
 |l,_,[]=>l
 |l,i,x::xs=>setRange (l.set i x) (i+1) xs
def hasSl:List Leaf→Bool
 |[]=>false
 |.sl _::_=>true
 |_::ls=>hasSl ls
def colIn (off n:Nat):List (Int×Nat)→Bool
 |[]=>false
 |(_,c)::r=>bif Nat.ble off c&&Nat.blt c (off+n)then true else colIn off n r
def rowIs (row:Int):List (Int×Nat)→Bool
 |[]=>true
 |(r,_)::h=>decide (r=row)&&rowIs row h
def holesOut (off n:Nat):List (Int×Nat)→List (Int×Nat)
 |[]=>[]
 |(r,c)::h=>bif Nat.ble off c&&Nat.blt c (off+n)then holesOut off n h else(r,c)::holesOut off n h
def slCols:Nat→List Leaf→List Nat
 |_,[]=>[]
 |c,.sl _::ls=>c::slCols (c+1) ls
 |c,_::ls=>slCols (c+1) ls
def leafEq:Leaf→Leaf→Bool
 |.int k,.int k'=>ikEq k k'
 |.bool,.bool=>true
 |.str,.str=>true
 |.sl e,.sl e'=>Nat.beq e e'
 |_,_=>false
def liesIn:List Leaf→Nat→List Leaf→Bool
 |[],_,_=>true
 |l::ls,off,es=>(match es[off]? with
  |some l'=>leafEq l l'
  |none=>false)&&liesIn ls (off+1) es
def fits (E:Env) (ls:List Leaf) (off:Nat) (e:TypeId):Bool:=match E.T e with
 |some te=>liesIn ls off te.ls
 |none=>false
def opLoad (E:Env) (look:Look) (t:TypeId):AV→Option OpRes
 |.ptr o row off=>match E.T t with
  |none=>none
  |some ti=>match look o with
   |some (.box _ cells)=>bif Nat.ble (off+ti.ls.length) cells.length then val (pack ti.agg ((cells.drop off).take ti.ls.length))else none
   |some (.row e rows _ ver holes)=>bif colIn off ti.ls.length holes|| !fits E ti.ls off e then none
     else val (pack ti.agg (nestAVs o ver row off ti.ls ((rows.getD row.toNat []).drop off)))
   |_=>none
 |.pro e al cells off=>match E.T t with
  |none=>none
  |some ti=>bif fits E ti.ls off e then val (pack ti.agg (datAVs al ti.ls (cells.drop off)))else none
 |_=>none
def solid:AV→Bool
 |.dead=>false
 |.tup _=>false
 |_=>true
def selfOver (o:Id) (off ver:Nat) (holes:List (Int×Nat)):List Leaf→AV→Option (Int×Dat)
 |[.sl e],.nest o' ver' row col e' _ r=>bif idEq o o'&&(Nat.beq ver ver'&&(Nat.beq off col&&(Nat.beq e e'&& !colIn off 1 holes)))then some (row,.sl r)else none
 |_,_=>none
def isPar (o:Id):Bool:=Nat.ble 1000000 o.1
def hasRo:List AV→Bool
 |[]=>false
 |.ro _ _ _::_=>true
 |_::r=>hasRo r
def opStore (E:Env) (look:Look) (t:TypeId) (x:AV):AV→Option OpRes
 |.ptr o row off=>match E.T t with
  |none=>none
  |some ti=>match look o with
   |some (.box bt cells)=>
    bif Nat.ble (off+ti.ls.length) cells.length&&(Nat.beq (flat x).length ti.ls.length&&(solid x&& !(isPar o&&hasRo (flat x))))then just {v:=.dead,up:=[(o,.box bt (setRange cells off (flat x)))]}else none
   |some (.row e rows deep ver holes)=>match selfOver o off ver holes ti.ls x with
       |some (row',d)=>bif fits E ti.ls off e then under (decide (row'=row)) {v:=.dead,up:=[(o,.row e (rows.set row.toNat ((rows.getD row.toNat []).set off d)) deep (ver+1) holes)]}else none
       |none=>match gives look ti.ls (flat x)with
    |none=>none
    |some g=>bif memId o g.ids||(!nodupId g.ids|| !fits E ti.ls off e)then none else
     bif colIn off ti.ls.length holes then
      under (rowIs row holes) {v:=.dead,up:=[(o,.row e (rows.set row.toNat (setRange (rows.getD row.toNat []) off g.ds)) (deep&&g.deep) (ver+1) (holesOut off ti.ls.length holes))],dl:=g.ids}
     else just {v:=.dead,up:=[(o,.row e (rows.set row.toNat (setRange (rows.getD row.toNat []) off g.ds)) (deep&&g.deep) (bif hasSl ti.ls then ver+1 else ver) holes)],dl:=g.ids}
   |_=>none
 |_=>none
def opIndexAddr (look:Look) (e:TypeId) (x:AV) (n:Int):Option OpRes:=
 match x with
 |.own o=>match look o with
  |some (.row e' rows _ _ _)=>bif Nat.beq e e' then under (decide (0≤n)&&decide (n<(rows.length:Int))) {v:=.ptr o n 0}else none
  |_=>none
 |.vw o lo m=>match look o with
  |some (.row e' _ _ _ _)=>bif Nat.beq e e' then under (decide (0≤n)&&decide (n<m)) {v:=.ptr o (lo+n) 0}else none
  |_=>none
 |.ro e' al rows=>bif Nat.beq e e' then under (decide (0≤n)&&decide (n<(rows.length:Int))) {v:=.pro e al (rows.getD n.toNat []) 0}else none
 |.nest _ _ _ _ e' _ rows=>bif Nat.beq e e' then under (decide (0≤n)&&decide (n<(rows.length:Int))) {v:=.pro e true (rows.getD n.toNat []) 0}else none
 |_=>none
def opSliceS (s:ByteArray) (lo hi:Option AV):Option OpRes:=
 match lo,hi with
 |none,none=>val (.s s)
 |some (.i _ l),none=>under (decide (0≤l)&&decide (l≤(s.size:Int))) {v:=.s (s.extract l.toNat s.size)}
 |none,some (.i _ h)=>under (decide (0≤h)&&decide (h≤(s.size:Int))) {v:=.s (s.extract 0 h.toNat)}
 |some (.i _ l),some (.i _ h)=>under (decide (0≤l)&&(decide (l≤h)&&decide (h≤(s.size:Int)))) {v:=.s (s.extract l.toNat h.toNat)}
 |_,_=>none
def cutRows (r:List (List Dat)) (l h:Int):List (List Dat):=(r.drop l.toNat).take (h-l).toNat
def opCut (x:AV) (l h:Int):AV:=
 match x with
 |.own o=>.vw o l (h-l)
 |.vw o l0 _=>.vw o (l0+l) (h-l)
 |.ro e al r=>.ro e al (cutRows r l h)
 |.nest o ver row col e _ r=>.nest o ver row col e false (cutRows r l h)
 |_=>.dead
def opSlice (look:Look) (e:TypeId) (x:AV) (lo hi:Option AV):Option OpRes:=
 match slOf look x with
 |some (some e',rows)=>bif Nat.beq e e' then
   match lo,hi with
   |none,none=>val (opCut x 0 rows.length)
   |some (.i _ l),none=>under (decide (0≤l)&&decide (l≤(rows.length:Int))) {v:=opCut x l rows.length}
   |none,some (.i _ h)=>under (decide (0≤h)&&decide (h≤(rows.length:Int))) {v:=opCut x 0 h}
   |some (.i _ l),some (.i _ h)=>under (decide (0≤l)&&(decide (l≤h)&&decide (h≤(rows.length:Int)))) {v:=opCut x l h}
   |_,_=>none
  else none
 |_=>none
def keys:List (Id×Obj)→List Id
 |[]=>[]
 |(o,_)::r=>o::keys r
def disjI:List Id→List Id→Bool
 |[],_=>true
 |x::r,l=> !(memId x l)&&disjI r l
structure Dst where
 rows:List (List Dat)
 ids:List Id
 deep:Bool
 up:List (Id×Obj)
def dstOf (look:Look) (e:TypeId):AV→Option Dst
 |.nil=>some ⟨[],[],true,[]⟩
 |.own o=>match look o with
  |some (.row e' rows deep _ [])=>bif Nat.beq e e' then some ⟨rows,[o],deep,[]⟩else none
  |_=>none
 |.vw o lo n=>match look o with
  |some (.row e' rows deep _ [])=>bif Nat.beq e e' then some ⟨(rows.drop lo.toNat).take n.toNat,[o],deep,[]⟩else none
  |_=>none
 |.nest o ver row col e' _ r=>match look o with
  |some (.row eo rows deep ver' holes)=>bif Nat.beq e e'&&(Nat.beq ver ver'&&(deep&& !colIn col 1 holes))then
    some ⟨r,[],true,[(o,.row eo rows deep ver ((row,col)::holes))]⟩else none
  |_=>none
 |_=>none
def maxBytes:Nat:=70368744177664
def opAppend (E:Env) (look:Look) (t:Nat) (e:TypeId) (s x:AV):Option OpRes:=
 match E.T e with
 |none=>none
 |some te=>match dstOf look e s with
  |none=>none
  |some d=>match(bif hasSl te.ls then give look (.sl e) x else(toDat look (.sl e) x).map fun d=>(⟨d,[],true⟩:Given))with
   |none=>none
   |some g=>bif !nodupId (d.ids++g.ids)||((!g.deep&& !d.up.isEmpty)|| !disjI (keys d.up) g.ids)then none else
    under (decide ((d.rows.length+g.d.rows.length)*te.by_≤maxBytes))
     {v:=.own (t,0),nw:=[((t,0),.row e (d.rows++g.d.rows) (d.deep&&g.deep) 0 [])],up:=d.up,dl:=d.ids++g.ids,nm:= !d.up.isEmpty}
def opLen (look:Look) (x:AV):Option OpRes:=
 match x with
 |.s s=>val (.i .i64 s.size)
 |.own o=>match look o with
  |some (.row _ rows _ _ _)=>val (.i .i64 rows.length)
  |_=>none
 |.vw o _ n=>match look o with
  |some (.row _ _ _ _ _)=>val (.i .i64 n)
  |_=>none
 |_=>match slOf look x with
  |some (_,r)=>val (.i .i64 r.length)
  |none=>none
def byteAt (s:ByteArray) (i:Int):Int:=if h:i.toNat<s.size then((s[i.toNat]'h).toNat:Int)else 0
def strOf (rows:List (List Dat)):ByteArray:=⟨(rows.map fun r=>UInt8.ofNat (r.headD default).n.toNat).toArray⟩
def avEq:List AV→List AV→Option Bool
 |[],[]=>some true
 |.i k a::r,.i k' b::q=>bif ikEq k k' then(avEq r q).map fun t=>(a==b)&&t else none
 |.b a::r,.b b::q=>(avEq r q).map fun t=>(a==b)&&t
 |.s a::r,.s b::q=>(avEq r q).map fun t=>(a.toList==b.toList)&&t
 |_,_=>none
def avFits:List Leaf→List AV→Bool
 |[],[]=>true
 |.int _::ls,.i _ _::r=>avFits ls r
 |.bool::ls,.b _::r=>avFits ls r
 |.str::ls,.s _::r=>avFits ls r
 |_,_=>false
def opBin (E:Env) (op:BinOp) (t:TypeId) (x y:AV):Option OpRes:=
 match x,y with
 |.i k a,.i k' b=>match op with
  |.shl=>under (decide (0≤b)) {v:=.i k (k.wrap (a*2^(min b.toNat k.bits)))}
  |.shr=>under (decide (0≤b)) {v:=.i k (a/2^(min b.toNat k.bits))}
  |_=>bif !ikEq k k' then none else match op with
   |.add=>val (.i k (k.wrap (a+b)))
   |.sub=>val (.i k (k.wrap (a-b)))
   |.mul=>val (.i k (k.wrap (a*b)))
   |.quo=>under (!decide (b=0)) {v:=.i k (k.wrap (a.tdiv b))}
   |.rem=>under (!decide (b=0)) {v:=.i k (a.tmod b)}
   |.eql=>val (.b (a==b))
   |.neq=>val (.b (!(a==b)))
   |.lss=>val (.b (decide (a<b)))
   |.leq=>val (.b (decide (a≤b)))
   |.gtr=>val (.b (decide (b<a)))
   |.geq=>val (.b (decide (b≤a)))
   |.and=>val (.i k (Go.bits .and k a b))
   |.or=>val (.i k (Go.bits .or k a b))
   |.xor=>val (.i k (Go.bits .xor k a b))
   |.andNot=>val (.i k (Go.bits .andNot k a b))
   |_=>none
 |.s a,.s b=>match op with
  |.add=>under (decide (a.size+b.size≤9223372036854775807)) {v:=.s (a++b)}
  |.eql=>val (.b (a.toList==b.toList))
  |.neq=>val (.b (!(a.toList==b.toList)))
  |_=>none
 |.b a,.b b=>match E.T t with
  |some ⟨[.bool],_,false,_⟩=>match op with
   |.eql=>val (.b (a==b))
   |.neq=>val (.b (!(a==b)))
   |_=>none
  |_=>none
 |.agg a,.agg b=>match E.T t with
  |some ti=>bif !(E.eqT t&&(avFits ti.ls a&&avFits ti.ls b))then none else match op with
   |.eql=>match avEq a b with
    |some r=>val (.b r)
    |none=>none
   |.neq=>match avEq a b with
    |some r=>val (.b (!r))
    |none=>none
   |_=>none
  |none=>none
 |_,_=>none
def opPick (c a b:AV):Option OpRes:=
 match c with
 |.b t=>match a,b with
  |.b x,.b y=>val (.b (bif t then x else y))
  |.dead,v=>under (!t) {v:=v}
  |v,.dead=>under t {v:=v}
  |.tup [],v=>under (!t) {v:=v}
  |v,.tup []=>under t {v:=v}
  |.i k x,.i k' y=>bif ikEq k k' then val (.i k (bif t then x else y))else none
  |.s x,.s y=>val (.s (bif t then x else y))
  |_,_=>none
 |_=>none
def slIds (v:AV):List Id:=match v with
 |.own o=>[o]
 |.vw o _ _=>[o]
 |_=>[]
def resAVs (t:Nat):Nat→List Leaf→List Dat→List AV
 |_,[],_=>[]
 |c,.sl _::ls,ds=>.own (t,c)::resAVs t (c+1) ls ds.tail
 |c,l::ls,ds=>datAV false l (ds.headD default)::resAVs t (c+1) ls ds.tail
def resObjs (t:Nat):Nat→List Leaf→List Dat→List (Id×Obj)
 |_,[],_=>[]
 |c,.sl e::ls,ds=>((t,c),.row e (ds.headD default).rows true 0 [])::resObjs t (c+1) ls ds.tail
 |c,_::ls,ds=>resObjs t (c+1) ls ds.tail
def lsOf (E:Env):List TypeId→Option (List TI)
 |[]=>some []
 |t::r=>match E.T t with
  |some ti=>match lsOf E r with
   |some q=>some (ti::q)
   |none=>none
  |none=>none
def joinLs:List TI→List Leaf
 |[]=>[]
 |ti::r=>ti.ls++joinLs r
def packAll:List TI→List AV→List AV
 |[],_=>[]
 |ti::r,vs=>pack ti.agg (vs.take ti.ls.length)::packAll r (vs.drop ti.ls.length)
def oneOr (vs:List AV):AV:=match vs with
 |[v]=>v
 |_=>.tup vs
def flats:List AV→List AV
 |[]=>[]
 |v::r=>flat v++flats r
structure MutArg where
 o:Id
 sub:Option (Int×Nat)
def allSolid:List AV→Bool
 |[]=>true
 |v::r=>solid v&&allSolid r
def mutArgs (look:Look):List Leaf→List AV→Option (List MutArg)
 |[],[]=>some []
 |.sl e::ls,.own o::vs=>match look o with
  |some (.row e' _ true _ [])=>bif Nat.beq e e' then(mutArgs look ls vs).map (⟨o,none⟩:: ·)else none
  |_=>none
 |.sl e::ls,.nest o ver row col e' true _::vs=>match look o with
  |some (.row _ _ true ver' [])=>bif Nat.beq e e'&&Nat.beq ver ver' then(mutArgs look ls vs).map (⟨o,some (row,col)⟩:: ·)else none
  |_=>none
 |.sl _::_,_=>none
 |_::ls,_::vs=>mutArgs look ls vs
 |_,_=>none
def mutUps (look:Look):List MutArg→List Dat→List (Id×Obj)
 |[],_=>[]
 |⟨o,none⟩::r,ds=>(match look o with
  |some (.row e _ deep ver h)=>[(o,Obj.row e (ds.headD default).rows deep (ver+1) h)]
  |_=>[])++mutUps look r ds.tail
 |⟨o,some (row,col)⟩::r,ds=>(match look o with
  |some (.row e rows deep ver h)=>[(o,Obj.row e (rows.set row.toNat ((rows.getD row.toNat []).set col (ds.headD default))) deep (ver+1) h)]
  |_=>[])++mutUps look r ds.tail
def mutDats (look:Look):List Leaf→List AV→Option (List Dat)
 |[],[]=>some []
 |.sl _::ls,.own o::vs=>match look o with
  |some (.row _ rows _ _ _)=>(mutDats look ls vs).map (Dat.sl rows:: ·)
  |_=>none
 |.sl _::ls,.nest o _ row col _ _ _::vs=>match look o with
  |some (.row _ rows _ _ _)=>(mutDats look ls vs).map ((rows.getD row.toNat []).getD col default:: ·)
  |_=>none
 |.sl _::_,_=>none
 |l::ls,v::vs=>match toDat look l v,mutDats look ls vs with
  |some d,some ds=>some (d::ds)
  |_,_=>none
 |_,_=>none
def mutIds:List MutArg→List Id
 |[]=>[]
 |m::r=>m.o::mutIds r
def allOld:List AV→Bool
 |[]=>true
 |.own _::_=>false
 |.vw _ _ _::_=>false
 |.nest _ _ _ _ _ _ _::_=>false
 |.ro _ al _::r=> !al&&allOld r
 |_::r=>allOld r
def oldRo:List Leaf→List AV→Bool
 |[],[]=>true
 |.sl _::ls,.ro _ al _::vs=> !al&&oldRo ls vs
 |.sl _::_,_=>false
 |_::ls,_::vs=>oldRo ls vs
 |_,_=>false
def argFit (ti:TI):AV→Bool
 |.agg cs=>ti.agg&&Nat.beq cs.length ti.ls.length
 |_=> !ti.agg&&Nat.beq 1 ti.ls.length
def argsFit:List TI→List AV→Bool
 |[],[]=>true
 |ti::r,v::vs=>argFit ti v&&argsFit r vs
 |_,_=>false
def splitL:List AV→Option (List AV×AV)
 |[]=>none
 |[v]=>some ([],v)
 |v::r=>match splitL r with
  |some (us,x)=>some (v::us,x)
  |none=>none
def mutCall (call:FuncId→List Dat→Option (List Dat)) (look:Look) (t:Nat) (f:FuncId) (ps rs:List TI) (vs:List AV):Option OpRes:=
 match mutDats look (joinLs ps) (flats vs),mutArgs look (joinLs ps) (flats vs)with
 |some ds,some ms=>bif nodupId (mutIds ms)&&(argsFit ps vs&&(allSolid vs&& !hasSl (joinLs rs)))then
   some ⟨true,call f ds,fun r=>{v:=oneOr (packAll rs (resAVs t 0 (joinLs rs) r)),nw:=resObjs t 0 (joinLs rs) r,up:=mutUps look ms (r.drop (joinLs rs).length),nm:=true}⟩
  else none
 |_,_=>none
def curCall (call:FuncId→List Dat→Option (List Dat)) (look:Look) (t:Nat) (f:FuncId) (pt:TypeId) (ti:TI) (ps rs:List TI) (us:List AV):AV→Option OpRes
 |.ptr o _ 0=>match look o with
  |some (.box _ cells)=>match toDats look ti.ls cells,toDats look (joinLs ps) (flats us)with
   |some cs,some ds=>bif argsFit ps us&&(oldRo ti.ls cells&&allOld cells)then some ⟨true,call f (cs++ds),fun r=>{v:=oneOr (packAll rs (resAVs t 0 (joinLs rs) r)),nw:=resObjs t 0 (joinLs rs) r,up:=[(o,.box pt (datAVs false ti.ls (r.drop (joinLs rs).length)))]}⟩else none
   |_,_=>none
  |_=>none
 |_=>none
structure GArgs where
 ds:List Dat
 ids:List Id
 ios:List (Id×TypeId×List Leaf)
 rds:List AV
def genArgs (E:Env) (look:Look):List Sty→List AV→Option GArgs
 |[],[]=>some ⟨[],[],[],[]⟩
 |.rd t::ss,v::vs=>match E.T t with
  |some ti=>match toDats look ti.ls (flat v),genArgs E look ss vs with
   |some d,some g=>bif argFit ti v&&solid v then some ⟨d++g.ds,g.ids,g.ios,flat v++g.rds⟩else none
   |_,_=>none
  |none=>none
 |.tk t::ss,v::vs=>match E.T t with
  |some ti=>match gives look ti.ls (flat v),genArgs E look ss vs with
   |some d,some g=>bif d.deep&&(argFit ti v&&solid v)then some ⟨d.ds++g.ds,d.ids++g.ids,g.ios,g.rds⟩else none
   |_,_=>none
  |none=>none
 |.io t::ss,.ptr o _ 0::vs=>match E.T t,look o with
  |some ti,some (.box _ cells)=>match gives look ti.ls cells,genArgs E look ss vs with
   |some d,some g=>bif d.deep&& !idEq o (1000000,0)then some ⟨d.ds++g.ds,d.ids++g.ids,(o,t,ti.ls)::g.ios,g.rds⟩else none
   |_,_=>none
  |_,_=>none
 |.fn f n::ss,.fn f' caps::vs=>bif Nat.beq f f'&&Nat.beq caps.length n then genArgs E look ss (caps++vs)else none
 |_,_=>none
def deads:List Leaf→List AV
 |[]=>[]
 |_::r=>.dead::deads r
def ioDead:List (Id×TypeId×List Leaf)→List (Id×Obj)
 |[]=>[]
 |(o,pt,ls)::r=>(o,.box pt (deads ls))::ioDead r
def ioObjs (t:Nat):Nat→List (Id×TypeId×List Leaf)→List Dat→List (Id×Obj)
 |_,[],_=>[]
 |c,(_,_,ls)::r,ds=>resObjs t c ls ds++ioObjs t (c+100) r (ds.drop ls.length)
def ioBoxes (t:Nat):Nat→List (Id×TypeId×List Leaf)→List Dat→List (Id×Obj)
 |_,[],_=>[]
 |c,(o,pt,ls)::r,ds=>(o,.box pt (resAVs t c ls ds))::ioBoxes t (c+100) r (ds.drop ls.length)
def ioIds:List (Id×TypeId×List Leaf)→List Id
 |[]=>[]
 |(o,_,_)::r=>o::ioIds r
def ioFit (t:Nat):List (Id×TypeId×List Leaf)→Bool
 |[]=>true
 |(o,_,ls)::r=> !Nat.beq o.1 t&&(Nat.ble ls.length 100&&ioFit t r)
def noneOf (g:GArgs):Bool:=match g.ids,g.ios with
 |[],[]=>true
 |_,_=>false
def rdOk (look:Look) (ids:List Id):List AV→Bool
 |[]=>true
 |.own o::r=>(match look o with
  |some (.row _ _ true _ [])=> !memId o ids
  |_=>false)&&rdOk look ids r
 |.vw o _ _::r=>(match look o with
  |some (.row _ _ true _ [])=> !memId o ids
  |_=>false)&&rdOk look ids r
 |.nest _ _ _ _ _ _ _::_=>false
 |.ro _ al _::r=> !al&&rdOk look ids r
 |_::r=>rdOk look ids r
def genCall (E:Env) (call:FuncId→List Dat→Option (List Dat)) (look:Look) (t:Nat) (f:FuncId) (rs:List TI) (ss:List Sty) (vs:List AV):Option OpRes:=
 match genArgs E look ss vs with
 |some g=>bif noneOf g then some ⟨true,call f g.ds,fun r=>{v:=oneOr (packAll rs (resAVs t 0 (joinLs rs) r)),nw:=resObjs t 0 (joinLs rs) r}⟩
  else bif nodupId g.ids&&(nodupId (ioIds g.ios)&&(rdOk look g.ids g.rds&&(ioFit t g.ios&&Nat.ble (joinLs rs).length 100)))then
   some ⟨true,call f g.ds,fun r=>{v:=oneOr (packAll rs (resAVs t 0 (joinLs rs) r)),nw:=resObjs t 0 (joinLs rs) r++ioObjs t 100 g.ios (r.drop (joinLs rs).length),dl:=g.ids,up:=ioDead g.ios,up2:=ioBoxes t 100 g.ios (r.drop (joinLs rs).length),nm:=true}⟩
  else none
 |none=>none
def fnFit:List Sty→List AV→Bool
 |.fn f _::_,.fn f' _::_=>Nat.beq f f'
 |.fn _ _::_,_=>false
 |_::ss,_::vs=>fnFit ss vs
 |_,_=>true
def gensCall (E:Env) (call:FuncId→List Dat→Option (List Dat)) (look:Look) (t:Nat) (f:FuncId) (rs:List TI) (vs:List AV):Nat→List (List Sty)→Option OpRes
 |_,[]=>none
 |i,ss::r=>bif fnFit ss vs then genCall E (fun f ds=>call f (.int (Int.ofNat i)::ds)) look t f rs ss vs else gensCall E call look t f rs vs (i+1) r
def opCall (E:Env) (call:FuncId→List Dat→Option (List Dat)) (look:Look) (t:Nat) (f:FuncId) (vs:List AV):Option OpRes:=
 match E.F f with
 |none=>none
 |some fn=>match E.mode f with
  |.plain=>match lsOf E fn.params.toList,lsOf E fn.resultTypes.toList with
   |some ps,some rs=>match toDats look (joinLs ps) (flats vs)with
    |none=>none
    |some ds=>bif !argsFit ps vs then none else some ⟨true,call f ds,fun r=>{v:=oneOr (packAll rs (resAVs t 0 (joinLs rs) r)),nw:=resObjs t 0 (joinLs rs) r}⟩
   |_,_=>none
  |.muts=>match lsOf E fn.params.toList,lsOf E fn.resultTypes.toList with
   |some ps,some rs=>mutCall call look t f ps rs vs
   |_,_=>none
  |.sorts g=>match splitL vs,lsOf E fn.params.toList.dropLast,lsOf E fn.resultTypes.toList with
   |some (us,.fn g' []),some ps,some rs=>bif Nat.beq g g' then mutCall call look t f ps rs us else none
   |_,_,_=>none
  |.cur pt=>match vs,E.T pt,lsOf E (fn.params.toList.drop 1),lsOf E fn.resultTypes.toList with
   |p::us,some ti,some ps,some rs=>curCall call look t f pt ti ps rs us p
   |_,_,_,_=>none
  |.capt pt=>match splitL vs,E.T pt,lsOf E fn.params.toList,lsOf E fn.resultTypes.toList with
   |some (us,p),some ti,some ps,some rs=>curCall call look t f pt ti ps rs us p
   |_,_,_,_=>none
  |.gen ss=>match lsOf E fn.resultTypes.toList with
   |some rs=>genCall E call look t f rs ss vs
   |none=>none
  |.gens alts=>match lsOf E fn.resultTypes.toList with
   |some rs=>gensCall E call look t f rs vs 0 alts
   |none=>none
  |.mk pt=>match E.T pt,lsOf E fn.params.toList with
   |some ti,some ps=>match toDats look (joinLs ps) (flats vs)with
    |some ds=>bif argsFit ps vs&&(allSolid vs&&allOld (flats vs))then some ⟨true,call f ds,fun r=>{v:=.ptr (t,0) 0 0,nw:=[((t,0),.box pt (datAVs false ti.ls r))]}⟩else none
    |none=>none
   |_,_=>none
mutual
def idsA:AV→List Id
 |.own o=>[o]
 |.vw o _ _=>[o]
 |.nest o _ _ _ _ _ _=>[o]
 |.ptr o _ _=>[o]
 |.agg cs=>idsL cs
 |.tup cs=>idsL cs
 |.fn _ cs=>idsL cs
 |_=>[]
def idsL:List AV→List Id
 |[]=>[]
 |v::r=>idsA v++idsL r
end
def opBuild (E:Env) (t:TypeId) (zs:List AV):List (Nat×AV)→List AV→Option (List AV)
 |[],cs=>some cs
 |(i,v)::r,cs=>match E.T t with
  |none=>none
  |some ti=>match ti.fs[i]? with
   |none=>none
   |some (off,ft)=>match E.T ft with
    |none=>none
    |some fi=>bif Nat.beq (flat v).length fi.ls.length&&solid v then opBuild E t zs r (setRange cs off (flat v))else none
structure Built where
 rows:List (List Dat)
 ids:List Id
 deep:Bool
def opBuildS (look:Look) (ls:List Leaf):List (Nat×AV)→Built→Option Built
 |[],b=>some b
 |(i,v)::r,b=>match gives look ls (flat v)with
  |none=>none
  |some g=>bif Nat.blt i b.rows.length then opBuildS look ls r ⟨b.rows.set i g.ds,b.ids++g.ids,b.deep&&g.deep⟩else none
def evs (tm:List (Nat×AV)):List Operand→List AV
 |[]=>[]
 |x::r=>ev tm x::evs tm r
def evp (tm:List (Nat×AV)):List (Nat×Operand)→List (Nat×AV)
 |[]=>[]
 |(i,x)::r=>(i,ev tm x)::evp tm r
def evpV (tm:List (Nat×AV)):List (Nat×Operand)→List AV
 |[]=>[]
 |(_,x)::r=>ev tm x::evpV tm r
def evo (tm:List (Nat×AV)):Option Operand→Option AV
 |none=>none
 |some x=>some (ev tm x)
def scal:Leaf→Bool
 |.sl _=>false
 |_=>true
def mapT (E:Env) (t:TypeId) (l:Leaf):Bool:=match E.T t with
 |some ⟨[l'],_,false,_⟩=>leafEq l l'&&scal l
 |_=>false
def dEq:Leaf→Dat→Dat→Bool
 |.int _,a,b=>decide (a.n=b.n)
 |.bool,a,b=>decide (a.b=b.b)
 |.str,a,b=>decide (a.s=b.s)
 |.sl _,_,_=>false
def mfind (l:Leaf) (k:Dat):List (Dat×Dat)→Option Dat
 |[]=>none
 |(a,v)::r=>bif dEq l k a then some v else mfind l k r
def mput (l:Leaf) (k v:Dat):List (Dat×Dat)→List (Dat×Dat)
 |[]=>[(k,v)]
 |(a,u)::r=>bif dEq l k a then(k,v)::r else(a,u)::mput l k v r
def opLookup (E:Env) (look:Look) (ty:TypeId) (m k:AV) (ok:Bool):Option OpRes:=match m,E.M ty with
 |.ptr o _ _,some (kt,et)=>match look o with
  |some (.mp kl el es)=>match toDat look kl k with
   |some kd=>bif mapT E kt kl&&mapT E et el then
     val (bif ok then .tup [datAV false el ((mfind kl kd es).getD (zeroDat el)),.b (mfind kl kd es).isSome]else datAV false el ((mfind kl kd es).getD (zeroDat el)))
    else none
   |none=>none
  |_=>none
 |_,_=>none
def opMapUpdate (E:Env) (look:Look) (ty:TypeId) (m k x:AV):Option OpRes:=match m,E.M ty with
 |.ptr o _ _,some (kt,et)=>match look o with
  |some (.mp kl el es)=>match toDat look kl k,toDat look el x with
   |some kd,some xd=>bif mapT E kt kl&&(mapT E et el&& !isPar o)then just {v:=.dead,up:=[(o,.mp kl el (mput kl kd xd es))]}else none
   |_,_=>none
  |_=>none
 |_,_=>none
def opLenM (look:Look) (m:AV):Option OpRes:=match m with
 |.ptr o _ _=>match look o with
  |some (.mp _ _ es)=>val (.i .i64 es.length)
  |_=>none
 |_=>none
def opStoreA (look:Look) (ti:TI) (x:AV):AV→Option OpRes
 |.ptr o _ off=>match look o with
  |some (.box bt cells)=>bif Nat.ble (off+ti.ls.length) cells.length&&(Nat.beq (flat x).length ti.ls.length&&(solid x&& !(isPar o&&hasRo (flat x))))then just {v:=.dead,up:=[(o,.box bt (setRange cells off (flat x)))]}else none
  |_=>none
 |_=>none
def opBuildA (n:Nat) (ti:TI):List (Nat×AV)→List AV→Option (List AV)
 |[],cs=>some cs
 |(i,v)::r,cs=>bif Nat.beq (flat v).length n&&(Nat.ble (i*n+n) ti.ls.length&&solid v)then opBuildA n ti r (setRange cs (i*n) (flat v))else none
def opIndexA (look:Look) (n:Nat) (ti:TI) (x:AV) (i:Int):Option OpRes:=match x with
 |.ptr o row off=>match look o with
  |some (.box _ _)=>under (decide (0≤i)&&decide (i<(ti.fs.length:Int))) {v:=.ptr o row (off+i.toNat*n)}
  |_=>none
 |_=>none
def iop (E:Env) (call:FuncId→List Dat→Option (List Dat)) (look:Look) (tm:List (Nat×AV)) (o:Oper):Option OpRes:=
 let t:=o.dst.getD 0
 let mv (x:Operand):Option OpRes:=match ev tm x with
  |.nil=>match E.T o.type with
   |some ⟨[.sl e],_,false,_⟩=>just {v:=.own (t,0),nw:=[((t,0),.row e [] true 0 [])]}
   |_=>none
  |v=>val v
 match o.op with
 |.move x=>mv x
 |.assign x=>mv x
 |.pick c a b=>opPick (ev tm c) (ev tm a) (ev tm b)
 |.alloc e=>match E.T e with
  |none=>match E.A e with
   |none=>none
   |some (_,ti)=>just {v:=.ptr (t,0) 0 0,nw:=zeroObjs t 1 ti.ls++[((t,0),.box e (zeroAVs t 1 ti.ls))]}
  |some ti=>just {v:=.ptr (t,0) 0 0,nw:=zeroObjs t 1 ti.ls++[((t,0),.box e (zeroAVs t 1 ti.ls))]}
 |.box e x=>match E.T e with
  |none=>none
  |some ti=>bif Nat.beq (flat (ev tm x)).length ti.ls.length&&(solid (ev tm x)&& !memId (t,0) (idsL (flat (ev tm x))))then just {v:=.ptr (t,0) 0 0,nw:=[((t,0),.box e (flat (ev tm x)))]}else none
 |.load ty x=>opLoad E look ty (ev tm x)
 |.store ty a x=>match E.A ty with
  |some (_,ti)=>opStoreA look ti (ev tm x) (ev tm a)
  |none=>opStore E look ty (ev tm x) (ev tm a)
 |.nilCheck x=>match ev tm x with
  |.ptr o r f=>match look o with
   |some (.mp _ _ _)=>none
   |some _=>val (.ptr o r f)
   |none=>none
  |_=>none
 |.fieldAddr s x f=>match E.T s with
  |none=>none
  |some ti=>bif !ti.agg then none else match ti.fs[f]?,ev tm x with
   |some (fo,_),.ptr o r off=>match look o with
    |some (.mp _ _ _)=>none
    |some _=>val (.ptr o r (off+fo))
    |none=>none
   |some (fo,_),.pro e al cs off=>val (.pro e al cs (off+fo))
   |_,_=>none
 |.field s x f=>match E.T s with
  |none=>none
  |some ti=>bif !ti.agg then none else match ti.fs[f]?,ev tm x with
   |some (fo,ft),.agg cs=>match E.T ft with
    |some fi=>bif Nat.ble (fo+fi.ls.length) cs.length then val (pack fi.agg ((cs.drop fo).take fi.ls.length))else none
    |none=>none
   |_,_=>none
 |.indexAddr ty x ix=>match E.T ty,ev tm ix with
  |some ⟨[.sl e],_,false,_⟩,.i _ n=>opIndexAddr look e (ev tm x) n
  |none,.i _ n=>match E.A ty with
   |some (e,ti)=>match E.T e with
    |some te=>opIndexA look te.ls.length ti (ev tm x) n
    |none=>none
   |none=>none
  |_,_=>none
 |.index ty x ix=>match E.T ty,ev tm x,ev tm ix with
  |some ⟨[.str],_,false,_⟩,.s s,.i _ n=>under (decide (0≤n)&&decide (n<(s.size:Int))) {v:=.i .u8 (byteAt s n)}
  |_,_,_=>none
 |.extract x ix=>match ev tm x with
  |.tup vs=>match vs[ix]? with
   |some v=>val v
   |none=>none
  |_=>none
 |.slice ty x lo hi none=>match E.T ty with
  |some ⟨[.sl e],_,false,_⟩=>opSlice look e (ev tm x) (evo tm lo) (evo tm hi)
  |some ⟨[.str],_,false,_⟩=>match ev tm x with
   |.s s=>opSliceS s (evo tm lo) (evo tm hi)
   |_=>none
  |_=>none
 |.unOp op _ x=>match op,ev tm x with
  |.not,.b y=>val (.b (!y))
  |.neg,.i k n=>val (.i k (k.wrap (0-n)))
  |_,_=>none
 |.binOp op ty x y _=>opBin E op ty (ev tm x) (ev tm y)
 |.convert src dst x=>match E.T src,E.T dst,ev tm x with
  |some ⟨[.int _],_,false,_⟩,some ⟨[.int k],_,false,_⟩,.i _ n=>val (.i k (k.wrap n))
  |some ⟨[.str],_,false,_⟩,some ⟨[.str],_,false,_⟩,.s s=>val (.s s)
  |some ⟨[.sl e],_,false,_⟩,some ⟨[.str],_,false,_⟩,v=>match E.T e,slOf look v with
   |some ⟨[.int .u8],_,false,_⟩,some (e',r)=>bif eOK e e' then val (.s (strOf r))else none
   |_,_=>none
  |_,_,_=>none
 |.build ty parts=>match E.T ty with
  |none=>match E.A ty with
   |some (e,ti)=>match E.T e with
    |some te=>match opBuildA te.ls.length ti (evp tm parts.toList) (zeroAVs t 1 ti.ls)with
     |some cs=>bif disjI (keys (zeroObjs t 1 ti.ls)) (idsL (evpV tm parts.toList))then just {v:=.agg cs,nw:=zeroObjs t 1 ti.ls}else none
     |none=>none
    |none=>none
   |none=>none
  |some ti=>match opBuild E ty [] (evp tm parts.toList) (zeroAVs t 1 ti.ls)with
   |some cs=>bif ti.agg&&disjI (keys (zeroObjs t 1 ti.ls)) (idsL (evpV tm parts.toList))then just {v:=.agg cs,nw:=zeroObjs t 1 ti.ls}else none
   |none=>none
 |.buildSlice ty len parts=>match E.T ty with
  |some ⟨[.sl e],_,false,_⟩=>match E.T e with
   |none=>none
   |some te=>match opBuildS look te.ls (evp tm parts.toList) ⟨List.replicate len (te.ls.map zeroDat),[],true⟩with
    |some b=>bif nodupId b.ids&&Nat.ble (len*te.ls.length) 16777216 then just {v:=.own (t,0),nw:=[((t,0),.row e b.rows b.deep 0 [])],dl:=b.ids}else none
    |none=>none
  |_=>none
 |.makeSlice ty l c=>match E.T ty,ev tm l,ev tm c with
  |some ⟨[.sl e],_,false,_⟩,.i .i64 n,.i .i64 m=>match E.T e with
   |none=>none
   |some te=>under (decide (0≤n)&&(decide (n=m)&&decide (n.toNat*te.by_≤maxBytes)))
     {v:=.own (t,0),nw:=[((t,0),.row e (List.replicate n.toNat (te.ls.map zeroDat)) true 0 [])]}
  |_,_,_=>none
 |.call {callee:=.builtin b,args,argTypes}=>match b,evs tm args.toList with
  |.len,[x]=>match(argTypes[0]?).bind E.T,x with
   |some ⟨[.str],_,false,_⟩,.s s=>val (.i .i64 s.size)
   |some ⟨[.sl _],_,false,_⟩,.s _=>none
   |some ⟨[.sl _],_,false,_⟩,x=>opLen look x
   |_,x=>match(argTypes[0]?).bind E.M with
    |some _=>opLenM look x
    |none=>none
  |.append,[s,x]=>match(argTypes[0]?).bind E.T,(argTypes[1]?).bind E.T with
   |some ⟨[.sl e],_,false,_⟩,some ⟨[.sl _],_,false,_⟩=>opAppend E look t e s x
   |_,_=>none
  |.max,[.i k a,.i k' b]=>bif ikEq k k' then val (.i k (bif decide (a<b)then b else a))else none
  |.min,[.i k a,.i k' b]=>bif ikEq k k' then val (.i k (bif decide (b<a)then b else a))else none
  |_,_=>none
 |.call {callee:=.value (.func f),args,..}=>opCall E call look t f (evs tm args.toList)
 |.call {callee:=.value (.tmp c),args,..}=>match getT tm c with
  |.fn f caps=>opCall E call look t f (evs tm args.toList++caps)
  |_=>none
 |.makeMap ty none=>match E.M ty with
  |some (kt,et)=>match E.T kt,E.T et with
   |some ⟨[kl],_,false,_⟩,some ⟨[el],_,false,_⟩=>just {v:=.ptr (t,0) 0 0,nw:=[((t,0),.mp kl el [])]}
   |_,_=>none
  |none=>none
 |.lookup ty m k ok=>opLookup E look ty (ev tm m) (ev tm k) ok
 |.mapUpdate ty m k x=>opMapUpdate E look ty (ev tm m) (ev tm k) (ev tm x)
 |.insert ty m k x=>opMapUpdate E look ty (ev tm m) (ev tm k) (ev tm x)
 |.makeFunc (.func f) first captured=>match first.toList with
  |[]=>val (.fn f (evs tm captured.toList))
  |_=>none
 |_=>none
def tmpsOf:List Operand→List Nat
 |[]=>[]
 |.tmp t::r=>t::tmpsOf r
 |_::r=>tmpsOf r
def boxIds:List Id→List (Id×Obj)→List Id
 |[],_=>[]
 |o::r,ob=>(match getO ob o with
  |some (.box _ cs)=>idsL cs
  |_=>[])++boxIds r ob
def avsOf:List (Nat×AV)→List AV
 |[]=>[]
 |(_,v)::r=>v::avsOf r
def obIds:List (Id×Obj)→List Id
 |[]=>[]
 |(_,.box _ cs)::r=>idsL cs++obIds r
 |_::r=>obIds r
structure Rec where
 idx:Nat
 dst:Option Nat
 reads:List Nat
 touch:List Id
 writes:List Id
 nws:List Id
 vids:List Id
 nm:Bool
 bad:Bool
 firm:Bool
 light:Bool
 ups:List (Id×Obj)
 hv:List Id
mutual
def firmA:AV→Bool
 |.dead=>false
 |.ro _ al _=> !al
 |.nest _ _ _ _ _ _ _=>false
 |.pro _ al _ _=> !al
 |.agg cs=>firmL cs
 |.tup cs=>firmL cs
 |.fn _ cs=>firmL cs
 |_=>true
def firmL:List AV→Bool
 |[]=>true
 |v::r=>firmA v&&firmL r
end
def firmO:Obj→Bool
 |.row _ _ deep _ _=>deep
 |.box _ cs=>firmL cs
 |.mp _ _ _=>true
def firmIds:List Id→List (Id×Obj)→Bool
 |[],_=>true
 |i::r,ob=>(match getO ob i with
  |some x=>firmO x
  |none=>false)&&firmIds r ob
def firmObs:List (Id×Obj)→Bool
 |[]=>true
 |(_,x)::r=>firmO x&&firmObs r
def guarded (ops:List Oper) (j:Nat):Bool:=ops.any fun o=>match o.guard with
 |some (i,_)=>Nat.beq i j
 |none=>false
def guardT (ops:List Oper) (o:Oper):List Nat:=match o.guard with
 |some (i,_)=>((ops[i]?).bind (·.dst)).toList
 |none=>[]
def inB (nt:Nat):Option Nat→Bool
 |none=>true
 |some d=>Nat.blt d nt
def isCall (o:Oper):Bool:=match o.op with
 |.call {callee:=.value _,..}=>true
 |_=>false
def blindOp (o:Oper):Bool:=match o.op with
 |.move _=>true
 |.assign _=>true
 |.pick _ _ _=>true
 |.extract _ _=>true
 |.makeFunc _ _ _=>true
 |_=>false
def touchOf (st:St) (o:Oper):List Id:=bif blindOp o then[]else idsL (evs st.tm o.op.operands.toList)++bif isCall o then boxIds (idsL (evs st.tm o.op.operands.toList)) st.ob else[]
def lightOp (o:Oper):Bool:=match o.op with
 |.indexAddr _ _ _=>true
 |_=>false
def lastO:List (Id×Obj)→Id→Option Obj
 |[],_=>none
 |(k,x)::r,i=>match lastO r i with
  |some y=>some y
  |none=>bif idEq i k then some x else none
def sameLen (e:TypeId) (n:Nat):Obj→Bool
 |.row e' rows true _ _=>Nat.beq e' e&&Nat.beq rows.length n
 |_=>false
def steady (st:St) (rs:List Rec) (k:Id):Bool:=match getO st.ob k with
 |some (.row e rows true _ _)=>rs.all fun r=> !memId k r.hv&&(match lastO r.ups k with
  |none=>true
  |some x=>sameLen e rows.length x)
 |_=>false
def disjW (sd:Id→Bool) (ws:List Id) (y:Rec):Bool:=disjI ws y.touch||(y.light&&ws.all fun k=> !memId k y.touch||sd k)
def recOf (ops:List Oper) (j:Nat) (o:Oper) (st:St) (touch:List Id) (d:Delta):Rec:=
 ⟨j,o.dst,tmpsOf o.op.operands.toList++guardT ops o,touch,keys d.nw++(keys d.up++(keys d.up2++d.dl)),keys d.nw,idsA d.v++(obIds d.nw++(obIds d.up++obIds d.up2)),d.nm,!disjI (keys d.nw) (obIds d.up),
  firmL (evs st.tm o.op.operands.toList)&&(firmIds touch st.ob&&((match o.dst with
   |none=>true
   |some _=>firmA d.v)&&(firmObs d.nw&&(firmObs d.up&&firmObs d.up2)))),lightOp o,d.up,keys d.nw++(keys d.up2++d.dl)⟩
def idxed (E:Env) (ops:List Oper):Option Nat→Bool
 |none=>false
 |some d=>ops.any fun q=>match q.op with
  |.indexAddr ty _ (.tmp t)=>Nat.beq t d&&(E.A ty).isSome
  |_=>false
def forkI {α:Type} (v:AV) (dst:Option Nat) (f:Nat→AV→Option α):Option α:=match v,dst with
 |.i k n,some dt=>bif decide (n=0)then f dt (.i k 0)else bif decide (n=1)then f dt (.i k 1)else none
 |_,_=>none
theorem Z0D {α:Type} {v:AV} {dst:Option Nat} {f:Nat→AV→Option α} {out:α} (h:forkI v dst f=some out):∃dt,dst=some dt∧f dt v=some out∧∀g:Nat→AV→Option α,forkI v dst g=g dt v:=by
 unfold forkI at h
 split at h
 ·rename_i k n dt
  by_cases h0:n=0
  ·subst h0
   exact⟨dt,rfl,h,fun g=>rfl⟩
  ·by_cases h1:n=1
   ·subst h1
    exact⟨dt,rfl,h,fun g=>rfl⟩
   ·rw[decide_eq_false h0,decide_eq_false h1]at h
    cases h
 ·cases h
def runOps (E:Env) (nt:Nat) (call:FuncId→List Dat→Option (List Dat)) (ops:List Oper) (fin:List Rec→St→Option (List Dat)):
  List Oper→Nat→List Rec→St→Option (List Dat)
 |[],_,rs,st=>fin rs st
 |o::rest,j,rs,st=>
  let exec:Option (List Dat):=
   let touch:=touchOf st o
   let look:Look:=fun i=>bif memId i touch then getO st.ob i else none
   match iop E call look st.tm o with
   |none=>none
   |some r=>bif inB nt o.dst&&r.g then r.o.bind fun ds=>
     let d:=r.f ds
     let st':=applyD st o.dst d
     let rc:Rec:=recOf ops j o st touch d
     bif guarded ops j then match d.v,o.dst with
      |.b t,some dt=>bif t then runOps E nt call ops fin rest (j+1) (rc::rs) {st' with tm:=putT st'.tm dt (.b true)}
        else runOps E nt call ops fin rest (j+1) (rc::rs) {st' with tm:=putT st'.tm dt (.b false)}
      |_,_=>none
     else bif idxed E ops o.dst then forkI d.v o.dst (fun dt v=>runOps E nt call ops fin rest (j+1) (rc::rs) {st' with tm:=putT st'.tm dt v})
     else runOps E nt call ops fin rest (j+1) (rc::rs) st'
    else none
  let pass:Option (List Dat):=bif !inB nt o.dst then none else runOps E nt call ops fin rest (j+1) (⟨j,o.dst,guardT ops o,[],[],[],[],false,false,true,false,[],[]⟩::rs) (applyD st o.dst {v:=.tup []})
  match o.guard with
  |none=>exec
  |some (i,want)=>match(ops[i]?).bind (·.dst)with
   |none=>none
   |some ti=>match getT st.tm ti with
    |.b x=>bif x==want then exec else pass
    |.tup []=>pass
    |_=>none
def dedup:List Id→List Id→List Id
 |[],acc=>acc
 |o::r,acc=>bif memId o acc then dedup r acc else dedup r (acc++[o])
def fresh:Obj→Obj
 |.row e rows deep _ h=>.row e rows deep 0 h
 |.box t cs=>.box t cs
 |.mp kl el es=>.mp kl el es
mutual
def strip:AV→AV
 |.nest _ _ _ _ e _ rows=>.ro e true rows
 |.agg cs=>.agg (stripL cs)
 |.tup cs=>.tup (stripL cs)
 |.fn f cs=>.fn f (stripL cs)
 |v=>v
def stripL:List AV→List AV
 |[]=>[]
 |v::r=>strip v::stripL r
end
def freshO:Obj→Obj
 |.row e rows deep _ h=>.row e rows deep 0 h
 |.box t cs=>.box t (stripL cs)
 |.mp kl el es=>.mp kl el es
def pickObs (ob:List (Id×Obj)):List Id→List (Id×Obj)
 |[]=>[]
 |o::r=>(match getO ob o with
  |some x=>[(o,freshO x)]
  |none=>[])++pickObs ob r
def pickTm (tm:List (Nat×AV)):List Nat→List (Nat×AV)
 |[]=>[]
 |t::r=>(t,strip (getT tm t))::pickTm tm r
def renum:Nat→List Id→List (Id×Id)
 |_,[]=>[]
 |n,o::r=>(o,bif isPar o then o else(500000+n,0))::renum (n+1) r
def newId:List (Id×Id)→Id→Option Id
 |[],_=>none
 |(k,v)::r,o=>bif idEq k o then some v else newId r o
mutual
def renA (nb:List (Id×Obj)) (ρ:List (Id×Id)):AV→AV
 |.own o=>match newId ρ o with
  |some o'=>.own o'
  |none=>.dead
 |.vw o lo n=>match newId ρ o with
  |some o'=>.vw o' lo n
  |none=>.dead
 |.ptr o r f=>match newId ρ o with
  |some o'=>.ptr o' r f
  |none=>.dead
 |.nest o ver row col e wh rows=>match newId ρ o,getO nb o with
  |some o',some (.row _ _ _ vr _)=>bif Nat.beq vr ver then .nest o' 0 row col e wh rows else .ro e true rows
  |_,_=>.ro e true rows
 |.agg cs=>.agg (renL nb ρ cs)
 |.tup cs=>.tup (renL nb ρ cs)
 |.fn f cs=>.fn f (renL nb ρ cs)
 |v=>v
def renL (nb:List (Id×Obj)) (ρ:List (Id×Id)):List AV→List AV
 |[]=>[]
 |v::r=>renA nb ρ v::renL nb ρ r
end
def renTm (nb:List (Id×Obj)) (ρ:List (Id×Id)) (tm:List (Nat×AV)):List Nat→List (Nat×AV)
 |[]=>[]
 |t::r=>(t,renA nb ρ (getT tm t))::renTm nb ρ tm r
def renObj (nb:List (Id×Obj)) (ρ:List (Id×Id)):Obj→Obj
 |.row e rows deep _ h=>.row e rows deep 0 h
 |.box t cs=>.box t (renL nb ρ cs)
 |.mp kl el es=>.mp kl el es
def renOb (nb:List (Id×Obj)) (ρ:List (Id×Id)) (ob:List (Id×Obj)):List (Id×Id)→List (Id×Obj)
 |[]=>[]
 |(o,o')::r=>match getO ob o with
  |some x=>(o',renObj nb ρ x)::renOb nb ρ ob r
  |none=>renOb nb ρ ob r
def fsts:List (Id×Id)→List Id
 |[]=>[]
 |(o,_)::r=>o::fsts r
def snds:List (Id×Id)→List Id
 |[]=>[]
 |(_,o)::r=>o::snds r
def parOk:List (Id×Id)→Bool
 |[]=>true
 |(o,o')::r=>(idEq o o'||(!isPar o&& !isPar o'))&&parOk r
def keepIds (keep:List Nat) (st:St):List Id:=
 let a:=dedup (idsL (avsOf (pickTm st.tm keep))) []
 dedup (a++boxIds a st.ob) []
def clean2 (keep:List Nat) (st:St):St:=
 let ρ:=renum 0 (keepIds keep st)
 let nb:=bif keep.any (Nat.beq 999999)then st.ob else[]
 bif nodupId (fsts ρ)&&(nodupId (snds ρ)&&parOk ρ)then{tm:=renTm nb ρ st.tm keep,ob:=renOb nb ρ st.ob ρ}else{tm:=[],ob:=[]}
def clean (keep:List Nat) (st:St):St:=
 let tm:=pickTm st.tm keep
 let a:=dedup (idsL (avsOf tm)) []
 {tm:=tm,ob:=pickObs st.ob (dedup (a++boxIds a st.ob) [])}
def firstRegion:Code→Nat
 |.region id _ _=>id
 |.seq a _=>firstRegion a
 |.block _ c=>firstRegion c
 |.loop c=>firstRegion c
 |.cond _ _ _=>1000
 |_=>1001
def apart (sd:Id→Bool) (x y:Rec):Bool:=
 (match x.dst with
   |some d=> !(y.reads.any (Nat.beq d))&&(match y.dst with
     |some d'=> !(Nat.beq d d')
     |none=>true)
   |none=>true)&&
 ((match y.dst with
   |some d=> !(x.reads.any (Nat.beq d))
   |none=>true)&&
 (disjI x.writes y.writes&&(disjW sd x.writes y&&(disjW sd y.writes x&&disjI y.nws x.vids))))
def after1 (acc:List (List Nat)) (o:Oper):List Nat:=o.after.toList.foldl (fun s e=>bif Region.binds .any e then e.on::(acc.getD e.on []++s)else s) []
def befores:List Oper→List (List Nat)→List (List Nat)
 |[],acc=>acc
 |o::r,acc=>befores r (acc++[after1 acc o])
def edgesOk:List Oper→Nat→Bool
 |[],_=>true
 |o::r,j=>o.after.toList.all (fun e=> !Region.binds .any e||Nat.blt e.on j)&&edgesOk r (j+1)
def maskAt (n:Nat) (acc:List Nat) (i:Nat):Nat:=bif Nat.blt i n then acc.getD (n-1-i) 0 else 0
def afterM (n:Nat) (acc:List Nat) (o:Oper):Nat:=o.after.toList.foldl (fun s e=>bif Region.binds .any e then Nat.lor (Nat.shiftLeft 1 e.on) (Nat.lor (maskAt n acc e.on) s)else s) 0
def masks:List Oper→Nat→List Nat→List Nat
 |[],_,acc=>acc
 |o::r,n,acc=>masks r (n+1) (afterM n acc o::acc)
def indepAll (sd:Id→Bool) (n:Nat) (bs:List Nat):List Rec→Bool
 |[]=>true
 |x::r=>(r.all fun y=>disjI x.nws (y.vids++y.writes)&&(Nat.testBit (maskAt n bs x.idx) y.idx||(apart sd x y&&((!x.nm||y.firm)&&(!y.nm||x.firm)))))&&indepAll sd n bs r
def orderOk (ops:List Oper) (st:St) (rs:List Rec):Bool:=
 edgesOk ops 0&&(rs.all (fun r=> !r.bad&&disjI r.nws (idsL (avsOf st.tm)++(obIds st.ob++keys st.ob)))&&indepAll (steady st rs) ops.length (masks ops 0 []) rs)
def nestCells (o:Id) (ver:Nat):Nat→List AV→Bool
 |_,[]=>true
 |c,.nest o' ver' _ col _ wh _::r=>idEq o o'&&(Nat.beq ver ver'&&(wh&&(Nat.ble c col&&nestCells o ver (col+1) r)))
 |c,.i _ _::r=>nestCells o ver c r
 |c,.b _::r=>nestCells o ver c r
 |c,.s _::r=>nestCells o ver c r
 |_,_=>false
def firstNest:List AV→Option (Id×Nat)
 |[]=>none
 |.nest o ver _ _ _ _ _::_=>some (o,ver)
 |_::r=>firstNest r
def nestOut (look:Look) (vs:List AV):Bool:=match firstNest vs with
 |some (o,ver)=>(match look o with
  |some (.row _ _ true ver' [])=>Nat.beq ver ver'
  |_=>false)&&(!isPar o&&nestCells o ver 0 vs)
 |none=>false
def outDats (look:Look):List Leaf→List AV→Option Givens
 |ls,vs=>match gives look ls vs with
  |some g=>bif g.deep&&(nodupId g.ids&& !(g.ids.any isPar))then some g else bif nestOut look vs then some g else none
  |none=>none
def parDats (look:Look) (j:Nat):Nat→List Leaf→Option (List Dat)
 |_,[]=>some []
 |c,.sl e::ls=>match look (1000000+j,c)with
  |some (.row e' rows true _ [])=>bif Nat.beq e e' then(parDats look j (c+1) ls).map (Dat.sl rows:: ·)else none
  |_=>none
 |c,_::ls=>parDats look j (c+1) ls
def resVal (E:Env) (st:St):List ResultVar→Option (List AV)
 |[]=>some []
 |.tmp t::r=>(resVal E st r).map (getT st.tm t:: ·)
 |.cell a ty::r=>match E.T ty,getT st.tm a with
  |some ti,.ptr o _ 0=>match getO st.ob o with
   |some (.box _ cs)=>bif Nat.beq cs.length ti.ls.length then(resVal E st r).map (pack ti.agg cs:: ·)else none
   |_=>none
  |_,_=>none
def mkDats:List Leaf→List AV→Option (List Dat)
 |[],[]=>some []
 |.sl e::ls,.ro e' false r::vs=>bif Nat.beq e e' then(mkDats ls vs).map (Dat.sl r:: ·)else none
 |.sl _::_,_=>none
 |l::ls,v::vs=>match toDat (fun _=>none) l v,mkDats ls vs with
  |some d,some ds=>some (d::ds)
  |_,_=>none
 |_,_=>none
def finMuts (look:Look) (rs:List TI) (vs:List AV) (ps:Option (List TI)):Option (List Dat):=
 match outDats look (joinLs rs) (flats vs),ps with
 |some g,some ps=>bif hasSl (joinLs rs)then none else(parDats look 0 0 (joinLs ps)).map (g.ds++ ·)
 |_,_=>none
def finCur (E:Env) (look:Look) (rs:List TI) (vs:List AV) (pt:TypeId):Option (List Dat):=
 match outDats look (joinLs rs) (flats vs),E.T pt,look (1000000,0)with
 |some g,some ti,some (.box _ cells)=>(mkDats ti.ls cells).map (g.ds++ ·)
 |_,_,_=>none
def ioCells (E:Env) (ob:List (Id×Obj)):Nat→List Sty→Option (List Leaf×List AV)
 |_,[]=>some ([],[])
 |j,.io t::ss=>match E.T t,getO ob (2000000+j,0),ioCells E ob (j+1) ss with
  |some ti,some (.box _ cells),some (ls,cs)=>bif Nat.beq cells.length ti.ls.length then some (ti.ls++ls,cells++cs)else none
  |_,_,_=>none
 |j,_::ss=>ioCells E ob (j+1) ss
def finGen (E:Env) (ob:List (Id×Obj)) (j:Nat) (rs:List TI) (vs:List AV) (ss:List Sty):Option (List Dat):=
 match ioCells E ob j ss with
 |some (ls,cs)=>match gives (getO ob) (joinLs rs++ls) (flats vs++cs)with
  |some g=>bif g.deep&&(nodupId g.ids&& !(g.ids.any isPar))then some g.ds else none
  |none=>none
 |none=>none
def isBox:Option Obj→Bool
 |some (.box _ _)=>true
 |_=>false
def anyBox (ob:List (Id×Obj)):Nat→List Sty→Bool
 |_,[]=>false
 |j,.io _::ss=>isBox (getO ob (2000000+j,0))||anyBox ob (j+1) ss
 |j,_::ss=>anyBox ob (j+1) ss
def finGens (E:Env) (ob:List (Id×Obj)) (rs:List TI) (vs:List AV):Nat→List (List Sty)→Option (List Dat)
 |_,[]=>none
 |i,ss::r=>bif anyBox ob (1000*i) ss then(bif Nat.ble ss.length 1000 then finGen E ob (1000*i) rs vs ss else none)else finGens E ob rs vs (i+1) r
def finish (E:Env) (f:FuncId) (fn:Func) (st:St):Option (List Dat):=
 match E.mode f with
 |.mk pt=>match resVal E st fn.results.toList,E.T pt with
  |some [.ptr o _ 0],some ti=>match getO st.ob o with
   |some (.box _ cells)=>mkDats ti.ls cells
   |_=>none
  |_,_=>none
 |m=>match lsOf E fn.resultTypes.toList,resVal E st fn.results.toList with
  |some rs,some vs=>bif argsFit rs vs&&allSolid vs then match m with
   |.gen ss=>finGen E st.ob 0 rs vs ss
   |.gens alts=>finGens E st.ob rs vs 0 alts
   |.cur pt=>finCur E (getO st.ob) rs vs pt
   |.capt pt=>finCur E (getO st.ob) rs vs pt
   |.muts=>finMuts (getO st.ob) rs vs (lsOf E fn.params.toList)
   |.sorts _=>finMuts (getO st.ob) rs vs (lsOf E fn.params.toList.dropLast)
   |_=>match outDats (getO st.ob) (joinLs rs) (flats vs)with
    |some g=>some g.ds
    |none=>none
   else none
  |_,_=>none
def mutInit:Nat→List Leaf→List Dat→List AV
 |_,[],_=>[]
 |c,.sl _::ls,ds=>.own (1000000,c)::mutInit (c+1) ls ds.tail
 |c,l::ls,ds=>datAV false l (ds.headD default)::mutInit (c+1) ls ds.tail
def mutObjs:Nat→List Leaf→List Dat→List (Id×Obj)
 |_,[],_=>[]
 |c,.sl e::ls,ds=>((1000000,c),.row e (ds.headD default).rows true 0 [])::mutObjs (c+1) ls ds.tail
 |c,_::ls,ds=>mutObjs (c+1) ls ds.tail
def numbered:Nat→List AV→List (Nat×AV)
 |_,[]=>[]
 |i,v::r=>(i,v)::numbered (i+1) r
structure GInit where
 avs:List AV
 objs:List (Id×Obj)
 dead:List (Id×Obj)
 boxs:List (Id×Obj)
def genInit (E:Env):Nat→List Sty→List Dat→Option GInit
 |_,[],_=>some ⟨[],[],[],[]⟩
 |j,.rd t::ss,ds=>match E.T t with
  |some ti=>match genInit E (j+1) ss (ds.drop ti.ls.length)with
   |some g=>some ⟨pack ti.agg (datAVs false ti.ls ds)::g.avs,g.objs,g.dead,g.boxs⟩
   |none=>none
  |none=>none
 |j,.tk t::ss,ds=>match E.T t with
  |some ti=>match genInit E (j+1) ss (ds.drop ti.ls.length)with
   |some g=>some ⟨pack ti.agg (resAVs (900000+j) 0 ti.ls ds)::g.avs,resObjs (900000+j) 0 ti.ls ds++g.objs,g.dead,g.boxs⟩
   |none=>none
  |none=>none
 |j,.io t::ss,ds=>match E.T t with
  |some ti=>match genInit E (j+1) ss (ds.drop ti.ls.length)with
   |some g=>some ⟨.ptr (2000000+j,0) 0 0::g.avs,resObjs (900000+j) 0 ti.ls ds++g.objs,((2000000+j,0),.box t (deads ti.ls))::g.dead,((2000000+j,0),.box t (resAVs (900000+j) 0 ti.ls ds))::g.boxs⟩
   |none=>none
  |none=>none
 |j,.fn f n::ss,ds=>match genInit E (j+1) ss ds with
  |some g=>bif Nat.ble n g.avs.length then some ⟨.fn f (g.avs.take n)::g.avs.drop n,g.objs,g.dead,g.boxs⟩else none
  |none=>none
def init (E:Env) (f:FuncId) (fn:Func) (ds:List Dat):Option St:=
 match E.mode f with
 |.muts=>match lsOf E fn.params.toList with
  |some ps=>some {tm:=numbered 0 (packAll ps (mutInit 0 (joinLs ps) ds)),ob:=mutObjs 0 (joinLs ps) ds}
  |none=>none
 |.cur pt=>match E.T pt,lsOf E (fn.params.toList.drop 1)with
  |some ti,some ps=>bif Nat.blt 0 fn.params.size then some {tm:=(0,.ptr (1000000,0) 0 0)::numbered 1 (packAll ps (datAVs false (joinLs ps) (ds.drop ti.ls.length))),ob:=[((1000000,0),.box pt (datAVs false ti.ls ds))]}else none
  |_,_=>none
 |.capt pt=>match E.T pt,lsOf E fn.params.toList with
  |some ti,some ps=>bif Nat.blt fn.params.size fn.ntmps then some {tm:=numbered 0 (packAll ps (datAVs false (joinLs ps) (ds.drop ti.ls.length))++[.ptr (1000000,0) 0 0]),ob:=[((1000000,0),.box pt (datAVs false ti.ls ds))]}else none
  |_,_=>none
 |.sorts g=>match lsOf E fn.params.toList.dropLast with
  |some ps=>bif Nat.blt 0 fn.params.size then some {tm:=numbered 0 (packAll ps (mutInit 0 (joinLs ps) ds)++[.fn g []]),ob:=mutObjs 0 (joinLs ps) ds}else none
  |none=>none
 |.gens alts=>match ds with
  |.int (.ofNat i)::r=>match alts[i]? with
   |some ss=>match genInit E (1000*i) ss r with
    |some g=>bif Nat.blt (1000*i+ss.length) 100000&&(Nat.ble ss.length 1000&&Nat.ble g.avs.length fn.ntmps)then some {tm:=numbered 0 g.avs,ob:=upAll g.boxs (upAll g.objs g.dead)}else none
    |none=>none
   |none=>none
  |_=>none
 |.gen ss=>match genInit E 0 ss ds with
  |some g=>bif Nat.blt ss.length 100000&&Nat.ble g.avs.length fn.ntmps then some {tm:=numbered 0 g.avs,ob:=upAll g.boxs (upAll g.objs g.dead)}else none
  |none=>none
 |_=>match lsOf E fn.params.toList with
  |some ps=>some {tm:=numbered 0 (packAll ps (datAVs false (joinLs ps) ds)),ob:=[]}
  |none=>none
def runN (E:Env) (f:FuncId) (fn:Func) (again:List Item→St→Option (List Dat)) (call:FuncId→List Dat→Option (List Dat)):
  Nat→List Item→St→Option (List Dat)
 |0,_,_=>none
 |n+1,items,st=>match items with
  |[]=>finish E f fn st
  |.code .ret::_=>finish E f fn st
  |.code .skip::r=>runN E f fn again call n r st
  |.inBlock _::r=>runN E f fn again call n r st
  |.code (.seq a b)::r=>runN E f fn again call n (.code a::.code b::r) st
  |.code (.cond c x y)::r=>match ev st.tm c with
   |.b t=>bif t then runN E f fn again call n (.code x::r) st else runN E f fn again call n (.code y::r) st
   |_=>none
  |.code (.block id c)::r=>runN E f fn again call n (.code c::.inBlock id::r) st
  |.code (.loop c)::r=>again (.inLoop c::r) (clean2 (E.keep f (firstRegion c)) st)
  |.inLoop c::r=>again (.inLoop c::r) (clean2 (E.keep f (firstRegion c)) st)
  |.code (.exit id)::r=>match exitTo id r with
   |some r'=>runN E f fn again call n r' st
   |none=>none
  |.code (.region _ ops draw)::r=>runOps E fn.ntmps call ops.toList (fun rs st'=>bif !draw||orderOk ops.toList st rs then runN E f fn again call n r st' else none) ops.toList 0 [] st
  |_=>none
def budget:Nat:=1000000
def level (E:Env):Nat→(FuncId→List Dat→Option (List Dat))×(FuncId→List Item→St→Option (List Dat))
 |0=>(fun _ _=>none,fun _ _ _=>none)
 |k+1=>
  (fun f ds=>match E.X f with
   |some g=>g ds
   |none=>match E.F f with
    |none=>none
    |some fn=>match fn.body,init E f fn ds with
     |some c,some st=>runN E f fn ((level E k).2 f) (level E k).1 budget [.code c] st
     |_,_=>none,
     fun f items st=>match E.F f,items with
   |some fn,.inLoop c::r=>runN E f fn ((level E k).2 f) (level E k).1 budget (.code c::.inLoop c::r) st
   |_,_=>none)
def icall (E:Env) (k:Nat) (f:FuncId) (ds:List Dat):Option (List Dat):=(level E k).1 f ds
end Go.Proofs.YtnihikajdbcoaaaGreat.Vai
namespace Go.Proofs.YtnihikajdbcoaaaGreat.Vai
open Go
def zeroV:Leaf→Value
 |.int k=>.int k 0
 |.bool=>.bool false
 |.str=>.string ⟨#[]⟩
 |.sl _=>.slice none 0 0
def descOf:Leaf→TypeDesc
 |.int k=>.int k
 |.bool=>.bool
 |.str=>.string
 |.sl e=>.slice e
structure TOk (P:Program) (E:Env) (t:TypeId) (ti:TI):Prop where
 info:∃i,P.info? t=some i∧i.size=ti.ls.length∧i.bytes=ti.by_∧
  i.zero=some (if ti.agg then .agg (ti.ls.map zeroV).toArray else zeroV (ti.ls.headD .bool))
 desc:if ti.agg then(∃fields:Array Field,P.underlying t=some (.struct fields))∨(∃(n:Nat) (e:TypeId),P.underlying t=some (.array n e))
  else∃l,ti.ls=[l]∧P.underlying t=some (descOf l)
 pos:0<ti.ls.length∧0<ti.by_
 elem:∀e,Leaf.sl e∈ti.ls→∃te,E.T e=some te
 fld:∀(f fo:Nat) (ft:TypeId),ti.fs[f]?=some (fo,ft)→∃fi,E.T ft=some fi∧fo+fi.ls.length≤ti.ls.length
def flatB (bs:Nat→Nat→List Nat) (n sz:Nat):List Nat:=(List.range n).flatMap fun j=>(List.range sz).flatMap fun i=>bs j i
theorem Z2 {bs:Nat→Nat→List Nat} {n sz b:Nat}:b∈flatB bs n sz↔∃j i,j<n∧i<sz∧b∈bs j i:=by
 simp only[flatB,List.mem_flatMap,List.mem_range]
 constructor
 ·rintro ⟨j,hj,i,hi,h⟩;exact⟨j,i,hj,hi,h⟩
 ·rintro ⟨j,i,hj,hi,h⟩;exact⟨j,hj,i,hi,h⟩
inductive RD (E:Env) (w:World) (S:Nat→Prop):Leaf→Dat→Value→Prop
 |int (k:IntKind) (d:Dat):RD E w S (.int k) d (.int k d.n)
 |bool (d:Dat):RD E w S .bool d (.bool d.b)
 |str (d:Dat):RD E w S .str d (.string d.s)
 |sl (e:TypeId) (te:TI) (d:Dat) (A:Option Addr) (c:Nat) (u:Nat→Nat→Value) (ht:E.T e=some te) (hc:d.rows.length≤c)
   (hl:∀(j:Nat) (r:List Dat),d.rows[j]?=some r→r.length=te.ls.length)
   (hm:∀j i:Nat,j<d.rows.length→i<te.ls.length→∃ad:Addr,A=some ad∧ad.spot=none∧S ad.block∧
    w.cell? ⟨ad.block,ad.off+(j*te.ls.length+i),none⟩=some (u j i))
   (hr:∀(j i:Nat) (r:List Dat) (l:Leaf),d.rows[j]?=some r→te.ls[i]?=some l→RD E w S l (r.getD i default) (u j i)):
   RD E w S (.sl e) d (.slice A d.rows.length c)
theorem ZD {w w':World} {a:Addr} (h:w'.heap[a.block]?=w.heap[a.block]?):w'.cell? a=w.cell? a:=by
 unfold World.cell?
 rw[h]
theorem RD.frame {E:Env} {w w':World} {S S':Nat→Prop} {l:Leaf} {d:Dat} {v:Value} (h:RD E w S l d v)
  (hw:∀b,S b→w'.heap[b]?=w.heap[b]?) (hS:∀b,S b→S' b):RD E w' S' l d v:=by
 induction h with
 |int k d=>exact .int k d
 |bool d=>exact .bool d
 |str d=>exact .str d
 |sl e te d A c u ht hc hl hm hr ih=>
  refine .sl e te d A c u ht hc hl (fun j i hj hi=>?_) (fun j i r l h1 h2=>ih j i r l h1 h2)
  obtain⟨ad,h1,h2,h3,h4⟩:=hm j i hj hi
  exact⟨ad,h1,h2,hS _ h3,(ZD (a:=⟨ad.block,ad.off+(j*te.ls.length+i),none⟩) (hw _ h3)).trans h4⟩
theorem RD.mono {E:Env} {w:World} {S S':Nat→Prop} {l:Leaf} {d:Dat} {v:Value} (h:RD E w S l d v) (hS:∀b,S b→S' b):RD E w S' l d v:=
 h.frame (fun _ _=>rfl) hS
def oneV (v:Value):Prop:=(∀cs,v≠.agg cs)∧∀vs,v≠.tuple vs
theorem ZO {v:Value} (h:oneV v):v.cells= #[v]:=by
 cases v<;>first|rfl|exact absurd rfl (h.1 _)
theorem RD.one {E:Env} {w:World} {S:Nat→Prop} {l:Leaf} {d:Dat} {v:Value} (h:RD E w S l d v):oneV v:=by
 cases h<;>exact⟨(fun _ h=>by cases h),(fun _ h=>by cases h)⟩
theorem RD.sl_dat {E:Env} {w:World} {S:Nat→Prop} {e:TypeId} {d d':Dat} {v:Value} (h:RD E w S (.sl e) d v) (hd:d'.rows=d.rows):RD E w S (.sl e) d' v:=by
 cases h with
 |sl _ te _ A c u ht hc hl hm hr=>rw[←hd];exact .sl e te d' A c u ht (hd▸hc) (hd▸hl) (hd▸hm) (hd▸hr)
inductive OT (E:Env) (w:World):Leaf→Dat→Value→List Nat→Prop
 |int (k:IntKind) (d:Dat):OT E w (.int k) d (.int k d.n) []
 |bool (d:Dat):OT E w .bool d (.bool d.b) []
 |str (d:Dat):OT E w .str d (.string d.s) []
 |nil (e:TypeId) (te:TI) (d:Dat) (ht:E.T e=some te) (h:d.rows=[]):OT E w (.sl e) d (.slice none 0 0) []
 |row (e:TypeId) (te:TI) (d:Dat) (g off c:Nat) (arr:Array Value) (u:Nat→Nat→Value) (bs:Nat→Nat→List Nat) (ht:E.T e=some te)
   (hb:w.heap[g]?=some (.cells arr e (0,0))) (hc:d.rows.length≤c) (hs:off+c*te.ls.length≤arr.size)
   (hl:∀(j:Nat) (r:List Dat),d.rows[j]?=some r→r.length=te.ls.length)
   (hm:∀j i:Nat,j<d.rows.length→i<te.ls.length→arr[off+(j*te.ls.length+i)]?=some (u j i))
   (hr:∀(j i:Nat) (r:List Dat) (l:Leaf),d.rows[j]?=some r→te.ls[i]?=some l→OT E w l (r.getD i default) (u j i) (bs j i)):
   OT E w (.sl e) d (.slice (some ⟨g,off,none⟩) d.rows.length c) (g::flatB bs d.rows.length te.ls.length)
theorem OT.frame {E:Env} {w w':World} {l:Leaf} {d:Dat} {v:Value} {bs:List Nat} (h:OT E w l d v bs)
  (hw:∀b∈bs,w'.heap[b]?=w.heap[b]?):OT E w' l d v bs:=by
 induction h with
 |int k d=>exact .int k d
 |bool d=>exact .bool d
 |str d=>exact .str d
 |nil e te d ht h=>exact .nil e te d ht h
 |row e te d g off c arr u bs ht hb hc hs hl hm hr ih=>
  refine .row e te d g off c arr u bs ht ((hw g (by simp)).trans hb) hc hs hl hm (fun j i r l h1 h2=>ih j i r l h1 h2 (fun b hb'=>hw b ?_))
  have hj:j<d.rows.length:=(List.getElem?_eq_some_iff.mp h1).1
  have hi:i<te.ls.length:=(List.getElem?_eq_some_iff.mp h2).1
  exact List.mem_cons_of_mem _ (Z2.mpr ⟨j,i,hj,hi,hb'⟩)
theorem OT.rd {E:Env} {w:World} {S:Nat→Prop} {l:Leaf} {d:Dat} {v:Value} {bs:List Nat} (h:OT E w l d v bs) (hS:∀b∈bs,S b):RD E w S l d v:=by
 induction h with
 |int k d=>exact .int k d
 |bool d=>exact .bool d
 |str d=>exact .str d
 |nil e te d ht h=>
  have hn:(0:Nat)=d.rows.length:=by rw[h];rfl
  have:=RD.sl (E:=E) (w:=w) (S:=S) e te d none 0 (fun _ _=>undef) ht (by omega) (by rw[h];intro j r hj;simp at hj) (fun j i hj=>by omega) (by rw[h];intro j i r l hj;simp at hj)
  rw[←hn]at this
  exact this
 |row e te d g off c arr u bs ht hb hc hs hl hm hr ih=>
  refine .sl e te d _ c u ht hc hl (fun j i hj hi=>⟨⟨g,off,none⟩,rfl,rfl,hS g (by simp),?_⟩) (fun j i r l h1 h2=>ih j i r l h1 h2 (fun b hb'=>hS b ?_))
  ·simp only[World.cell?,hb]
   simpa using hm j i hj hi
  ·exact List.mem_cons_of_mem _ (Z2.mpr ⟨j,i,(List.getElem?_eq_some_iff.mp h1).1,(List.getElem?_eq_some_iff.mp h2).1,hb'⟩)
theorem OT.lt {E:Env} {w:World} {l:Leaf} {d:Dat} {v:Value} {bs:List Nat} (h:OT E w l d v bs):∀b∈bs,b<w.heap.size:=by
 induction h with
 |int k d=>intro b hb;cases hb
 |bool d=>intro b hb;cases hb
 |str d=>intro b hb;cases hb
 |nil e te d ht h=>intro b hb;cases hb
 |row e te d g off c arr u bs ht hb hc hs hl hm hr ih=>
  intro b hb'
  rcases List.mem_cons.mp hb' with rfl|hb'
  ·exact(Array.getElem?_eq_some_iff.mp hb).1
  ·obtain⟨j,i,hj,hi,hm'⟩:=Z2.mp hb'
   exact ih j i _ _ (List.getElem?_eq_getElem hj) (List.getElem?_eq_getElem hi) b hm'
theorem OT.one {E:Env} {w:World} {l:Leaf} {d:Dat} {v:Value} {bs:List Nat} (h:OT E w l d v bs):oneV v:=by
 cases h<;>exact⟨(fun _ h=>by cases h),(fun _ h=>by cases h)⟩
theorem OT.sl_dat {E:Env} {w:World} {e:TypeId} {d d':Dat} {v:Value} {bs:List Nat} (h:OT E w (.sl e) d v bs) (h4:d'.rows=d.rows):OT E w (.sl e) d' v bs:=by
 cases h with
 |nil _ te d ht h=>exact .nil e te d' ht (h4.trans h)
 |row _ te d g off c arr u bs ht hb hc hs hl hm hr=>
  rw[←h4]
  exact .row e te d' g off c arr u bs ht hb (h4▸hc) hs (h4▸hl) (h4▸hm) (h4▸hr)
end Go.Proofs.YtnihikajdbcoaaaGreat.Vai
namespace Go.Proofs.YtnihikajdbcoaaaGreat.Vai
open Go
structure Gh where
 root:Id→Value
 top:Id→List Nat
 ins:Id→List Nat
 F:List Nat
def Win (sz m:Nat) (root:Value) (lo n:Int) (v:Value):Prop:=
 0≤lo∧0≤n∧lo+n≤(m:Int)∧∃A' c',v=.slice A' n.toNat c'∧match root with
  |.slice none _ _=>A'=none∧c'=0∧m=0
  |.slice (some ad) _ c=>∃off',A'=some ⟨ad.block,off',none⟩∧lo.toNat+c'=c∧n.toNat≤c'∧(c'=0∨off'=ad.off+lo.toNat*sz)∧off'+c'*sz≤ad.off+c*sz
  |_=>False
def isHole (holes:List (Int×Nat)) (j i:Nat):Prop:=∃r:Int,(r,i)∈holes∧r.toNat=j
def PtrR (E:Env) (G:Gh) (ob:List (Id×Obj)) (o:Id) (row:Int) (off:Nat) (v:Value):Prop:=
 (∀t cells,getO ob o=some (.box t cells)→row=0∧∃g,G.root o=.pointer (some ⟨g,0,none⟩)∧v=.pointer (some ⟨g,off,none⟩))∧
 (∀e rows dp vr h te,getO ob o=some (.row e rows dp vr h)→E.T e=some te→0≤row∧row.toNat<rows.length∧
  ∃g o0 n c,G.root o=.slice (some ⟨g,o0,none⟩) n c∧v=.pointer (some ⟨g,o0+(row.toNat*te.ls.length+off),none⟩))∧
 (∀kl el es,getO ob o=some (.mp kl el es)→v=G.root o)
def NestR (E:Env) (w:World) (G:Gh) (ob:List (Id×Obj)) (o:Id) (ver:Nat) (row:Int) (col:Nat) (e:TypeId) (whole:Bool) (v:Value):Prop:=
 (∀eo rows dp vr h,getO ob o=some (.row eo rows dp vr h)→ver≤vr)∧∀eo rows vr h te,getO ob o=some (.row eo rows true vr h)→vr=ver→(∀r,(r,col)∉h)→E.T eo=some te→
  0≤row∧te.ls[col]?=some (.sl e)∧∃r g o0 n c x,rows[row.toNat]?=some r∧G.root o=.slice (some ⟨g,o0,none⟩) n c∧
   w.cell? ⟨g,o0+(row.toNat*te.ls.length+col),none⟩=some x∧
   (whole=true→v=x)∧∃lo n' te',E.T e=some te'∧Win te'.ls.length (r.getD col default).rows.length x lo n' v
inductive VR (E:Env) (w:World) (S0:Nat→Prop) (G:Gh) (ob:List (Id×Obj)):AV→Value→Prop
 |dead (v:Value):VR E w S0 G ob .dead v
 |i (k:IntKind) (n:Int):VR E w S0 G ob (.i k n) (.int k n)
 |b (x:Bool):VR E w S0 G ob (.b x) (.bool x)
 |s (x:ByteArray):VR E w S0 G ob (.s x) (.string x)
 |nil:VR E w S0 G ob .nil (.slice none 0 0)
 |agg (cs:List AV) (arr:Array Value) (hl:cs.length=arr.size) (h:∀(i:Nat) (v:AV) (x:Value),cs[i]?=some v→arr[i]?=some x→VR E w S0 G ob v x)
   (h1:∀(i:Nat) (x:Value),arr[i]?=some x→oneV x):VR E w S0 G ob (.agg cs) (.agg arr)
 |tup (vs:List AV) (arr:Array Value) (hl:vs.length=arr.size) (h:∀(i:Nat) (v:AV) (x:Value),vs[i]?=some v→arr[i]?=some x→VR E w S0 G ob v x):
   VR E w S0 G ob (.tup vs) (.tuple arr)
 |fn (f:FuncId) (vs:List AV) (arr:Array Value) (hl:vs.length=arr.size) (h:∀(i:Nat) (v:AV) (x:Value),vs[i]?=some v→arr[i]?=some x→VR E w S0 G ob v x):
   VR E w S0 G ob (.fn f vs) (.func (.func f) #[] arr)
 |ro (e:TypeId) (al:Bool) (rows:List (List Dat)) (v:Value) (h:RD E w (fun b=>S0 b∨(al=true∧b∈G.F)) (.sl e) (.sl rows) v):VR E w S0 G ob (.ro e al rows) v
 |own (o:Id) (v:Value) (h:∀e rows dp vr h,getO ob o=some (.row e rows dp vr h)→v=G.root o) (h1:oneV v):VR E w S0 G ob (.own o) v
 |vw (o:Id) (lo n:Int) (v:Value) (h:∀e rows dp vr h te,getO ob o=some (.row e rows dp vr h)→E.T e=some te→Win te.ls.length rows.length (G.root o) lo n v) (h1:oneV v):
   VR E w S0 G ob (.vw o lo n) v
 |nest (o:Id) (ver:Nat) (row:Int) (col:Nat) (e:TypeId) (whole:Bool) (rows:List (List Dat)) (v:Value)
   (h:RD E w (fun b=>S0 b∨b∈G.F) (.sl e) (.sl rows) v) (hn:NestR E w G ob o ver row col e whole v):VR E w S0 G ob (.nest o ver row col e whole rows) v
 |ptr (o:Id) (row:Int) (off:Nat) (v:Value) (h:PtrR E G ob o row off v) (h1:oneV v):VR E w S0 G ob (.ptr o row off) v
 |pro (e:TypeId) (te:TI) (al:Bool) (cells:List Dat) (off g o0:Nat) (u:Nat→Value) (ht:E.T e=some te) (hl:cells.length=te.ls.length)
   (hm:∀i,i<te.ls.length→(S0 g∨(al=true∧g∈G.F))∧w.cell? ⟨g,o0+i,none⟩=some (u i))
   (hr:∀(i:Nat) (l:Leaf),te.ls[i]?=some l→RD E w (fun b=>S0 b∨(al=true∧b∈G.F)) l (cells.getD i default) (u i)):
   VR E w S0 G ob (.pro e al cells off) (.pointer (some ⟨g,o0+off,none⟩))
def RowR (E:Env) (w:World) (S:Nat→Prop) (e:TypeId) (rows:List (List Dat)) (deep:Bool) (holes:List (Int×Nat)) (root:Value) (top ins:List Nat):Prop:=
 ∃te,E.T e=some te∧(∀(j:Nat) (r:List Dat),rows[j]?=some r→r.length=te.ls.length)∧
  ((root=.slice none 0 0∧rows=[]∧top=[]∧ins=[])∨
     ∃(g off c:Nat) (arr:Array Value) (u:Nat→Nat→Value) (bs:Nat→Nat→List Nat),
   root=.slice (some ⟨g,off,none⟩) rows.length c∧top=[g]∧w.heap[g]?=some (.cells arr e (0,0))∧rows.length≤c∧off+c*te.ls.length≤arr.size∧
   (∀j i:Nat,j<rows.length→i<te.ls.length→arr[off+(j*te.ls.length+i)]?=some (u j i)∧oneV (u j i))∧
   (∀(j i:Nat) (r:List Dat) (l:Leaf),rows[j]?=some r→te.ls[i]?=some l→¬isHole holes j i→
    if deep then OT E w l (r.getD i default) (u j i) (bs j i)else RD E w S l (r.getD i default) (u j i))∧
   (deep=true→ins=flatB bs rows.length te.ls.length)∧(deep=false→ins=[])∧(∀j i,isHole holes j i→bs j i=[]))
def BoxR (E:Env) (w:World) (S0:Nat→Prop) (G:Gh) (ob:List (Id×Obj)) (cells:List AV) (root:Value) (top ins:List Nat):Prop:=
 ∃(g:Nat) (arr:Array Value) (et:TypeId),root=.pointer (some ⟨g,0,none⟩)∧top=[g]∧ins=[]∧w.heap[g]?=some (.cells arr et (0,0))∧arr.size=cells.length∧
  ∀(i:Nat) (v:AV) (x:Value),cells[i]?=some v→arr[i]?=some x→VR E w S0 G ob v x∧oneV x
def leafV:Leaf→Dat→Value
 |.int k,d=>.int k d.n
 |.bool,d=>.bool d.b
 |.str,d=>.string d.s
 |.sl _,_=>undef
def MapR (w:World) (kl el:Leaf) (es:List (Dat×Dat)) (root:Value) (top ins:List Nat):Prop:=
 ∃(g:Nat) (arr:Array MapEntry) (ck:Nat),root=.map (some g)∧top=[g]∧ins=[]∧w.heap[g]?=some (.map arr ck)∧arr.toList.map (fun e=>(e.key,e.val))=es.map fun p=>(leafV kl p.1,leafV el p.2)
theorem MapR.frame {w w':World} {kl el:Leaf} {es:List (Dat×Dat)} {root:Value} {top ins:List Nat} (h:MapR w kl el es root top ins) (ht:∀b∈top,w'.heap[b]?=w.heap[b]?):MapR w' kl el es root top ins:=by
 obtain⟨g,arr,ck,h1,h2,h3,h4,h5⟩:=h
 exact⟨g,arr,ck,h1,h2,h3,(ht g (by rw[h2];simp)).trans h4,h5⟩
def ObjR (E:Env) (w:World) (S0:Nat→Prop) (G:Gh) (ob:List (Id×Obj)) (o:Id):Obj→Prop
 |.row e rows deep _ holes=>RowR E w (fun b=>S0 b∨b∈G.F) e rows deep holes (G.root o) (G.top o) (G.ins o)
 |.box _ cells=>BoxR E w S0 G ob cells (G.root o) (G.top o) (G.ins o)
 |.mp kl el es=>MapR w kl el es (G.root o) (G.top o) (G.ins o)
structure Kept (base:Nat) (M:List Nat) (w0 w:World):Prop where
 size:base≤w.heap.size
 heap:∀b,b<base→b∉M→w.heap[b]?=w0.heap[b]?
 os:w.os=w0.os
 tape:w.tape=w0.tape
 output:w.output=w0.output
def FixR (R0:Id→Value) (ob:List (Id×Obj)) (w:World):Prop:=
 ∀t cells,getO ob (1000000,0)=some (.box t cells)→∀(c:Nat) (e:TypeId) (rows:List (List Dat)),cells[c]?=some (.ro e false rows)→∃g,R0 (1000000,0)=.pointer (some ⟨g,0,none⟩)∧w.cell? ⟨g,c,none⟩=some (R0 (1000001,c))
theorem FixR.map {R0:Id→Value} {ob ob':List (Id×Obj)} {w w':World} (h:FixR R0 ob w)
  (hm:∀t cells',getO ob' (1000000,0)=some (.box t cells')→∃t0 cells,getO ob (1000000,0)=some (.box t0 cells)∧∀(c:Nat) (e:TypeId) (rows:List (List Dat)),cells'[c]?=some (.ro e false rows)→cells[c]?=some (.ro e false rows))
  (hw:∀t cells,getO ob (1000000,0)=some (.box t cells)→∀g,R0 (1000000,0)=.pointer (some ⟨g,0,none⟩)→w'.heap[g]?=w.heap[g]?):FixR R0 ob' w':=fun t cells' ht c e rows hc=>by
 obtain⟨t0,cells,h0,hcc⟩:=hm t cells' ht
 obtain⟨g,h1,h2⟩:=h t0 cells h0 c e rows (hcc c e rows hc)
 exact⟨g,h1,(ZD (a:=⟨g,c,none⟩) (hw t0 cells h0 g h1)).trans h2⟩
theorem FixR.sub {R0:Id→Value} {ob ob':List (Id×Obj)} {w:World} (h:FixR R0 ob w) (hm:∀x,getO ob' (1000000,0)=some x→getO ob (1000000,0)=some x):FixR R0 ob' w:=
 h.map (fun t cells' ht=>⟨t,cells',hm _ ht,fun _ _ _ h=>h⟩) (fun _ _ _ _ _=>rfl)
theorem FixR.none {R0:Id→Value} {ob:List (Id×Obj)} {w:World} (h:∀t cells,getO ob (1000000,0)≠some (.box t cells)):FixR R0 ob w:=fun t cells ht=>absurd ht (h t cells)
theorem Z0H:isPar (1000000,0)=true:=Nat.ble_eq.mpr (Nat.le_refl 1000000)
structure RelG (E:Env) (base:Nat) (M:List Nat) (S0:Nat→Prop) (R0:Id→Value) (w0:World) (nt:Nat) (G:Gh) (st:St) (a:Act) (w:World):Prop where
 kept:Kept base M w0 w
 old:∀b,S0 b→b<base∧b∉M
 objs:∀o x,getO st.ob o=some x→ObjR E w S0 G st.ob o x
 tops:∀o x,getO st.ob o=some x→∀b∈G.top o,¬S0 b∧b∉G.F∧(base≤b∨b∈M)
 tops2:∀o x o' x',getO st.ob o=some x→getO st.ob o'=some x'→o≠o'→∀b∈G.top o,b∉G.top o'
 ins:∀o x,getO st.ob o=some x→(∀b∈G.ins o,b∈G.F)∧(G.ins o).Nodup
 ins2:∀o x o' x',getO st.ob o=some x→getO st.ob o'=some x'→o≠o'→∀b∈G.ins o,b∉G.ins o'
 F:∀b∈G.F,¬S0 b∧(base≤b∨b∈M)∧b<w.heap.size
 tmps:∀t,VR E w S0 G st.ob (getT st.tm t) (a.tmps.getD t undef)
 defers:a.defers=[]
 size:a.tmps.size=nt
 par:∀o x,isPar o=true→getO st.ob o=some x→G.root o=R0 o
 fix:FixR R0 st.ob w
def Rel (E:Env) (base:Nat) (M:List Nat) (S0:Nat→Prop) (R0:Id→Value) (w0:World) (nt:Nat) (st:St) (a:Act) (w:World):Prop:=∃G,RelG E base M S0 R0 w0 nt G st a w
theorem RelG.parTop {E:Env} {base:Nat} {M:List Nat} {S0:Nat→Prop} {R0:Id→Value} {w0:World} {nt:Nat} {G:Gh} {st:St} {a:Act} {w:World} (h:RelG E base M S0 R0 w0 nt G st a w) {t:TypeId} {cells:List AV} (ho:getO st.ob (1000000,0)=some (.box t cells)) {g:Nat} (hg:R0 (1000000,0)=.pointer (some ⟨g,0,none⟩)):g∈G.top (1000000,0):=by
 obtain⟨g',arr,et,b1,b2,_⟩:=(h.objs _ _ ho:BoxR E w S0 G st.ob cells _ _ _)
 rw[h.par _ _ Z0H ho,hg]at b1
 cases b1
 rw[b2]
 simp
theorem Z4d {a b:Nat} (h:¬a=b):Nat.beq a b=false:=by
 cases hb:Nat.beq a b with
 |false=>rfl
 |true=>exact absurd (Nat.eq_of_beq_eq_true hb) h
theorem Z3 {a b:Nat} (h:Nat.beq a b=true):a=b:=Nat.eq_of_beq_eq_true h
theorem Z5 {a b:Id}:idEq a b=true↔a=b:=by
 obtain⟨a1,a2⟩:=a
 obtain⟨b1,b2⟩:=b
 simp[idEq,Nat.beq_eq]
theorem Z9 {a b:Id}:idEq a b=false↔a≠b:=by rw[←Bool.not_eq_true,Z5]
theorem Zb (l:List (Nat×AV)) (t t':Nat) (v:AV):getT (putT l t v) t'=if t'=t then v else getT l t':=by
 induction l with
 |nil=>
  simp only[putT,getT]
  by_cases h:t'=t
  ·subst h;simp[Nat.beq_refl]
  ·have:Nat.beq t t'=false:=Z4d fun e=>h e.symm
   simp[this,h]
 |cons p l ih=>
  obtain⟨k,u⟩:=p
  simp only[putT]
  by_cases hk:Nat.beq k t=true
  ·have hk':=Nat.eq_of_beq_eq_true hk
   subst hk'
   simp only[hk,cond_true,getT]
   by_cases h:t'=k
   ·subst h;simp[Nat.beq_refl]
   ·have:Nat.beq k t'=false:=Z4d fun e=>h e.symm
    simp[this,h]
  ·have hk0:Nat.beq k t=false:=(Bool.not_eq_true _).mp hk
   simp only[hk0,cond_false,getT]
   by_cases h:Nat.beq k t'=true
   ·have h':=Nat.eq_of_beq_eq_true h
    subst h'
    have hne:¬k=t:=by simpa using hk
    simp[hne]
   ·have h0:Nat.beq k t'=false:=(Bool.not_eq_true _).mp h
    simp only[h0,cond_false]
    exact ih
theorem ZP (l:List (Id×Obj)) (o o':Id):getO (delO l o) o'=if o'=o then none else getO l o':=by
 induction l with
 |nil=>simp[delO,getO]
 |cons p l ih=>
  obtain⟨k,u⟩:=p
  simp only[delO]
  by_cases hk:idEq k o=true
  ·have hk':=Z5.mp hk
   subst hk'
   simp only[hk,cond_true,ih,getO]
   by_cases h:o'=k
   ·simp[h]
   ·have:idEq k o'=false:=Z9.mpr fun e=>h e.symm
    simp[h,this]
  ·have hk0:idEq k o=false:=by simpa using hk
   simp only[hk0,cond_false,getO]
   by_cases h:idEq k o'=true
   ·have h':=Z5.mp h
    subst h'
    have hne:¬k=o:=by rw[←Z5];exact hk
    simp[h,hne]
   ·have h0:idEq k o'=false:=by simpa using h
    simp only[h0,cond_false]
    exact ih
theorem Z1 (l:List (Id×Obj)) (o o':Id) (x:Obj):getO (setO l o x) o'=if o'=o then some x else getO l o':=by
 induction l with
 |nil=>
  simp only[setO,getO]
  by_cases h:o'=o
  ·subst h;simp[Z5.mpr rfl]
  ·have:idEq o o'=false:=Z9.mpr fun e=>h e.symm
   simp[h,this]
 |cons p l ih=>
  obtain⟨k,u⟩:=p
  simp only[setO]
  by_cases hk:idEq k o=true
  ·have hk':=Z5.mp hk
   subst hk'
   simp only[hk,cond_true,getO]
   by_cases h:o'=k
   ·subst h;simp[Z5.mpr rfl]
   ·have:idEq k o'=false:=Z9.mpr fun e=>h e.symm
    simp[h,this]
  ·have hk0:idEq k o=false:=by simpa using hk
   simp only[hk0,cond_false,getO]
   by_cases h:idEq k o'=true
   ·have h':=Z5.mp h
    subst h'
    have hne:¬k=o:=by rw[←Z5];exact hk
    simp[h,hne]
   ·have h0:idEq k o'=false:=by simpa using h
    simp only[h0,cond_false]
    exact ih
end Go.Proofs.YtnihikajdbcoaaaGreat.Vai
namespace Go.Proofs.YtnihikajdbcoaaaGreat.Vai
open Go
theorem Zo {cs:List AV} {i:Nat} {v:AV} {o:Id} (h:cs[i]?=some v) (ho:o∈idsA v):o∈idsL cs:=by
 induction cs generalizing i with
 |nil=>simp at h
 |cons c cs ih=>
  simp only[idsL,List.mem_append]
  cases i with
  |zero=>simp at h;subst h;exact .inl ho
  |succ i=>exact .inr (ih (by simpa using h))
structure Comp (Ex:Id→Prop) (E:Env) (w:World) (S0:Nat→Prop) (G:Gh) (ob:List (Id×Obj)) (w':World) (G':Gh) (ob':List (Id×Obj)):Prop where
 old:∀b,S0 b→w'.heap[b]?=w.heap[b]?
 F:∀b∈G.F,w'.heap[b]?=w.heap[b]?∧b∈G'.F
 box:∀o t cells,¬Ex o→getO ob' o=some (.box t cells)→G'.root o=G.root o∧∃t0 cells0,getO ob o=some (.box t0 cells0)
 row:∀o e rows' dp' vr' h',¬Ex o→getO ob' o=some (.row e rows' dp' vr' h')→G'.root o=G.root o∧∃rows dp vr h,getO ob o=some (.row e rows dp vr h)∧
  rows'.length=rows.length∧vr≤vr'∧(dp'=true→vr'=vr→dp=true∧(∀x∈h,x∈h')∧∀(te:TI) (j:Nat) (r:List Dat),E.T e=some te→rows[j]?=some r→
   ∃r',rows'[j]?=some r'∧∀(col:Nat) (e':TypeId),te.ls[col]?=some (.sl e')→(∀q,(q,col)∉h')→
    (r'.getD col default).rows.length=(r.getD col default).rows.length∧
    ∀g o0 n c,G.root o=.slice (some ⟨g,o0,none⟩) n c→w'.cell? ⟨g,o0+(j*te.ls.length+col),none⟩=w.cell? ⟨g,o0+(j*te.ls.length+col),none⟩)
 mp:∀o kl el es,¬Ex o→getO ob' o=some (.mp kl el es)→G'.root o=G.root o∧∃kl0 el0 es0,getO ob o=some (.mp kl0 el0 es0)
theorem PtrR.map {E:Env} {w w':World} {S0:Nat→Prop} {G G':Gh} {ob ob':List (Id×Obj)} {Ex:Id→Prop} (c:Comp Ex E w S0 G ob w' G' ob') {o:Id} {row:Int} {off:Nat} {v:Value}
  (h:PtrR E G ob o row off v) (hx:¬Ex o):PtrR E G' ob' o row off v:=by
 obtain⟨h1,h2,h3⟩:=h
 refine⟨fun t cells hg=>?_,fun e rows dp vr hh te hg ht=>?_,fun kl el es hg=>?_⟩
 ·obtain⟨hr,t0,c0,h0⟩:=c.box o t cells hx hg
  obtain⟨a,g,b,d⟩:=h1 t0 c0 h0
  exact⟨a,g,hr.trans b,d⟩
 ·obtain⟨hr,rows0,dp0,vr0,hh0,h0,hl,_⟩:=c.row o e rows dp vr hh hx hg
  obtain⟨a,b,g,o0,n,cc,d,f⟩:=h2 e rows0 dp0 vr0 hh0 te h0 ht
  exact⟨a,hl▸b,g,o0,n,cc,hr.trans d,f⟩
 ·obtain⟨hr,kl0,el0,es0,h0⟩:=c.mp o kl el es hx hg
  exact(h3 kl0 el0 es0 h0).trans hr.symm
theorem NestR.map {E:Env} {w w':World} {S0:Nat→Prop} {G G':Gh} {ob ob':List (Id×Obj)} {Ex:Id→Prop} (c:Comp Ex E w S0 G ob w' G' ob') {o:Id} {ver:Nat} {row:Int} {col:Nat} {e:TypeId} {whole:Bool} {v:Value}
  (h:NestR E w G ob o ver row col e whole v) (hx:¬Ex o):NestR E w' G' ob' o ver row col e whole v:=by
 obtain⟨hle,h⟩:=h
 refine⟨fun eo rows' dp' vr' hh' hg=>?_,fun eo rows' vr' hh' te hg hv hhole ht=>?_⟩
 ·obtain⟨_,rows,dp,vr,hh,h0,_,hv,_⟩:=c.row o eo rows' dp' vr' hh' hx hg
  exact Nat.le_trans (hle eo rows dp vr hh h0) hv
 obtain⟨hr,rows,dp,vr,hh,h0,hl,hmon,hk⟩:=c.row o eo rows' true vr' hh' hx hg
 have h00:=hle eo rows dp vr hh h0
 have hvr:vr'=vr:=by omega
 obtain⟨hdp,hsub,hcell⟩:=hk rfl hvr
 subst hdp
 obtain⟨a,b,r,g,o0,n,cc,x,h1,h2,h3,h4,lo,n',te',h5,h6⟩:=h eo rows vr hh te h0 (hvr▸hv) (fun q hq=>hhole q (hsub _ hq)) ht
 obtain⟨r',h7,h8⟩:=hcell te row.toNat r ht h1
 obtain⟨h9,h10⟩:=h8 col e b hhole
 exact⟨a,b,r',g,o0,n,cc,x,h7,hr.trans h2,(h10 g o0 n cc h2).trans h3,h4,lo,n',te',h5,h9▸h6⟩
theorem VR.map {E:Env} {w w':World} {S0:Nat→Prop} {G G':Gh} {ob ob':List (Id×Obj)} {Ex:Id→Prop} (c:Comp Ex E w S0 G ob w' G' ob') {x:AV} {v:Value}
  (h:VR E w S0 G ob x v) (hx:∀o∈idsA x,¬Ex o):VR E w' S0 G' ob' x v:=by
 induction h with
 |dead v=>exact .dead v
 |i k n=>exact .i k n
 |b x=>exact .b x
 |s x=>exact .s x
 |nil=>exact .nil
 |agg cs arr hl h h1 ih=>exact .agg cs arr hl (fun i v x hv hv'=>ih i v x hv hv' (fun o ho=>hx o (by simp only[idsA];exact Zo hv ho))) h1
 |tup vs arr hl h ih=>exact .tup vs arr hl (fun i v x hv hv'=>ih i v x hv hv' (fun o ho=>hx o (by simp only[idsA];exact Zo hv ho)))
 |fn f vs arr hl h ih=>exact .fn f vs arr hl (fun i v x hv hv'=>ih i v x hv hv' (fun o ho=>hx o (by simp only[idsA];exact Zo hv ho)))
 |ro e al rows v h=>
  refine .ro e al rows v (h.frame (fun b hb=>?_) (fun b hb=>?_))
  ·rcases hb with hb|⟨_,hb⟩
   ·exact c.old b hb
   ·exact(c.F b hb).1
  ·rcases hb with hb|⟨ha,hb⟩
   ·exact .inl hb
   ·exact .inr ⟨ha,(c.F b hb).2⟩
 |own o v h h1=>
  refine .own o v (fun e rows dp vr hh hg=>?_) h1
  obtain⟨hr,rows0,dp0,vr0,hh0,h0,_⟩:=c.row o e rows dp vr hh (hx o (by simp[idsA])) hg
  exact(h e rows0 dp0 vr0 hh0 h0).trans hr.symm
 |vw o lo n v h h1=>
  refine .vw o lo n v (fun e rows dp vr hh te hg ht=>?_) h1
  obtain⟨hr,rows0,dp0,vr0,hh0,h0,hl,_⟩:=c.row o e rows dp vr hh (hx o (by simp[idsA])) hg
  rw[hr,hl]
  exact h e rows0 dp0 vr0 hh0 te h0 ht
 |nest o ver row col e whole rows v h hn=>
  refine .nest o ver row col e whole rows v (h.frame (fun b hb=>?_) (fun b hb=>?_)) (hn.map c (hx o (by simp[idsA])))
  ·rcases hb with hb|hb
   ·exact c.old b hb
   ·exact(c.F b hb).1
  ·rcases hb with hb|hb
   ·exact .inl hb
   ·exact .inr (c.F b hb).2
 |ptr o row off v h h1=>exact .ptr o row off v (h.map c (hx o (by simp[idsA]))) h1
 |pro e te al cells off g o0 u ht hl hm hr=>
  have hg:∀b,(S0 b∨(al=true∧b∈G.F))→w'.heap[b]?=w.heap[b]?:=fun b hb=>by
   rcases hb with hb|⟨_,hb⟩
   ·exact c.old b hb
   ·exact(c.F b hb).1
  have hg':∀b,(S0 b∨(al=true∧b∈G.F))→(S0 b∨(al=true∧b∈G'.F)):=fun b hb=>by
   rcases hb with hb|⟨ha,hb⟩
   ·exact .inl hb
   ·exact .inr ⟨ha,(c.F b hb).2⟩
  refine .pro e te al cells off g o0 u ht hl (fun i hi=>?_) (fun i l hi=>(hr i l hi).frame hg hg')
  obtain⟨h1,h2⟩:=hm i hi
  exact⟨hg' _ h1,(ZD (a:=⟨g,o0+i,none⟩) (hg _ h1)).trans h2⟩
theorem RowR.frame {E:Env} {w w':World} {S S':Nat→Prop} {e:TypeId} {rows:List (List Dat)} {deep:Bool} {holes:List (Int×Nat)} {root:Value} {top ins:List Nat}
  (h:RowR E w S e rows deep holes root top ins) (ht:∀b∈top,w'.heap[b]?=w.heap[b]?) (hi:∀b∈ins,w'.heap[b]?=w.heap[b]?)
  (hS:deep=false→∀b,S b→w'.heap[b]?=w.heap[b]?) (hS':∀b,S b→S' b):RowR E w' S' e rows deep holes root top ins:=by
 obtain⟨te,h1,h2,h3⟩:=h
 refine⟨te,h1,h2,?_⟩
 rcases h3 with h3|⟨g,off,c,arr,u,bs,a1,a2,a3,a4,a5,a6,a7,a8,a9,a10⟩
 ·exact .inl h3
 ·refine .inr ⟨g,off,c,arr,u,bs,a1,a2,(ht g (by rw[a2];simp)).trans a3,a4,a5,a6,fun j i r l hj hl hh=>?_,a8,a9,a10⟩
  have:=a7 j i r l hj hl hh
  cases deep with
  |false=>simp only[Bool.false_eq_true,if_false]at this⊢;exact this.frame (hS rfl) hS'
  |true=>
   simp only[if_true]at this⊢
   refine this.frame (fun b hb=>hi b ?_)
   rw[a8 rfl]
   exact Z2.mpr ⟨j,i,(List.getElem?_eq_some_iff.mp hj).1,(List.getElem?_eq_some_iff.mp hl).1,hb⟩
theorem BoxR.map {E:Env} {w w':World} {S0:Nat→Prop} {G G':Gh} {ob ob':List (Id×Obj)} {Ex:Id→Prop} (c:Comp Ex E w S0 G ob w' G' ob') {cells:List AV} {root:Value} {top ins:List Nat}
  (h:BoxR E w S0 G ob cells root top ins) (hx:∀v∈cells,∀o∈idsA v,¬Ex o) (ht:∀b∈top,w'.heap[b]?=w.heap[b]?):BoxR E w' S0 G' ob' cells root top ins:=by
 obtain⟨g,arr,et,h1,h2,h3,h4,h5,h6⟩:=h
 refine⟨g,arr,et,h1,h2,h3,(ht g (by rw[h2];simp)).trans h4,h5,fun i v x hv hxx=>?_⟩
 obtain⟨a,b⟩:=h6 i v x hv hxx
 exact⟨a.map c (hx v (List.mem_of_getElem? hv)),b⟩
theorem Z07 (k:Id) (cs:List AV) (i:Nat):(killL k cs)[i]?=(cs[i]?).map (killA k):=by
 induction cs generalizing i with
 |nil=>simp[killL]
 |cons c cs ih=>
  cases i with
  |zero=>simp[killL]
  |succ i=>simpa[killL]using ih i
theorem Zs (k:Id) (cs:List AV):(killL k cs).length=cs.length:=by
 induction cs with
 |nil=>rfl
 |cons c cs ih=>simp[killL,ih]
theorem Z0E (k:Id) (tm:List (Nat×AV)) (t:Nat):getT (killT k tm) t=killA k (getT tm t):=by
 induction tm with
 |nil=>simp[killT,getT,killA]
 |cons p tm ih=>
  obtain⟨a,v⟩:=p
  simp only[killT,getT]
  cases Nat.beq a t
  ·simpa using ih
  ·simp
def killObj (k:Id):Obj→Obj
 |.box t cs=>.box t (killL k cs)
 |x=>x
theorem Zt (k:Id) (ob:List (Id×Obj)) (o:Id):getO (killO k ob) o=(getO ob o).map (killObj k):=by
 induction ob with
 |nil=>simp[killO,getO]
 |cons p ob ih=>
  obtain⟨a,x⟩:=p
  cases x with
  |row e rows d v h=>
   simp only[killO,getO]
   cases idEq a o
   ·simpa using ih
   ·simp[killObj]
  |box t cs=>
   simp only[killO,getO]
   cases idEq a o
   ·simpa using ih
   ·simp[killObj]
  |mp kl el es=>
   simp only[killO,getO]
   cases idEq a o
   ·simpa using ih
   ·simp[killObj]
theorem VR.kill {E:Env} {w:World} {S0:Nat→Prop} {G:Gh} {ob:List (Id×Obj)} {x:AV} {v:Value} (k:Id) (h:VR E w S0 G ob x v):VR E w S0 G ob (killA k x) v:=by
 induction h with
 |dead v=>exact .dead v
 |i k n=>exact .i k n
 |b x=>exact .b x
 |s x=>exact .s x
 |nil=>exact .nil
 |agg cs arr hl h h1 ih=>
  refine .agg _ arr ((Zs k cs).trans hl) (fun i v x hv hx=>?_) h1
  rw[Z07]at hv
  obtain⟨v0,h0,rfl⟩:=Option.map_eq_some_iff.mp hv
  exact ih i v0 x h0 hx
 |tup vs arr hl h ih=>
  refine .tup _ arr ((Zs k vs).trans hl) (fun i v x hv hx=>?_)
  rw[Z07]at hv
  obtain⟨v0,h0,rfl⟩:=Option.map_eq_some_iff.mp hv
  exact ih i v0 x h0 hx
 |fn f vs arr hl h ih=>
  refine .fn f _ arr ((Zs k vs).trans hl) (fun i v x hv hx=>?_)
  rw[Z07]at hv
  obtain⟨v0,h0,rfl⟩:=Option.map_eq_some_iff.mp hv
  exact ih i v0 x h0 hx
 |ro e al rows v h=>exact .ro e al rows v h
 |own o v h h1=>
  simp only[killA]
  cases idEq k o
  ·exact .own o v h h1
  ·exact .dead v
 |vw o lo n v h h1=>
  simp only[killA]
  cases idEq k o
  ·exact .vw o lo n v h h1
  ·exact .dead v
 |nest o ver row col e whole rows v h hn=>
  simp only[killA]
  cases idEq k o
  ·exact .nest o ver row col e whole rows v h hn
  ·exact .ro e true rows v (h.mono fun b hb=>hb.imp id fun h=>⟨rfl,h⟩)
 |ptr o row off v h h1=>
  simp only[killA]
  cases idEq k o
  ·exact .ptr o row off v h h1
  ·exact .dead v
 |pro e te al cells off g o0 u ht hl hm hr=>exact .pro e te al cells off g o0 u ht hl hm hr
mutual
theorem kill_ids (k:Id):∀(v:AV),(∀o∈idsA (killA k v),o∈idsA v)∧k∉idsA (killA k v)
 |.dead=>⟨fun _ h=>h,by simp[killA,idsA]⟩
 |.i _ _=>⟨fun _ h=>h,by simp[killA,idsA]⟩
 |.b _=>⟨fun _ h=>h,by simp[killA,idsA]⟩
 |.s _=>⟨fun _ h=>h,by simp[killA,idsA]⟩
 |.nil=>⟨fun _ h=>h,by simp[killA,idsA]⟩
 |.agg cs=>by simpa only[killA,idsA]using kill_idsL k cs
 |.tup cs=>by simpa only[killA,idsA]using kill_idsL k cs
 |.fn _ cs=>by simpa only[killA,idsA]using kill_idsL k cs
 |.ro _ _ _=>⟨fun _ h=>h,by simp[killA,idsA]⟩
 |.own o=>by
  simp only[killA]
  cases h:idEq k o
  ·exact⟨fun _ h=>h,by simp only[cond_false,idsA,List.mem_singleton];exact Z9.mp h⟩
  ·exact⟨fun _ h=>by simp[idsA]at h,by simp[idsA]⟩
 |.vw o _ _=>by
  simp only[killA]
  cases h:idEq k o
  ·exact⟨fun _ h=>h,by simp only[cond_false,idsA,List.mem_singleton];exact Z9.mp h⟩
  ·exact⟨fun _ h=>by simp[idsA]at h,by simp[idsA]⟩
 |.nest o _ _ _ _ _ _=>by
  simp only[killA]
  cases h:idEq k o
  ·exact⟨fun _ h=>h,by simp only[cond_false,idsA,List.mem_singleton];exact Z9.mp h⟩
  ·exact⟨fun _ h=>by simp[idsA]at h,by simp[idsA]⟩
 |.ptr o _ _=>by
  simp only[killA]
  cases h:idEq k o
  ·exact⟨fun _ h=>h,by simp only[cond_false,idsA,List.mem_singleton];exact Z9.mp h⟩
  ·exact⟨fun _ h=>by simp[idsA]at h,by simp[idsA]⟩
 |.pro _ _ _ _=>⟨fun _ h=>h,by simp[killA,idsA]⟩
theorem kill_idsL (k:Id):∀(cs:List AV),(∀o∈idsL (killL k cs),o∈idsL cs)∧k∉idsL (killL k cs)
 |[]=>⟨fun _ h=>h,by simp[killL,idsL]⟩
 |v::r=>by
  obtain⟨a,b⟩:=kill_ids k v
  obtain⟨c,d⟩:=kill_idsL k r
  simp only[killL,idsL,List.mem_append]
  exact⟨fun o h=>h.imp (a o) (c o),fun h=>h.elim b d⟩
end
def NoRef (k:Id) (st:St):Prop:=
 (∀t,k∉idsA (getT st.tm t))∧(∀o t cells,getO st.ob o=some (.box t cells)→k∉idsL cells)∧getO st.ob k=none∧isPar k=false
section
variable {E:Env} {base:Nat} {M:List Nat} {S0:Nat→Prop} {R0:Id→Value} {w0:World} {nt:Nat} {G:Gh} {st:St} {a:Act} {w:World}
theorem Comp.less {ob ob':List (Id×Obj)} (h:∀o x,getO ob' o=some x→∃y,getO ob o=some y∧(x=y∨∃t cs cs',y=.box t cs∧x=.box t cs')):
  Comp (fun _=>False) E w S0 G ob w G ob' where
 old:=fun _ _=>rfl
 F:=fun b hb=>⟨rfl,hb⟩
 box:=fun o t cells _ hg=>by
  obtain⟨y,hy,hxy⟩:=h o _ hg
  refine⟨rfl,?_⟩
  rcases hxy with rfl|⟨t',cs,cs',rfl,hx⟩
  ·exact⟨t,cells,hy⟩
  ·exact⟨t',cs,hy⟩
 row:=fun o e rows dp vr hh _ hg=>by
  obtain⟨y,hy,hxy⟩:=h o _ hg
  refine⟨rfl,?_⟩
  rcases hxy with rfl|⟨t',cs,cs',rfl,hx⟩
  ·exact⟨rows,dp,vr,hh,hy,rfl,Nat.le_refl _,fun hd _=>⟨hd,fun _ hx=>hx,fun te j r ht hj=>⟨r,hj,fun col e' hc hq=>⟨rfl,fun _ _ _ _ _=>rfl⟩⟩⟩⟩
  ·cases hx
 mp:=fun o kl el es _ hg=>by
  obtain⟨y,hy,hxy⟩:=h o _ hg
  refine⟨rfl,?_⟩
  rcases hxy with rfl|⟨t',cs,cs',rfl,hx⟩
  ·exact⟨kl,el,es,hy⟩
  ·cases hx
theorem Zz {x:AV}:∀o∈idsA x,¬(fun _:Id=>False) o:=fun _ _ h=>h
theorem Z4e {k:Id} {v:AV} {e:TypeId} {rows:List (List Dat)} (h:killA k v=.ro e false rows):v=.ro e false rows:=by
 cases v<;>simp only[killA,reduceCtorEq]at h
 ·exact h
 ·rename_i o;cases hk:idEq k o<;>rw[hk]at h<;>cases h
 ·rename_i o _ _;cases hk:idEq k o<;>rw[hk]at h<;>cases h
 ·rename_i o _ _ _ _ _ _;cases hk:idEq k o<;>rw[hk]at h<;>cases h
 ·rename_i o _ _;cases hk:idEq k o<;>rw[hk]at h<;>cases h
theorem RelG.clear1 (h:RelG E base M S0 R0 w0 nt G st a w) (k:Id) (hpk:isPar k=false):
  RelG E base M S0 R0 w0 nt G {tm:=killT k st.tm,ob:=killO k (delO st.ob k)} a w∧NoRef k {tm:=killT k st.tm,ob:=killO k (delO st.ob k)}∧
   (∀k',NoRef k' st→NoRef k' {tm:=killT k st.tm,ob:=killO k (delO st.ob k)})∧
   (∀o x,getO (killO k (delO st.ob k)) o=some x→o≠k∧∃y,getO st.ob o=some y∧x=killObj k y):=by
 have hget:∀o x,getO (killO k (delO st.ob k)) o=some x→o≠k∧∃y,getO st.ob o=some y∧x=killObj k y:=fun o x hx=>by
  rw[Zt,ZP]at hx
  by_cases ho:o=k
  ·simp[ho]at hx
  ·rw[if_neg ho]at hx
   obtain⟨y,hy,rfl⟩:=Option.map_eq_some_iff.mp hx
   exact⟨ho,y,hy,rfl⟩
 have hc:Comp (fun _=>False) E w S0 G st.ob w G (killO k (delO st.ob k)):=Comp.less fun o x hx=>by
  obtain⟨_,y,hy,rfl⟩:=hget o x hx
  refine⟨y,hy,?_⟩
  cases y with
  |row e rows d v h=>exact .inl rfl
  |box t cs=>exact .inr ⟨t,cs,_,rfl,rfl⟩
  |mp kl el es=>exact .inl rfl
 refine⟨⟨h.kept,h.old,fun o x hx=>?_,fun o x hx=>?_,fun o x o' x' hx hx'=>?_,fun o x hx=>?_,fun o x o' x' hx hx'=>?_,h.F,fun t=>?_,h.defers,h.size,fun o x hp hx=>h.par o _ hp (hget o x hx).2.choose_spec.1,h.fix.map (fun t cs ht=>by
  obtain⟨_,y,hy,hx⟩:=hget _ _ ht
  cases y with
  |row e rows d v hh=>cases hx
  |box t' cs'=>
   simp only[killObj,Obj.box.injEq]at hx
   obtain⟨rfl,rfl⟩:=hx
   refine⟨_,cs',hy,fun c e rows hc=>?_⟩
   rw[Z07]at hc
   obtain⟨v0,h0,h1⟩:=Option.map_eq_some_iff.mp hc
   rw[h0,Z4e h1]
  |mp kl el es=>cases hx) (fun _ _ _ _ _=>rfl)⟩,⟨fun t=>?_,fun o t cells hg=>?_,?_,hpk⟩,fun k' hk'=>⟨fun t=>?_,fun o t cells hg=>?_,?_,hk'.2.2.2⟩,hget⟩
 ·obtain⟨_,y,hy,rfl⟩:=hget o x hx
  have:=h.objs o y hy
  cases y with
  |row e rows d v hh=>exact this.frame (fun _ _=>rfl) (fun _ _=>rfl) (fun _ _ _=>rfl) (fun _ hb=>hb)
  |box t cs=>
   obtain⟨g,arr,et,h1,h2,h3,h4,h5,h6⟩:=this
   refine⟨g,arr,et,h1,h2,h3,h4,h5.trans (Zs k cs).symm,fun i v x hv hxx=>?_⟩
   rw[Z07]at hv
   obtain⟨v0,h0,rfl⟩:=Option.map_eq_some_iff.mp hv
   obtain⟨h7,h8⟩:=h6 i v0 x h0 hxx
   exact⟨(h7.map hc Zz).kill k,h8⟩
  |mp kl el es=>exact this
 ·obtain⟨_,y,hy,_⟩:=hget o x hx
  exact h.tops o y hy
 ·obtain⟨_,y,hy,_⟩:=hget o x hx
  obtain⟨_,y',hy',_⟩:=hget o' x' hx'
  exact h.tops2 o y o' y' hy hy'
 ·obtain⟨_,y,hy,_⟩:=hget o x hx
  exact h.ins o y hy
 ·obtain⟨_,y,hy,_⟩:=hget o x hx
  obtain⟨_,y',hy',_⟩:=hget o' x' hx'
  exact h.ins2 o y o' y' hy hy'
 ·rw[Z0E]
  exact((h.tmps t).map hc Zz).kill k
 ·rw[Z0E]
  exact(kill_ids k _).2
 ·obtain⟨_,y,hy,hx⟩:=hget o _ hg
  cases y with
  |row e rows d v hh=>cases hx
  |box t' cs=>
   simp only[killObj,Obj.box.injEq]at hx
   obtain⟨rfl,rfl⟩:=hx
   exact(kill_idsL k cs).2
  |mp kl el es=>cases hx
 ·rw[Zt,ZP,if_pos rfl];rfl
 ·rw[Z0E]
  exact fun hh=>hk'.1 t ((kill_ids k _).1 _ hh)
 ·obtain⟨_,y,hy,hx⟩:=hget o _ hg
  cases y with
  |row e rows d v hh=>cases hx
  |box t' cs=>
   simp only[killObj,Obj.box.injEq]at hx
   obtain⟨rfl,rfl⟩:=hx
   exact fun hh=>hk'.2.1 o _ cs hy ((kill_idsL k cs).1 _ hh)
  |mp kl el es=>cases hx
 ·rw[Zt,ZP]
  by_cases ho:k'=k
  ·simp[ho]
  ·rw[if_neg ho,hk'.2.2.1];rfl
theorem RelG.clears (nw:List (Id×Obj)):∀{st:St},RelG E base M S0 R0 w0 nt G st a w→(∀k∈keys nw,isPar k=false)→
  RelG E base M S0 R0 w0 nt G (clearAll nw st) a w∧(∀k∈keys nw,NoRef k (clearAll nw st))∧(∀k',NoRef k' st→NoRef k' (clearAll nw st))∧
   (∀o x,getO (clearAll nw st).ob o=some x→o∉keys nw∧∃y,getO st.ob o=some y∧(x=y∨∃t cs cs',y=.box t cs∧x=.box t cs')):=by
 induction nw with
 |nil=>exact fun{st} h _=>⟨h,fun _ hk=>(by cases hk),fun _ hk=>hk,fun o x hx=>⟨(by simp[keys]),x,hx,.inl rfl⟩⟩
 |cons p nw ih=>
  intro st h hpk
  obtain⟨k,x⟩:=p
  obtain⟨h1,h2,h3,h4⟩:=h.clear1 k (hpk k (by simp[keys]))
  obtain⟨i1,i2,i3,i4⟩:=ih h1 (fun k' hk'=>hpk k' (by simp[keys,hk']))
  refine⟨i1,fun k' hk'=>?_,fun k' hk'=>i3 k' (h3 k' hk'),fun o x hx=>?_⟩
  ·simp only[keys,List.mem_cons]at hk'
   rcases hk' with rfl|hk'
   ·exact i3 _ h2
   ·exact i2 k' hk'
  ·obtain⟨j1,y,j2,j3⟩:=i4 o x hx
   obtain⟨j4,z,j5,j6⟩:=h4 o y j2
   refine⟨by simp only[keys,List.mem_cons];exact fun hh=>hh.elim j4 j1,z,j5,?_⟩
   subst j6
   cases z with
   |row e rows d v hh=>
    rcases j3 with rfl|⟨t,cs,cs',hy,rfl⟩
    ·exact .inl rfl
    ·cases hy
   |box t cs=>
    rcases j3 with rfl|⟨t',cs1,cs',hy,rfl⟩
    ·exact .inr ⟨t,cs,_,rfl,rfl⟩
    ·simp only[killObj,Obj.box.injEq]at hy
     exact .inr ⟨t,cs,cs',rfl,by rw[hy.1]⟩
   |mp kl el es=>
    rcases j3 with rfl|⟨t,cs,cs',hy,rfl⟩
    ·exact .inl rfl
    ·cases hy
end
end Go.Proofs.YtnihikajdbcoaaaGreat.Vai
namespace Go.Proofs.YtnihikajdbcoaaaGreat.Vai
open Go
section
variable {E:Env} {base:Nat} {M:List Nat} {S0:Nat→Prop} {R0:Id→Value} {w0:World} {nt:Nat} {G:Gh} {st:St} {a:Act} {w:World}
theorem Z4f (a:Act) (t t':Nat) (v:Value) (h:t<a.tmps.size):(a.put (some t) v).tmps.getD t' undef=if t'=t then v else a.tmps.getD t' undef:=by
 simp only[Act.put]
 rw[Array.getD_eq_getD_getElem?,Array.getElem?_setIfInBounds]
 by_cases ht:t=t'
 ·subst ht
  simp[h]
 ·simp[ht,Ne.symm ht,Array.getD_eq_getD_getElem?]
theorem RelG.put (h:RelG E base M S0 R0 w0 nt G st a w) {t:Nat} (ht:t<nt) {x:AV} {v:Value} (hv:VR E w S0 G st.ob x v):
  RelG E base M S0 R0 w0 nt G {st with tm:=putT st.tm t x} (a.put (some t) v) w:=by
 refine⟨h.kept,h.old,h.objs,h.tops,h.tops2,h.ins,h.ins2,h.F,fun t'=>?_,h.defers,?_,h.par,h.fix⟩
 ·rw[Zb,Z4f a t t' v (h.size▸ht)]
  by_cases e:t'=t
  ·simp only[e,if_true];exact hv
  ·simp only[e,if_false];exact h.tmps t'
 ·simp only[Act.put,Array.size_setIfInBounds];exact h.size
theorem RelG.world (h:RelG E base M S0 R0 w0 nt G st a w) {w':World} (hk:Kept base M w0 w') (hs:w.heap.size≤w'.heap.size)
  (hold:∀b,S0 b→w'.heap[b]?=w.heap[b]?) (hF:∀b∈G.F,w'.heap[b]?=w.heap[b]?)
  (ht:∀o x,getO st.ob o=some x→∀b∈G.top o,w'.heap[b]?=w.heap[b]?):RelG E base M S0 R0 w0 nt G st a w':=by
 have hc:Comp (fun _=>False) E w S0 G st.ob w' G st.ob:=
  ⟨hold,fun b hb=>⟨hF b hb,hb⟩,fun o t cells _ hg=>⟨rfl,t,cells,hg⟩,fun o e rows dp vr hh _ hg=>⟨rfl,rows,dp,vr,hh,hg,rfl,Nat.le_refl _,fun hd _=>⟨hd,fun _ hx=>hx,
   fun te j r hte hj=>⟨r,hj,fun col e' hc hq=>⟨rfl,fun g o0 n c hr=>ZD (a:=⟨g,o0+(j*te.ls.length+col),none⟩) (ht o _ hg g (by
    obtain⟨te',_,_,h3⟩:=(h.objs o _ hg:RowR E w _ e rows dp hh _ _ _)
    rcases h3 with ⟨h3,_⟩|⟨g',off,c',arr,u,bs,a1,a2,_⟩
    ·rw[h3]at hr;cases hr
    ·rw[a1]at hr;cases hr;rw[a2];simp))⟩⟩⟩⟩,fun o kl el es _ hg=>⟨rfl,kl,el,es,hg⟩⟩
 refine⟨hk,h.old,fun o x hx=>?_,h.tops,h.tops2,h.ins,h.ins2,fun b hb=>⟨(h.F b hb).1,(h.F b hb).2.1,Nat.lt_of_lt_of_le (h.F b hb).2.2 hs⟩,fun t=>(h.tmps t).map hc Zz,h.defers,h.size,h.par,h.fix.map (fun t cs ht=>⟨t,cs,ht,fun _ _ _ h=>h⟩) (fun t cs h0 g hg=>ht _ _ h0 g (h.parTop h0 hg))⟩
 have:=h.objs o x hx
 cases x with
 |row e rows d v hh=>exact this.frame (ht o _ hx) (fun b hb=>hF b ((h.ins o _ hx).1 b hb)) (fun _ b hb=>hb.elim (hold b) (hF b)) (fun _ hb=>hb)
 |box t cs=>exact this.map hc (fun _ _=>Zz) (ht o _ hx)
 |mp kl el es=>exact this.frame (ht o _ hx)
theorem RelG.del (h:RelG E base M S0 R0 w0 nt G st a w) (o:Id):RelG E base M S0 R0 w0 nt G {st with ob:=delO st.ob o} a w:=by
 have hget:∀o' x,getO (delO st.ob o) o'=some x→o'≠o∧getO st.ob o'=some x:=fun o' x hx=>by
  rw[ZP]at hx
  by_cases ho:o'=o
  ·simp[ho]at hx
  ·rw[if_neg ho]at hx;exact⟨ho,hx⟩
 have hc:Comp (fun _=>False) E w S0 G st.ob w G (delO st.ob o):=Comp.less fun o' x hx=>⟨x,(hget o' x hx).2,.inl rfl⟩
 refine⟨h.kept,h.old,fun o' x hx=>?_,fun o' x hx=>h.tops o' x (hget o' x hx).2,fun o1 x o2 y hx hy=>h.tops2 o1 x o2 y (hget _ _ hx).2 (hget _ _ hy).2,fun o' x hx=>h.ins o' x (hget o' x hx).2,
  fun o1 x o2 y hx hy=>h.ins2 o1 x o2 y (hget _ _ hx).2 (hget _ _ hy).2,h.F,fun t=>(h.tmps t).map hc Zz,h.defers,h.size,fun o' x hp hx=>h.par o' x hp (hget o' x hx).2,h.fix.sub fun x hx=>(hget _ x hx).2⟩
 have:=h.objs o' x (hget o' x hx).2
 cases x with
 |row e rows d v hh=>exact this.frame (fun _ _=>rfl) (fun _ _=>rfl) (fun _ _ _=>rfl) (fun _ hb=>hb)
 |box t cs=>exact this.map hc (fun _ _=>Zz) (fun _ _=>rfl)
 |mp kl el es=>exact this
theorem RelG.dels (ids:List Id):∀{st:St},RelG E base M S0 R0 w0 nt G st a w→RelG E base M S0 R0 w0 nt G {st with ob:=delAll ids st.ob} a w:=by
 induction ids with
 |nil=>exact fun h=>h
 |cons o ids ih=>exact fun h=>ih (h.del o)
theorem ZC (ids:List Id):∀(ob:List (Id×Obj)) (o:Id),getO (delAll ids ob) o=if o∈ids then none else getO ob o:=by
 induction ids with
 |nil=>intro ob o;simp[delAll]
 |cons i ids ih=>
  intro ob o
  simp only[delAll,ih,ZP,List.mem_cons]
  by_cases h1:o∈ids
  ·simp[h1]
  ·by_cases h2:o=i
   ·simp[h2]
   ·simp[h1,h2]
def findN:List (Id×Obj)→Id→Option Obj
 |[],_=>none
 |(k,x)::r,o=>match findN r o with
  |some y=>some y
  |none=>if o=k then some x else none
theorem ZS {nw:List (Id×Obj)} {o:Id}:(∃x,findN nw o=some x)↔o∈keys nw:=by
 induction nw with
 |nil=>simp[findN,keys]
 |cons p nw ih=>
  obtain⟨k,x⟩:=p
  simp only[findN,keys,List.mem_cons,←ih]
  cases h:findN nw o with
  |some y=>simp
  |none=>by_cases hk:o=k<;>simp[hk]
theorem ZT (nw:List (Id×Obj)):∀(ob:List (Id×Obj)) (o:Id),getO (upAll nw ob) o=match findN nw o with
  |some x=>some x
  |none=>getO ob o:=by
 induction nw with
 |nil=>intro ob o;simp[upAll,findN]
 |cons p nw ih=>
  intro ob o
  obtain⟨k,x⟩:=p
  simp only[upAll,ih,findN]
  cases h:findN nw o with
  |some y=>rfl
  |none=>
   simp only[Z1]
   by_cases hk:o=k<;>simp[hk]
def Live (S0:Nat→Prop) (G:Gh) (ob:List (Id×Obj)) (b:Nat):Prop:=S0 b∨b∈G.F∨∃o x,getO ob o=some x∧b∈G.top o
theorem RelG.add (h:RelG E base M S0 R0 w0 nt G st a w) (nw:List (Id×Obj)) (hno:∀k∈keys nw,NoRef k st) (G':Gh) {w':World}
  (hk:Kept base M w0 w') (hs:w.heap.size≤w'.heap.size) (hw:∀b,Live S0 G st.ob b→w'.heap[b]?=w.heap[b]?)
  (hG:∀o,o∉keys nw→G'.root o=G.root o∧G'.top o=G.top o∧G'.ins o=G.ins o)
  (hF:∀b∈G.F,b∈G'.F)
  (hF':∀b∈G'.F,b∈G.F∨(¬S0 b∧(base≤b∨b∈M)∧b<w'.heap.size∧∀o x,getO st.ob o=some x→b∉G.top o))
  (hobj:∀k x,findN nw k=some x→ObjR E w' S0 G' (upAll nw st.ob) k x)
  (htop:∀k∈keys nw,∀b∈G'.top k,¬S0 b∧b∉G'.F∧(base≤b∨b∈M)∧∀o x,getO st.ob o=some x→b∉G.top o)
  (hins:∀k∈keys nw,(∀b∈G'.ins k,b∈G'.F∧∀o x,getO st.ob o=some x→b∉G.ins o)∧(G'.ins k).Nodup)
  (htop2:∀k∈keys nw,∀k'∈keys nw,k≠k'→∀b∈G'.top k,b∉G'.top k')
  (hins2:∀k∈keys nw,∀k'∈keys nw,k≠k'→∀b∈G'.ins k,b∉G'.ins k'):
  RelG E base M S0 R0 w0 nt G' {st with ob:=upAll nw st.ob} a w':=by
 have hget:∀o x,getO (upAll nw st.ob) o=some x→findN nw o=some x∧o∈keys nw∨o∉keys nw∧getO st.ob o=some x:=fun o x hx=>by
  rw[ZT]at hx
  cases hf:findN nw o with
  |some y=>rw[hf]at hx;simp only[Option.some.injEq]at hx;subst hx;exact .inl ⟨rfl,ZS.mp ⟨y,hf⟩⟩
  |none=>
   rw[hf]at hx
   refine .inr ⟨fun hk=>?_,hx⟩
   obtain⟨y,hy⟩:=ZS.mpr hk
   rw[hf]at hy;cases hy
 have hc:Comp (fun k=>k∈keys nw) E w S0 G st.ob w' G' (upAll nw st.ob):=
  ⟨fun b hb=>hw b (.inl hb),fun b hb=>⟨hw b (.inr (.inl hb)),hF b hb⟩,fun o t cells hn hg=>by
   rcases hget o _ hg with ⟨_,hin⟩|⟨_,hg⟩
   ·exact absurd hin hn
   ·exact⟨(hG o hn).1,t,cells,hg⟩,fun o e rows dp vr hh hn hg=>by
   rcases hget o _ hg with ⟨_,hin⟩|⟨_,hg⟩
   ·exact absurd hin hn
   ·refine⟨(hG o hn).1,rows,dp,vr,hh,hg,rfl,Nat.le_refl _,fun hd _=>⟨hd,fun _ hx=>hx,fun te j r hte hj=>⟨r,hj,fun col e' hc hq=>⟨rfl,fun g o0 n c hr=>?_⟩⟩⟩⟩
    refine ZD (a:=⟨g,o0+(j*te.ls.length+col),none⟩) (hw g (.inr (.inr ⟨o,_,hg,?_⟩)))
    obtain⟨te',_,_,h3⟩:=(h.objs o _ hg:RowR E w _ e rows dp hh _ _ _)
    rcases h3 with ⟨h3,_⟩|⟨g',off,c',arr,u,bs,a1,a2,_⟩
    ·rw[h3]at hr;cases hr
    ·rw[a1]at hr;cases hr;rw[a2];simp,fun o kl el es hn hg=>by
   rcases hget o _ hg with ⟨_,hin⟩|⟨_,hg⟩
   ·exact absurd hin hn
   ·exact⟨(hG o hn).1,kl,el,es,hg⟩⟩
 refine⟨hk,h.old,fun o x hx=>?_,fun o x hx=>?_,fun o x o' x' hx hx' hne=>?_,fun o x hx=>?_,fun o x o' x' hx hx' hne=>?_,fun b hb=>?_,fun t=>(h.tmps t).map hc (fun o ho hin=>(hno o hin).1 t ho),h.defers,h.size,fun o x hp hx=>?_,?_⟩
 ·rcases hget o x hx with ⟨hf,_⟩|⟨hn,hg⟩
  ·exact hobj o x hf
  ·have:=h.objs o x hg
   obtain⟨g1,g2,g3⟩:=hG o hn
   cases x with
   |row e rows d v hh=>
    simp only[ObjR,g1,g2,g3]
    exact this.frame (fun b hb=>hw b (.inr (.inr ⟨o,_,hg,hb⟩))) (fun b hb=>hw b (.inr (.inl ((h.ins o _ hg).1 b hb)))) (fun _ b hb=>hw b (hb.imp id .inl)) (fun b hb=>hb.imp id (hF b))
   |box t cs=>
    simp only[ObjR,g1,g2,g3]
    exact this.map hc (fun v hv o' ho' hin=>(hno o' hin).2.1 o t cs hg (by
     obtain⟨i,hi⟩:=List.getElem?_of_mem hv
     exact Zo hi ho')) (fun b hb=>hw b (.inr (.inr ⟨o,_,hg,hb⟩)))
   |mp kl el es=>
    simp only[ObjR,g1,g2,g3]
    exact this.frame (fun b hb=>hw b (.inr (.inr ⟨o,_,hg,hb⟩)))
 ·rcases hget o x hx with ⟨_,hin⟩|⟨hn,hg⟩
  ·intro b hb
   obtain⟨h1,h2,h3,_⟩:=htop o hin b hb
   exact⟨h1,h2,h3⟩
  ·intro b hb
   rw[(hG o hn).2.1]at hb
   obtain⟨h1,h2,h3⟩:=h.tops o x hg b hb
   exact⟨h1,fun hb'=>(hF' b hb').elim h2 fun hh=>hh.2.2.2 o x hg hb,h3⟩
 ·intro b hb hb'
  rcases hget o x hx with ⟨_,hin⟩|⟨hn,hg⟩<;>rcases hget o' x' hx' with ⟨_,hin'⟩|⟨hn',hg'⟩
  ·exact htop2 o hin o' hin' hne b hb hb'
  ·rw[(hG o' hn').2.1]at hb'
   exact(htop o hin b hb).2.2.2 o' x' hg' hb'
  ·rw[(hG o hn).2.1]at hb
   exact(htop o' hin' b hb').2.2.2 o x hg hb
  ·rw[(hG o hn).2.1]at hb
   rw[(hG o' hn').2.1]at hb'
   exact h.tops2 o x o' x' hg hg' hne b hb hb'
 ·rcases hget o x hx with ⟨_,hin⟩|⟨hn,hg⟩
  ·exact⟨fun b hb=>((hins o hin).1 b hb).1,(hins o hin).2⟩
  ·rw[(hG o hn).2.2]
   exact⟨fun b hb=>hF b ((h.ins o x hg).1 b hb),(h.ins o x hg).2⟩
 ·intro b hb hb'
  rcases hget o x hx with ⟨_,hin⟩|⟨hn,hg⟩<;>rcases hget o' x' hx' with ⟨_,hin'⟩|⟨hn',hg'⟩
  ·exact hins2 o hin o' hin' hne b hb hb'
  ·rw[(hG o' hn').2.2]at hb'
   exact((hins o hin).1 b hb).2 o' x' hg' hb'
  ·rw[(hG o hn).2.2]at hb
   exact((hins o' hin').1 b hb').2 o x hg hb
  ·rw[(hG o hn).2.2]at hb
   rw[(hG o' hn').2.2]at hb'
   exact h.ins2 o x o' x' hg hg' hne b hb hb'
 ·rcases hF' b hb with hb'|⟨h1,h2,h3,_⟩
  ·exact⟨(h.F b hb').1,(h.F b hb').2.1,Nat.lt_of_lt_of_le (h.F b hb').2.2 hs⟩
  ·exact⟨h1,h2,h3⟩
 ·rcases hget o x hx with ⟨_,hin⟩|⟨hn,hg⟩
  ·have:=(hno o hin).2.2.2
   rw[hp]at this;cases this
  ·exact(hG o hn).1.trans (h.par o x hp hg)
 ·refine h.fix.map (fun t cs ht=>?_) (fun t cs h0 g hg=>hw g (.inr (.inr ⟨_,_,h0,h.parTop h0 hg⟩)))
  rcases hget _ _ ht with ⟨hf,hin⟩|⟨hn,hg⟩
  ·have:=(hno _ hin).2.2.2
   rw[Z0H]at this;cases this
  ·exact⟨t,cs,hg,fun _ _ _ h=>h⟩
theorem FixR.setRow {R0:Id→Value} {ob:List (Id×Obj)} {w:World} {o:Id} {e:TypeId} {rows:List (List Dat)} {d:Bool} {v:Nat} {hh:List (Int×Nat)} (ho:o=(1000000,0)):FixR R0 (setO ob o (.row e rows d v hh)) w:=
 .none fun t cells hx=>by
  rw[Z1,if_pos ho.symm]at hx
  cases hx
theorem RelG.upd (h:RelG E base M S0 R0 w0 nt G st a w) (o:Id) (x y:Obj) (hx:getO st.ob o=some x) (G':Gh) {w':World}
  (hk:Kept base M w0 w') (hs:w.heap.size≤w'.heap.size)
  (hold:∀b,S0 b→w'.heap[b]?=w.heap[b]?) (hF:∀b∈G.F,w'.heap[b]?=w.heap[b]?∧b∈G'.F)
  (ht:∀o' x',getO st.ob o'=some x'→o'≠o→∀b∈G.top o',w'.heap[b]?=w.heap[b]?)
  (hG:∀o',o'≠o→G'.root o'=G.root o'∧G'.top o'=G.top o'∧G'.ins o'=G.ins o') (hGt:G'.top o=G.top o)
  (hF':∀b∈G'.F,b∈G.F∨(¬S0 b∧(base≤b∨b∈M)∧b<w'.heap.size∧∀o x,getO st.ob o=some x→b∉G.top o))
  (hc:Comp (fun _=>False) E w S0 G st.ob w' G' (setO st.ob o y))
  (hobj:ObjR E w' S0 G' (setO st.ob o y) o y)
  (hins:(∀b∈G'.ins o,b∈G'.F∧∀o' x',getO st.ob o'=some x'→o'≠o→b∉G.ins o')∧(G'.ins o).Nodup) (hfix:o=(1000000,0)→FixR R0 (setO st.ob o y) w'):
  RelG E base M S0 R0 w0 nt G' {st with ob:=setO st.ob o y} a w':=by
 have hget:∀o' x',getO (setO st.ob o y) o'=some x'→o'=o∧x'=y∨o'≠o∧getO st.ob o'=some x':=fun o' x' hx'=>by
  rw[Z1]at hx'
  by_cases ho:o'=o
  ·rw[if_pos ho]at hx';exact .inl ⟨ho,(Option.some.inj hx').symm⟩
  ·rw[if_neg ho]at hx';exact .inr ⟨ho,hx'⟩
 refine⟨hk,h.old,fun o' x' hx'=>?_,fun o' x' hx'=>?_,fun o1 x1 o2 x2 h1 h2 hne=>?_,fun o' x' hx'=>?_,fun o1 x1 o2 x2 h1 h2 hne=>?_,fun b hb=>?_,fun t=>(h.tmps t).map hc Zz,h.defers,h.size,fun o' x' hp hx'=>?_,?_⟩
 ·rcases hget o' x' hx' with ⟨rfl,rfl⟩|⟨hn,hg⟩
  ·exact hobj
  ·have:=h.objs o' x' hg
   obtain⟨g1,g2,g3⟩:=hG o' hn
   cases x' with
   |row e rows d v hh=>
    simp only[ObjR,g1,g2,g3]
    exact this.frame (ht o' _ hg hn) (fun b hb=>(hF b ((h.ins o' _ hg).1 b hb)).1) (fun _ b hb=>hb.elim (hold b) fun hb=>(hF b hb).1) (fun b hb=>hb.imp id fun hb=>(hF b hb).2)
   |box t cs=>
    simp only[ObjR,g1,g2,g3]
    exact this.map hc (fun _ _=>Zz) (ht o' _ hg hn)
   |mp kl el es=>
    simp only[ObjR,g1,g2,g3]
    exact this.frame (ht o' _ hg hn)
 ·intro b hb
  have key:∀o' x',getO st.ob o'=some x'→b∈G.top o'→¬S0 b∧b∉G'.F∧(base≤b∨b∈M):=fun o' x' hg hb=>by
   obtain⟨h1,h2,h3⟩:=h.tops o' x' hg b hb
   exact⟨h1,fun hb'=>(hF' b hb').elim h2 fun hh=>hh.2.2.2 o' x' hg hb,h3⟩
  rcases hget o' x' hx' with ⟨rfl,rfl⟩|⟨hn,hg⟩
  ·exact key _ x hx (hGt▸hb)
  ·exact key o' x' hg ((hG o' hn).2.1▸hb)
 ·have t1:∀o' x',getO (setO st.ob o y) o'=some x'→∃z,getO st.ob o'=some z∧G'.top o'=G.top o':=fun o' x' hx'=>by
   rcases hget o' x' hx' with ⟨rfl,_⟩|⟨hn,hg⟩
   ·exact⟨x,hx,hGt⟩
   ·exact⟨x',hg,(hG o' hn).2.1⟩
  obtain⟨z1,g1,e1⟩:=t1 o1 x1 h1
  obtain⟨z2,g2,e2⟩:=t1 o2 x2 h2
  rw[e1,e2]
  exact h.tops2 o1 z1 o2 z2 g1 g2 hne
 ·rcases hget o' x' hx' with ⟨rfl,_⟩|⟨hn,hg⟩
  ·exact⟨fun b hb=>(hins.1 b hb).1,hins.2⟩
  ·rw[(hG o' hn).2.2]
   exact⟨fun b hb=>(hF b ((h.ins o' x' hg).1 b hb)).2,(h.ins o' x' hg).2⟩
 ·intro b hb hb'
  rcases hget o1 x1 h1 with ⟨rfl,_⟩|⟨hn,hg⟩<;>rcases hget o2 x2 h2 with ⟨rfl,_⟩|⟨hn',hg'⟩
  ·exact hne rfl
  ·rw[(hG o2 hn').2.2]at hb'
   exact(hins.1 b hb).2 o2 x2 hg' hn' hb'
  ·rw[(hG o1 hn).2.2]at hb
   exact(hins.1 b hb').2 o1 x1 hg hn hb
  ·rw[(hG o1 hn).2.2]at hb
   rw[(hG o2 hn').2.2]at hb'
   exact h.ins2 o1 x1 o2 x2 hg hg' hne b hb hb'
 ·rcases hF' b hb with hb'|⟨h1,h2,h3,_⟩
  ·exact⟨(h.F b hb').1,(h.F b hb').2.1,Nat.lt_of_lt_of_le (h.F b hb').2.2 hs⟩
  ·exact⟨h1,h2,h3⟩
 ·rcases hget o' x' hx' with ⟨rfl,rfl⟩|⟨hn,hg⟩
  ·have hr:G'.root o'=G.root o':=by
    cases x' with
    |box t cs=>exact(hc.box o' t cs (fun h=>h) hx').1
    |mp kl el es=>exact(hc.mp o' kl el es (fun h=>h) hx').1
    |row e rows d v hh=>exact(hc.row o' e rows d v hh (fun h=>h) hx').1
   exact hr.trans (h.par o' x hp hx)
  ·exact(hG o' hn).1.trans (h.par o' x' hp hg)
 ·by_cases e:o=(1000000,0)
  ·exact hfix e
  ·refine h.fix.map (fun t cs ht'=>?_) (fun t cs h0 g hg=>ht _ _ h0 (fun e'=>e e'.symm) g (h.parTop h0 hg))
   rcases hget _ _ ht' with ⟨e',_⟩|⟨_,hg⟩
   ·exact absurd e'.symm e
   ·exact⟨t,cs,hg,fun _ _ _ h=>h⟩
end
end Go.Proofs.YtnihikajdbcoaaaGreat.Vai
namespace Go.Proofs.YtnihikajdbcoaaaGreat.Vai
open Go
def scalRel (cs:List AV) (xs:Array Value):Prop:=xs.size=cs.length∧∀(i:Nat) (v:AV) (x:Value),cs[i]?=some v→xs[i]?=some x→
 match v with
 |.i k n=>x=.int k n
 |.b b=>x=.bool b
 |.s s=>x=.string s
 |_=>True
def EqOk (P:Program) (t:TypeId) (ls:List Leaf):Prop:=∀(w:World) (cs ds:List AV) (xs ys:Array Value) (r:Bool) (x y:Operand),avFits ls cs=true→avFits ls ds=true→scalRel cs xs→scalRel ds ys→avEq cs ds=some r→
 (do eqGuard .eql t x y (.agg xs) (.agg ys);binOp .eql t (.agg xs) (.agg ys)).run P w=.ok (.bool r) w∧
 (do eqGuard .neq t x y (.agg xs) (.agg ys);binOp .neq t (.agg xs) (.agg ys)).run P w=.ok (.bool (!r)) w
structure EnvOk (P:Program) (E:Env):Prop where
 T:∀t ti,E.T t=some ti→TOk P E t ti
 S:∀t ti,E.T t=some ti→ti.agg=true→∃fields:Array Field,P.underlying t=some (.struct fields)∧fields.toList.map (fun f=>(f.offset,f.type))=ti.fs
 A:∀t e ti,E.A t=some (e,ti)→TOk P E t ti∧P.underlying t=some (.array ti.fs.length e)∧ti.agg=true
 F:∀f fn,E.F f=some fn→P.funcs[f]?=some fn∧(fn.name== "runtime.NumGoroutine")=false∧fn.body.isNone=false
 N:∀f fn,E.F f=some fn→fn.params.size≤fn.ntmps∧fn.ntmps≤1000000
 mixed:P.follows .mixedOrders=true
 eqT:∀t ti,E.eqT t=true→E.T t=some ti→EqOk P t ti.ls
 M:∀t kt et,E.M t=some (kt,et)→P.underlying t=some (.map kt et)
section
variable {P:Program} {E:Env} {base:Nat} {M:List Nat} {S0:Nat→Prop} {R0:Id→Value} {w0:World} {nt:Nat} {G:Gh} {st:St} {a:Act} {w:World}
theorem VR.cv {ob:List (Id×Obj)} (v:Value):VR E w S0 G ob (cv v) v:=by
 unfold Vai.cv
 split
 ·exact .i _ _
 ·exact .b _
 ·exact .s _
 ·exact .nil
 ·exact .dead _
theorem RelG.ev (h:RelG E base M S0 R0 w0 nt G st a w) (x:Operand):VR E w S0 G st.ob (ev st.tm x) (a.eval x):=by
 cases x with
 |tmp t=>exact h.tmps t
 |const v=>exact .cv v
 |global g=>exact .dead _
 |func f=>exact .fn f [] #[] rfl (fun i v x hv=>by simp at hv)
theorem Live.of {b:Nat} {ob:List (Id×Obj)} (h:S0 b∨b∈G.F):Live S0 G ob b:=h.elim .inl fun h=>.inr (.inl h)
theorem RowR.rd {S:Nat→Prop} {e:TypeId} {rows:List (List Dat)} {deep:Bool} {root:Value} {top ins:List Nat} {S':Nat→Prop}
  (h:RowR E w S e rows deep [] root top ins) (ht:∀b∈top,S' b) (hi:∀b∈ins,S' b) (hS:∀b,S b→S' b):RD E w S' (.sl e) (.sl rows) root:=by
 obtain⟨te,h1,h2,h3⟩:=h
 have nohole:∀j i,¬isHole [] j i:=fun j i hh=>by obtain⟨r,hr,_⟩:=hh;cases hr
 rcases h3 with ⟨h3,rfl,_,_⟩|⟨g,off,c,arr,u,bs,a1,a2,a3,a4,a5,a6,a7,a8,a9,a10⟩
 ·rw[h3]
  exact RD.sl e te (.sl []) none 0 (fun _ _=>undef) h1 (Nat.le_refl _) (fun j r hj=>by simp[Dat.rows]at hj) (fun j i hj=>by simp[Dat.rows]at hj) (fun j i r l hj=>by simp[Dat.rows]at hj)
 ·rw[a1]
  refine RD.sl e te (.sl rows) _ c u h1 a4 h2 (fun j i hj hi'=>⟨⟨g,off,none⟩,rfl,rfl,ht g (by rw[a2];simp),?_⟩) (fun j i r l hj hl=>?_)
  ·simp only[World.cell?,a3]
   simpa using(a6 j i hj hi').1
  ·have:=a7 j i r l hj hl (nohole j i)
   cases deep with
   |false=>simp only[Bool.false_eq_true,if_false]at this;exact this.mono hS
   |true=>
    simp only[if_true]at this
    refine this.rd fun b hb=>hi b ?_
    rw[a8 rfl]
    exact Z2.mpr ⟨j,i,(List.getElem?_eq_some_iff.mp hj).1,(List.getElem?_eq_some_iff.mp hl).1,hb⟩
theorem RD.win {S:Nat→Prop} {e:TypeId} {te:TI} {rows:List (List Dat)} {root v:Value} {lo n:Int} (h:RD E w S (.sl e) (.sl rows) root) (ht:E.T e=some te)
  (hw:Win te.ls.length rows.length root lo n v):RD E w S (.sl e) (.sl ((rows.drop lo.toNat).take n.toNat)) v:=by
 obtain⟨h0,h1,h2,A',c',rfl,h3⟩:=hw
 cases h with
 |sl _ te' _ A c u ht' hc hl hm hr=>
  rw[ht]at ht';cases ht'
  simp only[Dat.rows]at hc hl hm hr h3
  have hlen:((rows.drop lo.toNat).take n.toNat).length=n.toNat:=by simp;omega
  have hget:∀(j:Nat) (r:List Dat),((rows.drop lo.toNat).take n.toNat)[j]?=some r→rows[lo.toNat+j]?=some r:=fun j r hj=>by
   rw[List.getElem?_take]at hj
   split at hj
   ·rwa [List.getElem?_drop]at hj
   ·cases hj
  have key:=RD.sl (E:=E) (w:=w) (S:=S) e te (.sl ((rows.drop lo.toNat).take n.toNat)) A' c' (fun j i=>u (lo.toNat+j) i) ht
   (by
    simp only[Dat.rows,hlen]
    cases A with
    |none=>simp only at h3;obtain⟨_,rfl,h5⟩:=h3;omega
    |some ad=>simp only at h3;obtain⟨off',_,_,h5,_⟩:=h3;exact h5)
   (fun j r hj=>hl _ r (hget j r hj))
   (fun j i hj hi=>by
    simp only[Dat.rows,hlen]at hj
    obtain⟨ad,q1,q2,q3,q4⟩:=hm (lo.toNat+j) i (by omega) hi
    subst q1
    simp only at h3
    obtain⟨off',h4,h5,h6,h7,h8⟩:=h3
    subst h4
    refine⟨_,rfl,rfl,q3,?_⟩
    rcases h7 with h7|h7
    ·omega
    ·subst h7
     rw[←q4]
     congr 2
     simp only[Nat.add_mul]
     omega)
   (fun j i r l hj hl'=>hr _ i r l (hget j r hj) hl')
  simp only[Dat.rows,hlen]at key
  exact key
variable {look:Look}
def LiveR (S0:Nat→Prop) (G:Gh) (ob:List (Id×Obj)) (b:Nat):Prop:=S0 b∨b∈G.F∨∃o e rows dp vr h,getO ob o=some (.row e rows dp vr h)∧b∈G.top o
theorem LiveR.live {b:Nat} {ob:List (Id×Obj)} (h:LiveR S0 G ob b):Live S0 G ob b:=by
 rcases h with h|h|⟨o,e,rows,dp,vr,hh,h1,h2⟩
 ·exact .inl h
 ·exact .inr (.inl h)
 ·exact .inr (.inr ⟨o,_,h1,h2⟩)
theorem LiveR.of {b:Nat} {ob:List (Id×Obj)} (h:S0 b∨b∈G.F):LiveR S0 G ob b:=h.elim .inl fun h=>.inr (.inl h)
theorem RelG.slOf (h:RelG E base M S0 R0 w0 nt G st a w) (hlook:∀i x,look i=some x→getO st.ob i=some x) {x:AV} {v:Value} (hv:VR E w S0 G st.ob x v)
  {e':Option TypeId} {r:List (List Dat)} (hs:slOf look x=some (e',r)):∀e te,E.T e=some te→eOK e e'=true→RD E w (LiveR S0 G st.ob) (.sl e) (.sl r) v:=by
 intro e te ht he
 cases hv with
 |nil=>
  simp only[Vai.slOf,Option.some.injEq,Prod.mk.injEq]at hs
  obtain⟨rfl,rfl⟩:=hs
  exact RD.sl e te (.sl []) none 0 (fun _ _=>undef) ht (Nat.le_refl _) (fun j r hj=>by simp[Dat.rows]at hj) (fun j i hj=>by simp[Dat.rows]at hj) (fun j i r l hj=>by simp[Dat.rows]at hj)
 |ro e0 al rows _ hr=>
  simp only[Vai.slOf,Option.some.injEq,Prod.mk.injEq]at hs
  obtain⟨rfl,rfl⟩:=hs
  have:=Z3 he;subst this
  exact hr.mono fun b hb=>.of (hb.imp id fun hb=>hb.2)
 |nest o ver row col e0 whole rows _ hr hn=>
  simp only[Vai.slOf,Option.some.injEq,Prod.mk.injEq]at hs
  obtain⟨rfl,rfl⟩:=hs
  have:=Z3 he;subst this
  exact hr.mono fun b hb=>.of hb
 |own o _ hr h1=>
  simp only[Vai.slOf]at hs
  split at hs
  ·rename_i e0 rows dp vr hl
   simp only[Option.some.injEq,Prod.mk.injEq]at hs
   obtain⟨rfl,rfl⟩:=hs
   have:=Z3 he;subst this
   have hg:=hlook _ _ hl
   rw[hr _ _ _ _ _ hg]
   exact(h.objs o _ hg:RowR E w _ _ _ _ _ _ _ _).rd (fun b hb=>.inr (.inr ⟨o,_,_,_,_,_,hg,hb⟩)) (fun b hb=>.inr (.inl ((h.ins o _ hg).1 b hb))) (fun b hb=>.of hb)
  ·cases hs
 |vw o lo n _ hr h1=>
  simp only[Vai.slOf]at hs
  split at hs
  ·rename_i e0 rows dp vr hl
   simp only[Option.some.injEq,Prod.mk.injEq]at hs
   obtain⟨rfl,rfl⟩:=hs
   have:=Z3 he;subst this
   have hg:=hlook _ _ hl
   have key:=(h.objs o _ hg:RowR E w _ _ _ _ _ _ _ _).rd (S':=LiveR S0 G st.ob) (fun b hb=>.inr (.inr ⟨o,_,_,_,_,_,hg,hb⟩)) (fun b hb=>.inr (.inl ((h.ins o _ hg).1 b hb))) (fun b hb=>.of hb)
   exact key.win ht (hr _ _ _ _ _ _ hg ht)
  ·cases hs
 |_=>simp[Vai.slOf]at hs
theorem RelG.toDat (h:RelG E base M S0 R0 w0 nt G st a w) (hlook:∀i x,look i=some x→getO st.ob i=some x) {l:Leaf} {x:AV} {v:Value} (hv:VR E w S0 G st.ob x v)
  (hl:∀e,l=.sl e→∃te,E.T e=some te) {d:Dat} (hd:toDat look l x=some d):RD E w (LiveR S0 G st.ob) l d v:=by
 cases l with
 |int k=>
  cases hv<;>simp only[Vai.toDat]at hd<;>first|cases hd|skip
  rename_i k' n
  cases hk:ikEq k k'<;>rw[hk]at hd
  ·cases hd
  ·simp only[cond_true,Option.some.injEq]at hd
   subst hd
   have:k=k':=by simpa[ikEq]using hk
   subst this
   exact .int k _
 |bool=>
  cases hv<;>simp only[Vai.toDat]at hd<;>first|cases hd|skip
  exact .bool _
 |str=>
  cases hv<;>simp only[Vai.toDat]at hd<;>first|cases hd|skip
  exact .str _
 |sl e=>
  simp only[Vai.toDat]at hd
  split at hd
  ·rename_i e' r hs
   cases he:eOK e e'<;>rw[he]at hd
   ·cases hd
   ·simp only[cond_true,Option.some.injEq]at hd
    subst hd
    obtain⟨te,ht⟩:=hl e rfl
    exact h.slOf hlook hv hs e te ht he
  ·cases hd
end
end Go.Proofs.YtnihikajdbcoaaaGreat.Vai
namespace Go.Proofs.YtnihikajdbcoaaaGreat.Vai
open Go
section
variable {P:Program} {E:Env} {base:Nat} {M:List Nat} {S0:Nat→Prop} {R0:Id→Value} {w0:World} {nt:Nat} {G:Gh} {st:St} {a:Act} {w:World} {look:Look}
theorem TOk.size {t:TypeId} {ti:TI} (h:TOk P E t ti) (w:World):(sizeOf t).run P w=.ok ti.ls.length w:=by
 obtain⟨i,hi,hs,_⟩:=h.info
 simp[sizeOf,typeInfo,hi,hs]
theorem TOk.isAgg {t:TypeId} {ti:TI} (h:TOk P E t ti) (w:World):(Go.isAgg t).run P w=.ok ti.agg w:=by
 have hd:=h.desc
 cases ha:ti.agg with
 |true=>
  rw[ha]at hd
  simp only[if_true]at hd
  rcases hd with ⟨fields,hf⟩|⟨n,e,hf⟩
  ·simp[Go.isAgg,run_underlying hf]
  ·simp[Go.isAgg,run_underlying hf]
 |false=>
  rw[ha]at hd
  simp only[Bool.false_eq_true,if_false]at hd
  obtain⟨l,_,hf⟩:=hd
  cases l<;>simp[Go.isAgg,run_underlying hf,descOf]
theorem TOk.cellsOf {t:TypeId} {ti:TI} (h:TOk P E t ti):P.cellsOf t=ti.ls.length:=by
 obtain⟨i,hi,hs,_⟩:=h.info
 simp[Program.cellsOf,hi,hs]
theorem TOk.single {t:TypeId} {ti:TI} (h:TOk P E t ti) (ha:ti.agg=false):∃l,ti.ls=[l]∧P.underlying t=some (descOf l):=by
 have:=h.desc
 rw[ha]at this
 simpa using this
theorem EnvOk.struct (hE:EnvOk P E) {t:TypeId} {ti:TI} (h:E.T t=some ti) (ha:ti.agg=true):∃fields:Array Field,P.underlying t=some (.struct fields)∧fields.toList.map (fun f=>(f.offset,f.type))=ti.fs:=hE.S t ti h ha
theorem Zf {t:TypeId} {ti:TI} (h:TOk P E t ti) (g o:Nat) (u:Nat→Value) (hc:∀i,i<ti.ls.length→w.cell? ⟨g,o+i,none⟩=some (u i)):
  (loadVar t ⟨g,o,none⟩).run P w=.ok (if ti.agg then .agg ((List.range ti.ls.length).map u).toArray else u 0) w:=by
 have hadd:∀i,(⟨g,o,none⟩:Addr).add i=⟨g,o+i,none⟩:=fun i=>by unfold Addr.add;split<;>simp_all
 cases ha:ti.agg with
 |true=>
  simp only[loadVar,Sem.run_bind,h.isAgg,ha,Result.andThen_ok,if_true,h.size]
  rw[run_loadCells w _ _ u (fun j hj=>by rw[hadd];exact hc j hj)]
  simp only[Result.andThen_ok,Sem.run_pure]
 |false=>
  obtain⟨l,hl,_⟩:=h.single ha
  have:=hc 0 (by rw[hl];simp)
  simp only[Nat.add_zero]at this
  simp[loadVar,h.isAgg,ha,this]
def Packed (agg:Bool) (v:Value) (cs:List Value):Prop:=(∀x∈cs,oneV x)∧if agg then v=.agg cs.toArray else cs=[v]
theorem Packed.cells {agg:Bool} {v:Value} {cs:List Value} (h:Packed agg v cs):v.cells.toList=cs:=by
 obtain⟨h1,h2⟩:=h
 cases agg with
 |true=>simp only[if_true]at h2;subst h2;simp[Value.cells]
 |false=>
  simp only[Bool.false_eq_true,if_false]at h2
  subst h2
  rw[ZO (h1 v (by simp))]
theorem VR.packed {ob:List (Id×Obj)} {x:AV} {v:Value} (h:VR E w S0 G ob x v) (hx:∀vs,x≠.tup vs) (hd:x≠.dead):
  Packed (match x with|.agg _=>true|_=>false) v v.cells.toList∧v.cells.size=(flat x).length∧∀(i:Nat) (y:AV) (u:Value),(flat x)[i]?=some y→v.cells[i]?=some u→VR E w S0 G ob y u:=by
 have simple:∀{x:AV} {v:Value},VR E w S0 G ob x v→oneV v→flat x=[x]→Packed false v v.cells.toList∧v.cells.size=(flat x).length∧
   ∀(i:Nat) (y:AV) (u:Value),(flat x)[i]?=some y→v.cells[i]?=some u→VR E w S0 G ob y u:=fun{x v} h h1 hf=>by
  rw[hf,ZO h1]
  refine⟨⟨fun y hy=>?_,?_⟩,rfl,fun i y u hy hu=>?_⟩
  ·simp at hy;subst hy;exact h1
  ·simp
  ·cases i with
   |zero=>simp at hy hu;subst hy;subst hu;exact h
   |succ i=>simp at hy
 cases h with
 |dead=>exact absurd rfl hd
 |tup vs=>exact absurd rfl (hx vs)
 |agg cs arr hl h h1=>
  refine⟨⟨fun y hy=>?_,?_⟩,hl.symm,fun i y u hy hu=>h i y u hy hu⟩
  ·obtain⟨i,hi⟩:=List.getElem?_of_mem hy
   exact h1 i y (by simpa[Value.cells]using hi)
  ·simp[Value.cells]
 |i k n=>exact simple (.i k n) ⟨(fun _ h=>by cases h),(fun _ h=>by cases h)⟩ rfl
 |b x=>exact simple (.b x) ⟨(fun _ h=>by cases h),(fun _ h=>by cases h)⟩ rfl
 |s x=>exact simple (.s x) ⟨(fun _ h=>by cases h),(fun _ h=>by cases h)⟩ rfl
 |nil=>exact simple .nil ⟨(fun _ h=>by cases h),(fun _ h=>by cases h)⟩ rfl
 |fn f vs arr hl h=>exact simple (.fn f vs arr hl h) ⟨(fun _ h=>by cases h),(fun _ h=>by cases h)⟩ rfl
 |ro e al rows v h=>exact simple (.ro e al rows v h) h.one rfl
 |own o v h h1=>exact simple (.own o v h h1) h1 rfl
 |vw o lo n v h h1=>exact simple (.vw o lo n v h h1) h1 rfl
 |nest o ver row col e whole rows v h hn=>exact simple (.nest o ver row col e whole rows v h hn) h.one rfl
 |ptr o row off v h h1=>exact simple (.ptr o row off v h h1) h1 rfl
 |pro e te al cells off g o0 u ht hl hm hr=>exact simple (.pro e te al cells off g o0 u ht hl hm hr) ⟨(fun _ h=>by cases h),(fun _ h=>by cases h)⟩ rfl
def PureR (E:Env) (S0:Nat→Prop) (G:Gh) (ob:List (Id×Obj)) (run:Result Value) (w:World) (r:OpRes):Prop:=
 ∃x v,r.o=some []∧r.f []={v:=x}∧run=.ok v w∧VR E w S0 G ob x v
theorem Z4 {ob:List (Id×Obj)} {run:Result Value} {r:OpRes} {x:AV} {v:Value} (hr:val x=some r) (h1:run=.ok v w) (h2:VR E w S0 G ob x v):PureR E S0 G ob run w r:=by
 simp only[val,just,Option.some.injEq]at hr
 subst hr
 exact⟨x,v,rfl,rfl,h1,h2⟩
theorem Z6 {ob:List (Id×Obj)} {run:Result Value} {r:OpRes} {x:AV} {g:Bool} (hr:under g {v:=x}=some r) (hg:r.g=true) (h1:g=true→∃v,run=.ok v w∧VR E w S0 G ob x v):PureR E S0 G ob run w r:=by
 simp only[under,Option.some.injEq]at hr
 subst hr
 obtain⟨v,h2,h3⟩:=h1 hg
 exact⟨x,v,rfl,rfl,h2,h3⟩
theorem Z46 {α:Type} (l:List α) (d:α):l.headD d=l.getD 0 d:=by cases l<;>rfl
theorem VR.pack {ob:List (Id×Obj)} {t:TypeId} {ti:TI} (hT:TOk P E t ti) (cs:List AV) (u:Nat→Value) (hl:cs.length=ti.ls.length)
  (h:∀(i:Nat) (y:AV),cs[i]?=some y→VR E w S0 G ob y (u i)∧oneV (u i)):
  VR E w S0 G ob (pack ti.agg cs) (if ti.agg then .agg ((List.range ti.ls.length).map u).toArray else u 0):=by
 cases ha:ti.agg with
 |true=>
  simp only[Vai.pack,cond_true,if_true]
  refine .agg cs _ (by simp[hl]) (fun i y x hy hx=>?_) (fun i x hx=>?_)
  ·have hi:i<ti.ls.length:=by have:=(List.getElem?_eq_some_iff.mp hy).1;omega
   simp[hi]at hx
   subst hx
   exact(h i y hy).1
  ·have hi:i<ti.ls.length:=by
    have:=(Array.getElem?_eq_some_iff.mp hx).1
    simpa using this
   simp[hi]at hx
   subst hx
   exact(h i _ (List.getElem?_eq_getElem (by omega))).2
 |false=>
  obtain⟨l,hls,_⟩:=hT.single ha
  rw[hls]at hl
  match cs,hl with
  |[y],_=>
   simp only[Vai.pack,cond_false,List.headD_cons,Bool.false_eq_true,if_false]
   exact(h 0 y rfl).1
theorem Z2p (al:Bool) (ls:List Leaf) (ds:List Dat):(datAVs al ls ds).length=ls.length:=by
 induction ls generalizing ds with
 |nil=>rfl
 |cons l ls ih=>simp[datAVs,ih]
theorem Z1r (al:Bool):∀(ls:List Leaf) (ds:List Dat) (i:Nat),(datAVs al ls ds)[i]?=(ls[i]?).map fun l=>datAV al l (ds.getD i default)
 |[],ds,i=>by simp[datAVs]
 |l::ls,ds,i=>by
  cases i with
  |zero=>cases ds<;>rfl
  |succ i=>
   simp only[datAVs,List.getElem?_cons_succ]
   rw[Z1r al ls ds.tail i]
   cases ds<;>simp
theorem Z1U (o:Id) (ver:Nat) (row:Int):∀(ls:List Leaf) (c:Nat) (ds:List Dat) (i:Nat),(nestAVs o ver row c ls ds)[i]?=(ls[i]?).map fun l=>nestAV o ver row (c+i) l (ds.getD i default)
 |[],c,ds,i=>by simp[nestAVs]
 |l::ls,c,ds,i=>by
  cases i with
  |zero=>cases ds<;>rfl
  |succ i=>
   simp only[nestAVs,List.getElem?_cons_succ]
   rw[Z1U o ver row ls (c+1) ds.tail i]
   have:c+1+i=c+(i+1):=by omega
   rw[this]
   cases ds<;>simp
theorem Z0d (o:Id) (ver:Nat) (row:Int) (c:Nat) (ls:List Leaf) (ds:List Dat):(nestAVs o ver row c ls ds).length=ls.length:=by
 induction ls generalizing ds c with
 |nil=>rfl
 |cons l ls ih=>simp[nestAVs,ih]
theorem Z1s {l l':Leaf} (h:leafEq l l'=true):l=l':=by
 cases l<;>cases l'<;>simp[leafEq,ikEq]at h<;>simp_all
theorem Z0g:∀(ls:List Leaf) (off:Nat) (es:List Leaf),liesIn ls off es=true→∀(i:Nat) (l:Leaf),ls[i]?=some l→es[off+i]?=some l
 |[],_,_,_,i,l,h=>by simp at h
 |l0::ls,off,es,hl,i,l,h=>by
  simp only[liesIn,Bool.and_eq_true]at hl
  obtain⟨h1,h2⟩:=hl
  cases i with
  |zero=>
   simp at h;subst h
   cases he:es[off]? with
   |none=>rw[he]at h1;cases h1
   |some l'=>rw[he]at h1;simp only at h1;rw[Z1s h1]
  |succ i=>
   have:=Z0g ls (off+1) es h2 i l (by simpa using h)
   rw[←this]
   congr 1
   omega
theorem Z1k {ls:List Leaf} {off:Nat} {e:TypeId} (h:fits E ls off e=true):∃te,E.T e=some te∧∀(i:Nat) (l:Leaf),ls[i]?=some l→te.ls[off+i]?=some l:=by
 unfold fits at h
 split at h
 ·rename_i te ht
  exact⟨te,ht,Z0g ls off te.ls h⟩
 ·cases h
theorem Z2L {α:Type} (l:List α) (n i:Nat) (d:α):(l.drop n).getD i d=l.getD (n+i) d:=by simp[List.getD]
theorem VR.datAV {ob:List (Id×Obj)} {al:Bool} {l:Leaf} {d:Dat} {v:Value} (h:RD E w (fun b=>S0 b∨(al=true∧b∈G.F)) l d v):VR E w S0 G ob (datAV al l d) v:=by
 cases h with
 |int k d=>exact .i _ _
 |bool d=>exact .b _
 |str d=>exact .s _
 |sl e te d A c u ht hc hl hm hr=>exact .ro _ _ _ _ (RD.sl_dat (.sl e te d A c u ht hc hl hm hr) rfl)
theorem OT.win {e:TypeId} {te:TI} {d:Dat} {v:Value} {bs:List Nat} (h:OT E w (.sl e) d v bs) (ht:E.T e=some te):Win te.ls.length d.rows.length v 0 d.rows.length v:=by
 cases h with
 |nil _ _ _ _ h=>rw[h];exact⟨by omega,by simp,by simp,none,0,by simp,rfl,rfl,rfl⟩
 |row e te' d g off c arr u bs ht' hb hc hs hl hm hr=>
  rw[ht]at ht';cases ht'
  exact⟨by omega,by omega,by omega,some ⟨g,off,none⟩,c,by simp,off,rfl,by simp,by simpa using hc,.inr (by simp),Nat.le_refl _⟩
theorem Z47 (hE:EnvOk P E) (h:RelG E base M S0 R0 w0 nt G st a w) (hlook:∀i x,look i=some x→getO st.ob i=some x) {t:TypeId} {x:AV} {v:Value}
  (hv:VR E w S0 G st.ob x v) {r:OpRes} (hr:opLoad E look t x=some r):PureR E S0 G st.ob ((Instr.loadAt t v).run P w) w r:=by
 cases hv with
 |ptr o row off v hp h1=>
  simp only[opLoad]at hr
  split at hr
  ·cases hr
  ·rename_i ti ht
   have hT:=hE.T t ti ht
   split at hr
   ·rename_i bt cells hl
    have hg:=hlook _ _ hl
    cases hb:Nat.ble (off+ti.ls.length) cells.length<;>rw[hb]at hr
    ·cases hr
    simp only[cond_true]at hr
    have hb':=Nat.le_of_ble_eq_true hb
    obtain⟨_,g,hroot,rfl⟩:=hp.1 _ _ hg
    obtain⟨g',arr,et,b1,b2,b3,b4,b5,b6⟩:=(h.objs o _ hg:BoxR E w S0 G st.ob cells _ _ _)
    rw[hroot]at b1;cases b1
    have hcell:∀i,i<ti.ls.length→w.cell? ⟨g,off+i,none⟩=some (arr.getD (off+i) undef):=fun i hi=>by
     simp only[World.cell?,b4]
     have:off+i<arr.size:=by omega
     simp[this]
    refine Z4 hr (v:=if ti.agg then .agg ((List.range ti.ls.length).map fun i=>arr.getD (off+i) undef).toArray else arr.getD (off+0) undef) ?_ ?_
    ·simp only[Instr.loadAt,Instr.sureAddr,Sem.run_bind,Sem.run_pure,Result.andThen_ok]
     exact Zf hT g off (fun i=>arr.getD (off+i) undef) hcell
    ·refine VR.pack hT _ (fun i=>arr.getD (off+i) undef) (by simp;omega) (fun i y hy=>?_)
     rw[List.getElem?_take]at hy
     split at hy
     ·rename_i hi
      rw[List.getElem?_drop]at hy
      have hsz:off+i<arr.size:=by omega
      exact b6 (off+i) y _ hy (by simp[hsz])
     ·cases hy
   ·rename_i e rows dp ver holes hl
    have hg:=hlook _ _ hl
    rcases Bool.eq_false_or_eq_true (colIn off ti.ls.length holes|| !fits E ti.ls off e)with hb|hb<;>rw[hb]at hr
    ·cases hr
    simp only[cond_false]at hr
    simp only[Bool.or_eq_false_iff,Bool.not_eq_false']at hb
    obtain⟨hcol,hfit⟩:=hb
    obtain⟨te,hte,hfits⟩:=Z1k hfit
    obtain⟨hrow0,hrow1,g,o0,n,c,hroot,rfl⟩:=hp.2.1 _ _ _ _ _ te hg hte
    obtain⟨te',b1,b2,b3⟩:=(h.objs o _ hg:RowR E w _ e rows dp holes _ _ _)
    rw[hte]at b1;cases b1
    rcases b3 with ⟨b3,_⟩|⟨g',off',c',arr,u,bs,a1,a2,a3,a4,a5,a6,a7,a8,a9,a10⟩
    ·rw[b3]at hroot;cases hroot
    rw[a1]at hroot;cases hroot
    have hlt:∀i,i<ti.ls.length→off+i<te.ls.length:=fun i hi=>(List.getElem?_eq_some_iff.mp (hfits i _ (List.getElem?_eq_getElem hi))).1
    have hcell:∀i,i<ti.ls.length→w.cell? ⟨g,o0+(row.toNat*te.ls.length+off)+i,none⟩=some (u row.toNat (off+i)):=fun i hi=>by
     have:=(a6 row.toNat (off+i) hrow1 (hlt i hi)).1
     simp only[World.cell?,a3]
     rw[←this]
     simp only[Option.isSome_none,Bool.false_eq_true,if_false]
     congr 1
     omega
    have nohole:∀i,i<ti.ls.length→∀q,(q,off+i)∉holes:=fun i hi q hq=>by
     have:∀hs:List (Int×Nat),(q,off+i)∈hs→colIn off ti.ls.length hs=true:=fun hs=>by
      induction hs with
      |nil=>intro hh;cases hh
      |cons p hs ih=>
       intro hh
       obtain⟨p1,p2⟩:=p
       simp only[colIn]
       rcases List.mem_cons.mp hh with hh|hh
       ·cases hh
        have c1:Nat.ble off (off+i)=true:=Nat.ble_eq.mpr (by omega)
        have c2:Nat.blt (off+i) (off+ti.ls.length)=true:=Nat.ble_eq.mpr (by omega)
        simp[c1,c2]
       ·rw[ih hh];cases(Nat.ble off p2&&Nat.blt p2 (off+ti.ls.length))<;>rfl
     rw[this holes hq]at hcol;cases hcol
    have hrw:rows[row.toNat]?=some (rows.getD row.toNat []):=by simp[List.getElem?_eq_getElem hrow1,List.getD]
    refine Z4 hr (v:=if ti.agg then .agg ((List.range ti.ls.length).map fun i=>u row.toNat (off+i)).toArray else u row.toNat (off+0)) ?_ ?_
    ·simp only[Instr.loadAt,Instr.sureAddr,Sem.run_bind,Sem.run_pure,Result.andThen_ok]
     exact Zf hT g _ (fun i=>u row.toNat (off+i)) hcell
    ·refine VR.pack hT _ (fun i=>u row.toNat (off+i)) (Z0d _ _ _ _ _ _) (fun i y hy=>⟨?_,?_⟩)
     ·rw[Z1U]at hy
      obtain⟨l,hli,rfl⟩:=Option.map_eq_some_iff.mp hy
      have hi:i<ti.ls.length:=(List.getElem?_eq_some_iff.mp hli).1
      have hl':=hfits i l hli
      have key:=a7 row.toNat (off+i) _ l hrw hl' (fun⟨q,hq,_⟩=>nohole i hi q hq)
      rw[Z2L]
      cases dp with
      |false=>
       simp only[Bool.false_eq_true,if_false]at key
       generalize u row.toNat (off+i)=uv at key
       cases key with
       |int k d=>exact .i _ _
       |bool d=>exact .b _
       |str d=>exact .s _
       |sl e1 te1 _ A c1 u1 ht1 hc1 hl1 hm1 hr1=>
        refine .nest _ _ _ _ _ _ _ _ (RD.sl_dat (.sl e1 te1 _ A c1 u1 ht1 hc1 hl1 hm1 hr1) rfl) ⟨fun eo rows' dp' vr' h' hg'=>?_,fun eo rows' vr' h' te' hg' _ _ _=>?_⟩
        ·rw[hg]at hg';cases hg';exact Nat.le_refl _
        ·rw[hg]at hg';cases hg'
      |true=>
       simp only[if_true]at key
       have hins:∀b∈bs row.toNat (off+i),b∈G.F:=fun b hb=>(h.ins o _ hg).1 b (by
        rw[a8 rfl];exact Z2.mpr ⟨row.toNat,off+i,hrow1,hlt i hi,hb⟩)
       have hrd:=key.rd (S:=fun b=>S0 b∨b∈G.F) (fun b hb=>.inr (hins b hb))
       obtain⟨uv,huv⟩:∃uv,u row.toNat (off+i)=uv:=⟨_,rfl⟩
       rw[huv]at hrd key⊢
       cases l with
       |int k=>cases hrd with|int k d=>exact .i _ _
       |bool=>cases hrd with|bool d=>exact .b _
       |str=>cases hrd with|str d=>exact .s _
       |sl e1=>
        refine .nest _ _ _ _ _ _ _ _ (hrd.sl_dat rfl) ⟨fun eo rows' dp' vr' h' hg'=>?_,fun eo rows' vr' h' te' hg' hv' hh' ht'=>?_⟩
        ·rw[hg]at hg';cases hg';exact Nat.le_refl _
        ·rw[hg]at hg';cases hg'
         rw[hte]at ht';cases ht'
         obtain⟨te1,hte1⟩:=(hE.T e te hte).elem e1 (List.mem_of_getElem? hl')
         refine⟨hrow0,hl',_,g,o0,_,_,uv,hrw,a1,?_,fun _=>rfl,0,_,te1,hte1,key.win hte1⟩
         have:=hcell i hi
         rw[huv]at this
         rw[←this];congr 2;omega
     ·have hi:i<ti.ls.length:=by
       have:=(List.getElem?_eq_some_iff.mp hy).1
       rwa [Z0d]at this
      exact(a6 row.toNat (off+i) hrow1 (hlt i hi)).2
   ·cases hr
 |pro e te al cells off g o0 u hte hl hm hrd=>
  simp only[opLoad]at hr
  split at hr
  ·cases hr
  ·rename_i ti ht
   have hT:=hE.T t ti ht
   cases hb:fits E ti.ls off e<;>rw[hb]at hr
   ·cases hr
   simp only[cond_true]at hr
   obtain⟨te',hte',hfits⟩:=Z1k hb
   rw[hte]at hte';cases hte'
   have hlt:∀i,i<ti.ls.length→off+i<te.ls.length:=fun i hi=>(List.getElem?_eq_some_iff.mp (hfits i _ (List.getElem?_eq_getElem hi))).1
   refine Z4 hr (v:=if ti.agg then .agg ((List.range ti.ls.length).map fun i=>u (off+i)).toArray else u (off+0)) ?_ ?_
   ·simp only[Instr.loadAt,Instr.sureAddr,Sem.run_bind,Sem.run_pure,Result.andThen_ok]
    refine Zf hT g _ (fun i=>u (off+i)) (fun i hi=>?_)
    rw[Nat.add_assoc]
    exact(hm (off+i) (hlt i hi)).2
   ·refine VR.pack hT _ (fun i=>u (off+i)) (Z2p _ _ _) (fun i y hy=>?_)
    rw[Z1r]at hy
    obtain⟨l,hli,rfl⟩:=Option.map_eq_some_iff.mp hy
    rw[Z2L]
    have:=hrd (off+i) l (hfits i l hli)
    exact⟨.datAV this,this.one⟩
 |_=>simp[opLoad]at hr
end
end Go.Proofs.YtnihikajdbcoaaaGreat.Vai
namespace Go.Proofs.YtnihikajdbcoaaaGreat.Vai
open Go
section
variable {P:Program} {E:Env} {base:Nat} {M:List Nat} {S0:Nat→Prop} {R0:Id→Value} {w0:World} {nt:Nat} {G:Gh} {st:St} {a:Act} {w:World} {look:Look}
theorem Z0 {α:Type} {b:Bool} {x:Option α} {y:α} (h:(bif b then x else none)=some y):b=true∧x=some y:=by
 cases b
 ·cases h
 ·exact⟨rfl,h⟩
theorem Z08 (g o i:Nat):(⟨g,o,none⟩:Addr).add i=⟨g,o+i,none⟩:=by unfold Addr.add;split<;>simp_all
theorem Z0s {s:TypeId} {ti:TI} (hE:EnvOk P E) (ht:E.T s=some ti) {f fo:Nat} {ft:TypeId} (hf:ti.fs[f]?=some (fo,ft)) (ha:ti.agg=true) (g o:Nat):
  (Instr.fieldAt s (.pointer (some ⟨g,o,none⟩)) f).run P w=.ok (.pointer (some ⟨g,o+fo,none⟩)) w:=by
 have h:=hE.T _ _ ht
 obtain⟨fields,hu,hfs⟩:=hE.struct ht ha
 rw[←hfs]at hf
 simp only[List.getElem?_map,Option.map_eq_some_iff,Prod.mk.injEq]at hf
 obtain⟨fd,hfd,rfl,rfl⟩:=hf
 obtain⟨fi,hfi,_⟩:=h.fld f fd.offset fd.type (by rw[←hfs];simp[hfd])
 have hsz:=(hE.T _ _ hfi).size w
 have hpos:¬fi.ls.length=0:=by have:=(hE.T _ _ hfi).pos.1;omega
 have hfd':fields[f]?=some fd:=by simpa using hfd
 simp only[Instr.fieldAt,Sem.run_bind,run_underlying hu,Result.andThen_ok,hfd',Instr.sureAddr,Sem.run_pure,fieldPlace,hsz,hpos,if_false,Sem.run_ite,Z08]
theorem VR.one_of {ob:List (Id×Obj)} {x:AV} {v:Value} (h:VR E w S0 G ob x v) (h1:∀cs,x≠.agg cs) (h2:∀vs,x≠.tup vs) (h3:x≠.dead):oneV v:=by
 cases h with
 |dead=>exact absurd rfl h3
 |agg cs=>exact absurd rfl (h1 cs)
 |tup vs=>exact absurd rfl (h2 vs)
 |ro e al rows v h=>exact h.one
 |own o v h h1=>exact h1
 |vw o lo n v h h1=>exact h1
 |nest o ver row col e whole rows v h hn=>exact h.one
 |ptr o row off v h h1=>exact h1
 |_=>exact⟨(fun _ h=>by cases h),(fun _ h=>by cases h)⟩
theorem Z3n (hE:EnvOk P E) {s:TypeId} {ti:TI} (ht:E.T s=some ti) {f fo:Nat} {ft:TypeId} (hf:ti.fs[f]?=some (fo,ft)) {o:Id} {row:Int} {off:Nat} {v:Value}
  (hv:VR E w S0 G st.ob (.ptr o row off) v) (hlive:∃x,getO st.ob o=some x∧∀kl el es,x≠.mp kl el es) (h:RelG E base M S0 R0 w0 nt G st a w) (ha:ti.agg=true):
  ∃v',(Instr.fieldAt s v f).run P w=.ok v' w∧VR E w S0 G st.ob (.ptr o row (off+fo)) v':=by
 cases hv with
 |ptr _ _ _ _ hp h1=>
  obtain⟨x,hx,hnm⟩:=hlive
  have key:∀g o',v=.pointer (some ⟨g,o',none⟩)→(Instr.fieldAt s v f).run P w=.ok (.pointer (some ⟨g,o'+fo,none⟩)) w:=fun g o' e=>by
   subst e;exact Z0s hE ht hf ha g o'
  cases x with
  |mp kl el es=>exact absurd rfl (hnm kl el es)
  |box t cells=>
   obtain⟨h0,g,hr,hv⟩:=hp.1 _ _ hx
   refine⟨_,key g off hv,.ptr _ _ _ _ ⟨fun t' c' hx'=>?_,fun e rows dp vr hh te hx' _=>?_,fun kl el es hx'=>by rw[hx]at hx';cases hx'⟩ ⟨(fun _ h=>by cases h),(fun _ h=>by cases h)⟩⟩
   ·exact⟨h0,g,hr,rfl⟩
   ·rw[hx]at hx';cases hx'
  |row e rows dp vr hh=>
   obtain⟨te,b1,_⟩:=(h.objs o _ hx:RowR E w _ e rows dp hh _ _ _)
   obtain⟨q1,q2,g,o0,n,c,q3,q4⟩:=hp.2.1 _ _ _ _ _ te hx b1
   refine⟨_,key g _ q4,.ptr _ _ _ _ ⟨fun t' c' hx'=>?_,fun e rows dp vr hh te' hx' hte'=>?_,fun kl el es hx'=>by rw[hx]at hx';cases hx'⟩ ⟨(fun _ h=>by cases h),(fun _ h=>by cases h)⟩⟩
   ·rw[hx]at hx';cases hx'
   ·rw[hx]at hx';cases hx'
    rw[b1]at hte';cases hte'
    exact⟨q1,q2,g,o0,n,c,q3,by rw[Nat.add_assoc,Nat.add_assoc]⟩
theorem Z0h {t e:TypeId} {te:TI} (hu:P.underlying t=some (.slice e)) (hT:TOk P E e te) (k:IntKind) (n:Int) (g o len c:Nat) (h0:0≤n) (h1:n<(len:Int)):
  (Instr.indexAt t (.slice (some ⟨g,o,none⟩) len c) (.int k n)).run P w=.ok (.pointer (some ⟨g,o+n.toNat*te.ls.length,none⟩)) w:=by
 simp only[Instr.indexAt,asIntOf,Sem.run_bind,Sem.run_pure,Result.andThen_ok,run_underlying hu]
 have:0≤n∧n<(len:Int):=⟨h0,h1⟩
 simp[this,hT.size,Z08]
theorem Z48 {t e:TypeId} {te:TI} {m:Nat} (hu:P.underlying t=some (.array m e)) (hT:TOk P E e te) (k:IntKind) (n:Int) (g o:Nat) (h0:0≤n) (h1:n<(m:Int)):
  (Instr.indexAt t (.pointer (some ⟨g,o,none⟩)) (.int k n)).run P w=.ok (.pointer (some ⟨g,o+n.toNat*te.ls.length,none⟩)) w:=by
 simp only[Instr.indexAt,asIntOf,Sem.run_bind,Sem.run_pure,Result.andThen_ok,run_underlying hu,Instr.sureAddr]
 have:0≤n∧n<(m:Int):=⟨h0,h1⟩
 simp[this,hT.size,Z08,run_underlying hu]
theorem Z3T (hE:EnvOk P E) (hlook:∀i x,look i=some x→getO st.ob i=some x) {t e:TypeId} {ti te:TI} (hA:E.A t=some (e,ti)) (hte:E.T e=some te)
  {x:AV} {v:Value} {k:IntKind} {n:Int} (hv:VR E w S0 G st.ob x v) {r:OpRes} (hr:opIndexA look te.ls.length ti x n=some r) (hg:r.g=true):
  PureR E S0 G st.ob ((Instr.indexAt t v (.int k n)).run P w) w r:=by
 obtain⟨_,hu,_⟩:=hE.A t e ti hA
 cases hv with
 |ptr o row off v hp h1=>
  simp only[opIndexA]at hr
  split at hr
  ·rename_i bt cells hl
   have hgo:=hlook _ _ hl
   refine Z6 hr hg fun hb'=>?_
   have hb2:0≤n∧n<(ti.fs.length:Int):=by simpa using hb'
   obtain⟨h0,g,hr0,rfl⟩:=hp.1 _ _ hgo
   refine⟨_,Z48 hu (hE.T e te hte) k n g off hb2.1 hb2.2,.ptr _ _ _ _ ⟨fun t' c' hx'=>?_,fun e rows dp vr hh te' hx' hte'=>?_,fun kl el es hx'=>?_⟩ ⟨(fun _ h=>by cases h),(fun _ h=>by cases h)⟩⟩
   ·exact⟨h0,g,hr0,rfl⟩
   ·rw[hgo]at hx';cases hx'
   ·rw[hgo]at hx';cases hx'
  ·cases hr
 |_=>simp[opIndexA]at hr
theorem Z2C (hE:EnvOk P E) (h:RelG E base M S0 R0 w0 nt G st a w) (hlook:∀i x,look i=some x→getO st.ob i=some x) {t e:TypeId} (hu:P.underlying t=some (.slice e)) {te:TI} (hte:E.T e=some te)
  {x:AV} {v:Value} {k:IntKind} {n:Int} (hv:VR E w S0 G st.ob x v) {r:OpRes} (hr:opIndexAddr look e x n=some r) (hg:r.g=true):
  PureR E S0 G st.ob ((Instr.indexAt t v (.int k n)).run P w) w r:=by
 have hT:=hE.T e te hte
 have hb:∀m:Nat,(decide (0≤n)&&decide (n<(m:Int)))=true→0≤n∧n<(m:Int):=fun m hm=>by simpa using hm
 have rd:∀(al:Bool) (rows:List (List Dat)),RD E w (fun b=>S0 b∨(al=true∧b∈G.F)) (.sl e) (.sl rows) v→0≤n→n<(rows.length:Int)→
   ∃v',(Instr.indexAt t v (.int k n)).run P w=.ok v' w∧VR E w S0 G st.ob (.pro e al (rows.getD n.toNat []) 0) v':=fun al rows hrd h0 h1=>by
  cases hrd with
  |sl _ te' _ A c u ht' hc hl hm hr'=>
   rw[hte]at ht';cases ht'
   simp only[Dat.rows]at hc hl hm hr'⊢
   have hn:n.toNat<rows.length:=by omega
   have hrow:rows[n.toNat]?=some (rows.getD n.toNat []):=by simp[List.getElem?_eq_getElem hn,List.getD]
   obtain⟨ad,rfl,hsp,_,_⟩:=hm n.toNat 0 hn hT.pos.1
   obtain⟨g,o0,sp⟩:=ad
   simp only at hsp;subst hsp
   refine⟨_,Z0h hu hT k n g o0 rows.length c h0 h1,?_⟩
   have:=VR.pro (E:=E) (w:=w) (S0:=S0) (G:=G) (ob:=st.ob) e te al (rows.getD n.toNat []) 0 g (o0+n.toNat*te.ls.length) (fun i=>u n.toNat i) hte (hl _ _ hrow) (fun i hi=>by
    obtain⟨ad,q1,q2,q3,q4⟩:=hm n.toNat i hn hi
    cases q1
    exact⟨q3,by rw[Nat.add_assoc];exact q4⟩) (fun i l hl'=>hr' n.toNat i _ l hrow hl')
   simpa using this
 cases hv with
 |own o v hr0 h1=>
  simp only[opIndexAddr]at hr
  split at hr
  ·rename_i e0 rows dp vr hh hl
   have hgo:=hlook _ _ hl
   obtain⟨he,hr2⟩:=Z0 hr;clear hr;have hr:=hr2;clear hr2
   have he:=Z3 he;subst he
   refine Z6 hr hg fun hb'=>?_
   obtain⟨n0,n1⟩:=hb _ hb'
   rw[hr0 _ _ _ _ _ hgo]
   obtain⟨te',b1,b2,b3⟩:=(h.objs o _ hgo:RowR E w _ e rows dp hh _ _ _)
   rw[hte]at b1;cases b1
   rcases b3 with ⟨b3,b4,_⟩|⟨g,off,c,arr,u,bs,a1,a2,a3,a4,a5,a6,a7,a8,a9,a10⟩
   ·subst b4;simp at n1;omega
   ·rw[a1]
    refine⟨_,Z0h hu hT k n g off rows.length c n0 n1,.ptr _ _ _ _ ⟨fun t' c' hx'=>?_,fun e rows' dp vr hh te' hx' hte'=>?_,fun kl el es hx'=>by rw[hgo]at hx';cases hx'⟩ ⟨(fun _ h=>by cases h),(fun _ h=>by cases h)⟩⟩
    ·rw[hgo]at hx';cases hx'
    ·rw[hgo]at hx';cases hx'
     rw[hte]at hte';cases hte'
     exact⟨n0,by omega,g,off,_,c,a1,by simp⟩
  ·cases hr
 |vw o lo m v hr0 h1=>
  simp only[opIndexAddr]at hr
  split at hr
  ·rename_i e0 rows dp vr hh hl
   have hgo:=hlook _ _ hl
   obtain⟨he,hr2⟩:=Z0 hr;clear hr;have hr:=hr2;clear hr2
   have he:=Z3 he;subst he
   refine Z6 hr hg fun hb'=>?_
   have⟨n0,n1⟩:0≤n∧n<m:=by simpa using hb'
   obtain⟨l0,l1,l2,A',c',rfl,l3⟩:=hr0 _ _ _ _ _ te hgo hte
   obtain⟨te',b1,b2,b3⟩:=(h.objs o _ hgo:RowR E w _ e rows dp hh _ _ _)
   rw[hte]at b1;cases b1
   rcases b3 with ⟨b3,b4,_⟩|⟨g,off,c,arr,u,bs,a1,a2,a3,a4,a5,a6,a7,a8,a9,a10⟩
   ·subst b4;simp at l2;omega
   ·rw[a1]at l3
    simp only at l3
    obtain⟨off',rfl,l4,l5,l6,l7⟩:=l3
    have l6:off'=off+lo.toNat*te.ls.length:=l6.resolve_left (by omega)
    subst l6
    refine⟨_,Z0h hu hT k n g _ m.toNat c' n0 (by omega),.ptr _ _ _ _ ⟨fun t' c' hx'=>?_,fun e rows' dp vr hh te' hx' hte'=>?_,fun kl el es hx'=>by rw[hgo]at hx';cases hx'⟩ ⟨(fun _ h=>by cases h),(fun _ h=>by cases h)⟩⟩
    ·rw[hgo]at hx';cases hx'
    ·rw[hgo]at hx';cases hx'
     rw[hte]at hte';cases hte'
     refine⟨by omega,by omega,g,off,_,c,a1,?_⟩
     have:(lo+n).toNat=lo.toNat+n.toNat:=by omega
     rw[this,Nat.add_mul]
     simp[Nat.add_assoc]
  ·cases hr
 |ro e0 al rows v hrd=>
  simp only[opIndexAddr]at hr
  obtain⟨he,hr2⟩:=Z0 hr;clear hr;have hr:=hr2;clear hr2
  have he:=Z3 he;subst he
  have hr':=hr
  simp only[under,Option.some.injEq]at hr'
  subst hr'
  obtain⟨n0,n1⟩:=hb _ hg
  obtain⟨v',q1,q2⟩:=rd al rows hrd n0 n1
  exact⟨_,v',rfl,rfl,q1,q2⟩
 |nest o ver row col e0 whole rows v hrd hn=>
  simp only[opIndexAddr]at hr
  obtain⟨he,hr2⟩:=Z0 hr;clear hr;have hr:=hr2;clear hr2
  have he:=Z3 he;subst he
  have hr':=hr
  simp only[under,Option.some.injEq]at hr'
  subst hr'
  obtain⟨n0,n1⟩:=hb _ hg
  obtain⟨v',q1,q2⟩:=rd true rows (hrd.mono fun b hb=>hb.imp id fun hb=>⟨rfl,hb⟩) n0 n1
  exact⟨_,v',rfl,rfl,q1,q2⟩
 |_=>simp[opIndexAddr]at hr
end
end Go.Proofs.YtnihikajdbcoaaaGreat.Vai
namespace Go.Proofs.YtnihikajdbcoaaaGreat.Vai
open Go
section
variable {P:Program} {E:Env} {base:Nat} {M:List Nat} {S0:Nat→Prop} {R0:Id→Value} {w0:World} {nt:Nat} {G:Gh} {st:St} {a:Act} {w:World} {look:Look}
def BndR (E:Env) (w:World) (S0:Nat→Prop) (G:Gh) (ob:List (Id×Obj)):Option AV→Option Value→Prop
 |none,none=>True
 |some x,some v=>VR E w S0 G ob x v
 |_,_=>False
theorem Zc (k:IntKind) (i:Int) (y:Nat) (code:BoundsCode) (h0:0≤i) (h1:i≤(y:Int)) (w:World):(Instr.sliceBound (.int k i) y code).run P w=.ok i.toNat w:=by
 simp[Instr.sliceBound,asIntOf,h0,h1]
theorem Z3U {t:TypeId} (hu:P.underlying t=some .string) {s:ByteArray} {lo hi:Option AV} {vlo vhi:Option Value} (hlo:BndR E w S0 G st.ob lo vlo) (hhi:BndR E w S0 G st.ob hi vhi)
  {r:OpRes} (hr:opSliceS s lo hi=some r) (hg:r.g=true):PureR E S0 G st.ob ((Instr.sliceAt t (.string s) vlo vhi none).run P w) w r:=by
 unfold opSliceS at hr
 have hs:s.extract 0 s.size=s:=by
  apply ByteArray.ext
  simp
 split at hr
 ·cases vlo with
  |some _=>cases hlo
  |none=>
  cases vhi with
  |some _=>cases hhi
  |none=>exact Z4 hr (by simp[Instr.sliceAt,run_underlying hu,Instr.slice,Instr.sliceBounds]) (.s _)
 ·rename_i kl l
  cases vhi with
  |some _=>cases hhi
  |none=>
  cases vlo with
  |none=>cases hlo
  |some v=>
   cases(hlo:VR E w S0 G st.ob (.i kl l) v)
   refine Z6 hr hg fun hb=>?_
   have⟨l0,l1⟩:0≤l∧l≤(s.size:Int):=by simpa using hb
   exact⟨_,by simp[Instr.sliceAt,run_underlying hu,Instr.slice,Instr.sliceBounds,Zc kl l s.size _ l0 l1],.s _⟩
 ·rename_i kh hh
  cases vlo with
  |some _=>cases hlo
  |none=>
  cases vhi with
  |none=>cases hhi
  |some v=>
   cases(hhi:VR E w S0 G st.ob (.i kh hh) v)
   refine Z6 hr hg fun hb=>?_
   have⟨l0,l1⟩:0≤hh∧hh≤(s.size:Int):=by simpa using hb
   exact⟨_,by simp[Instr.sliceAt,run_underlying hu,Instr.slice,Instr.sliceBounds,Zc kh hh s.size _ l0 l1],.s _⟩
 ·rename_i kl l kh hh
  cases vlo with
  |none=>cases hlo
  |some vl=>
  cases vhi with
  |none=>cases hhi
  |some vh=>
   cases(hlo:VR E w S0 G st.ob (.i kl l) vl)
   cases(hhi:VR E w S0 G st.ob (.i kh hh) vh)
   refine Z6 hr hg fun hb=>?_
   have⟨l0,l1,l2⟩:0≤l∧l≤hh∧hh≤(s.size:Int):=by simpa using hb
   exact⟨_,by simp[Instr.sliceAt,run_underlying hu,Instr.slice,Instr.sliceBounds,Zc kh hh s.size _ (by omega) l2,Zc kl l hh.toNat _ l0 (by omega)],.s _⟩
 ·cases hr
theorem Z0N {t e:TypeId} {te:TI} (hu:P.underlying t=some (.slice e)) (hT:TOk P E e te) (A:Option Addr) (n c l h:Nat) (hl:l≤h) (hh:h≤n) (hn:n≤c)
  {vlo vhi:Option Value} (h1:vlo=none∧l=0∨∃k,vlo=some (.int k l)) (h2:vhi=none∧h=n∨∃k,vhi=some (.int k h)):
  (Instr.sliceAt t (.slice A n c) vlo vhi none).run P w=.ok (.slice (if c=l then A else A.map (·.add (l*te.ls.length))) (h-l) (c-l)) w:=by
 rcases h1 with ⟨rfl,rfl⟩|⟨kl,rfl⟩<;>rcases h2 with ⟨rfl,rfl⟩|⟨kh,rfl⟩
 ·simp[Instr.sliceAt,run_underlying hu,Instr.slice,Instr.sliceBounds,hT.size]
 ·simp[Instr.sliceAt,run_underlying hu,Instr.slice,Instr.sliceBounds,hT.size,Zc kh (h:Int) c _ (by omega) (by omega)]
 ·simp[Instr.sliceAt,run_underlying hu,Instr.slice,Instr.sliceBounds,hT.size,Zc kl (l:Int) h _ (by omega) (by omega)]
 ·simp[Instr.sliceAt,run_underlying hu,Instr.slice,Instr.sliceBounds,hT.size,Zc kh (h:Int) c _ (by omega) (by omega),Zc kl (l:Int) h _ (by omega) (by omega)]
theorem Win.cut {sz m:Nat} {root:Value} {lo n:Int} {A:Option Addr} {c:Nat} (h:Win sz m root lo n (.slice A n.toNat c)) (l hh:Nat) (h1:l≤hh) (h2:(hh:Int)≤n):
  Win sz m root (lo+l) ((hh:Int)-l) (.slice (if c=l then A else A.map (·.add (l*sz))) (hh-l) (c-l)):=by
 obtain⟨q0,q1,q2,A',c',he,q3⟩:=h
 cases he
 have e1:((hh:Int)-l).toNat=hh-l:=by omega
 refine⟨by omega,by omega,by omega,_,c-l,by rw[e1],?_⟩
 cases root with
 |slice R rn rc=>
  cases R with
  |none=>
   simp only at q3⊢
   obtain⟨rfl,rfl,rfl⟩:=q3
   exact⟨by split<;>rfl,by omega,rfl⟩
  |some ad=>
   simp only at q3⊢
   obtain⟨off',rfl,q4,q5,q6,q7⟩:=q3
   by_cases hc:c=l
   ·subst hc
    simp only[if_true]
    refine⟨off',rfl,by omega,by omega,.inl (by omega),?_⟩
    have:off'+0≤off'+c*sz:=by omega
    simp only[Nat.sub_self,Nat.zero_mul]
    omega
   ·simp only[hc,if_false,Option.map_some]
    have hlc:l<c:=by omega
    have q6:off'=ad.off+lo.toNat*sz:=q6.resolve_left (by omega)
    subst q6
    refine⟨_,congrArg some (Z08 _ _ _),by omega,by omega,.inr ?_,?_⟩
    ·have:(lo+(l:Int)).toNat=lo.toNat+l:=by omega
     rw[this,Nat.add_mul];omega
    ·have:c*sz=l*sz+(c-l)*sz:=by rw[←Nat.add_mul];congr 1;omega
     omega
 |_=>exact q3.elim
theorem Win.whole {S:Nat→Prop} {e:TypeId} {rows:List (List Dat)} {deep:Bool} {holes:List (Int×Nat)} {root:Value} {top ins:List Nat} {te:TI} (ht:E.T e=some te)
  (h:RowR E w S e rows deep holes root top ins):∃A c,root=.slice A rows.length c∧rows.length≤c∧Win te.ls.length rows.length root 0 rows.length root:=by
 obtain⟨te',b1,b2,b3⟩:=h
 rw[ht]at b1;cases b1
 rcases b3 with ⟨rfl,rfl,_,_⟩|⟨g,off,c,arr,u,bs,a1,a2,a3,a4,a5,a6,a7,a8,a9,a10⟩
 ·exact⟨none,0,rfl,Nat.le_refl _,by omega,by simp,by simp,none,0,by simp,rfl,rfl,rfl⟩
 ·rw[a1]
  exact⟨_,c,rfl,a4,by omega,by omega,by omega,_,c,by simp,off,rfl,by simp,by simpa using a4,.inr (by simp),Nat.le_refl _⟩
theorem RD.cut {S:Nat→Prop} {e:TypeId} {te:TI} {rows:List (List Dat)} {A:Option Addr} {n c:Nat} (h:RD E w S (.sl e) (.sl rows) (.slice A n c)) (ht:E.T e=some te) (l hh:Nat) (h1:l≤hh) (h2:hh≤rows.length):
  RD E w S (.sl e) (.sl (cutRows rows l hh)) (.slice (if c=l then A else A.map (·.add (l*te.ls.length))) (hh-l) (c-l)):=by
 have hlen:(cutRows rows l hh).length=hh-l:=by simp[cutRows];omega
 have hget:∀(j:Nat) (r:List Dat),(cutRows rows l hh)[j]?=some r→rows[l+j]?=some r:=fun j r hj=>by
  simp only[cutRows]at hj
  rw[List.getElem?_take]at hj
  split at hj
  ·rw[List.getElem?_drop]at hj;simpa using hj
  ·cases hj
 generalize hn:n=n0 at h
 cases h with
 |sl _ te' _ _ _ u ht' hc hl hm hr=>
  rw[ht]at ht';cases ht'
  simp only[Dat.rows]at hc hl hm hr
  have key:=RD.sl (E:=E) (w:=w) (S:=S) e te (.sl (cutRows rows l hh)) (if c=l then A else A.map (·.add (l*te.ls.length))) (c-l) (fun j i=>u (l+j) i) ht
   (by simp only[Dat.rows,hlen];omega) (fun j r hj=>hl _ r (hget j r hj)) (fun j i hj hi=>by
    simp only[Dat.rows,hlen]at hj
    obtain⟨ad,rfl,q2,q3,q4⟩:=hm (l+j) i (by omega) hi
    obtain⟨g,o,sp⟩:=ad
    simp only at q2;subst q2
    have hne:¬c=l:=by omega
    simp only[hne,if_false,Option.map_some,Z08]
    refine⟨_,rfl,rfl,q3,?_⟩
    rw[←q4]
    congr 2
    rw[Nat.add_mul]
    simp only
    omega) (fun j i r l' hj hl'=>hr _ i r l' (hget j r hj) hl')
  simp only[Dat.rows,hlen]at key
  exact key
theorem Z4g (_hE:EnvOk P E) (h:RelG E base M S0 R0 w0 nt G st a w) (hlook:∀i x,look i=some x→getO st.ob i=some x) {e:TypeId} {te:TI} (hte:E.T e=some te) {x:AV} {v:Value} (hv:VR E w S0 G st.ob x v)
  {rows:List (List Dat)} (hs:slOf look x=some (some e,rows)):∃A c,v=.slice A rows.length c∧rows.length≤c∧∀l hh:Nat,l≤hh→hh≤rows.length→
   VR E w S0 G st.ob (opCut x l hh) (.slice (if c=l then A else A.map (·.add (l*te.ls.length))) (hh-l) (c-l)):=by
 have one:∀A n c,oneV (.slice A n c):=fun A n c=>⟨(fun _ h=>by cases h),(fun _ h=>by cases h)⟩
 cases hv with
 |nil=>simp[Vai.slOf]at hs
 |own o v hr0 h1=>
  simp only[Vai.slOf]at hs
  split at hs
  ·rename_i e0 rows0 dp vr hl
   simp only[Option.some.injEq,Prod.mk.injEq]at hs
   obtain⟨rfl,rfl⟩:=hs
   have hgo:=hlook _ _ hl
   obtain⟨A,c,q1,q2,q3⟩:=Win.whole hte (h.objs o _ hgo:RowR E w _ _ _ _ _ _ _ _)
   have hv':=hr0 _ _ _ _ _ hgo
   refine⟨A,c,hv'.trans q1,q2,fun l hh hl' hh'=>.vw _ _ _ _ (fun e rows dp vr hh0 te' hg' ht'=>?_) (one _ _ _)⟩
   rw[hgo]at hg';cases hg'
   rw[hte]at ht';cases ht'
   rw[q1]at q3⊢
   have:=Win.cut (n:=(rows0.length:Int)) (by simpa using q3) l hh hl' (by omega)
   simpa using this
  ·cases hs
 |vw o lo n v hr0 h1=>
  simp only[Vai.slOf]at hs
  split at hs
  ·rename_i e0 rows0 dp vr hl
   simp only[Option.some.injEq,Prod.mk.injEq]at hs
   obtain⟨rfl,rfl⟩:=hs
   have hgo:=hlook _ _ hl
   have hw:=hr0 _ _ _ _ _ te hgo hte
   obtain⟨q0,q1,q2,A,c,rfl,q3⟩:=id hw
   have hlen:((rows0.drop lo.toNat).take n.toNat).length=n.toNat:=by simp;omega
   have hc:n.toNat≤c:=by
    obtain⟨A',c',q4,q5,q6⟩:=Win.whole hte (h.objs o _ hgo:RowR E w _ _ _ _ _ _ _ _)
    rw[q4]at q3
    cases A' with
    |none=>simp only at q3;omega
    |some ad=>simp only at q3;obtain⟨_,_,_,q7,_⟩:=q3;exact q7
   refine⟨A,c,by rw[hlen],by rw[hlen];exact hc,fun l hh hl' hh'=>.vw _ _ _ _ (fun e rows dp vr hh0 te' hg' ht'=>?_) (one _ _ _)⟩
   rw[hgo]at hg';cases hg'
   rw[hte]at ht';cases ht'
   rw[hlen]at hh'
   exact Win.cut hw l hh hl' (by omega)
  ·cases hs
 |ro e0 al r v hrd=>
  simp only[Vai.slOf,Option.some.injEq,Prod.mk.injEq]at hs
  obtain⟨rfl,rfl⟩:=hs
  cases hrd':hrd with
  |sl _ te' _ A c u ht' hc hl hm hr=>
   exact⟨A,c,rfl,hc,fun l hh hl' hh'=>.ro _ _ _ _ (hrd.cut hte l hh hl' hh')⟩
 |nest o ver row col e0 whole r v hrd hn=>
  simp only[Vai.slOf,Option.some.injEq,Prod.mk.injEq]at hs
  obtain⟨rfl,rfl⟩:=hs
  cases hrd':hrd with
  |sl _ te' _ A c u ht' hc hl hm hr=>
   refine⟨A,c,rfl,hc,fun l hh hl' hh'=>.nest _ _ _ _ _ _ _ _ (hrd.cut hte l hh hl' hh') ⟨hn.1,fun eo rows' vr h' te1 q1 q2 q3 q4=>?_⟩⟩
   obtain⟨p1,p2,r1,g,o0,n,cc,x,p3,p4,p5,p6,lo,n',te2,p7,p8⟩:=hn.2 eo rows' vr h' te1 q1 q2 q3 q4
   rw[hte]at p7;cases p7
   have hn':n'.toNat=r.length:=by
    obtain⟨_,_,_,A1,c1,e1,_⟩:=p8
    injection e1 with _ e2 _
    exact e2.symm
   refine⟨p1,p2,r1,g,o0,n,cc,x,p3,p4,p5,fun hf=>(by cases hf),_,_,te,hte,Win.cut (n:=n') (by rw[hn'];exact p8) l hh hl' (by
    obtain⟨_,b1,_,_⟩:=p8;omega)⟩
 |_=>simp[Vai.slOf]at hs
theorem Z3o (hE:EnvOk P E) (h:RelG E base M S0 R0 w0 nt G st a w) (hlook:∀i x,look i=some x→getO st.ob i=some x) {t e:TypeId} (hu:P.underlying t=some (.slice e)) {te:TI} (hte:E.T e=some te)
  {x:AV} {v:Value} (hv:VR E w S0 G st.ob x v) {lo hi:Option AV} {vlo vhi:Option Value} (hlo:BndR E w S0 G st.ob lo vlo) (hhi:BndR E w S0 G st.ob hi vhi)
  {r:OpRes} (hr:opSlice look e x lo hi=some r) (hg:r.g=true):PureR E S0 G st.ob ((Instr.sliceAt t v vlo vhi none).run P w) w r:=by
 unfold opSlice at hr
 obtain⟨e',rows,hs⟩:∃e' rows,slOf look x=some (some e',rows):=by
  revert hr
  split
  ·rename_i e' rows hs;exact fun _=>⟨e',rows,hs⟩
  ·intro hr;cases hr
 rw[hs]at hr
 simp only at hr
 obtain⟨he,hr2⟩:=Z0 hr;clear hr;have hr:=hr2;clear hr2
 have he:=Z3 he;subst he
 obtain⟨A,c,rfl,hc,hcut⟩:=Z4g hE h hlook hte hv hs
 have hT:=hE.T e te hte
 split at hr
 ·cases vlo with
  |some _=>cases hlo
  |none=>
  cases vhi with
  |some _=>cases hhi
  |none=>exact Z4 hr (Z0N hu hT A _ c 0 rows.length (by omega) (by omega) hc (.inl ⟨rfl,rfl⟩) (.inl ⟨rfl,rfl⟩)) (by simpa using hcut 0 rows.length (by omega) (by omega))
 ·rename_i kl l
  cases vhi with
  |some _=>cases hhi
  |none=>
  cases vlo with
  |none=>cases hlo
  |some v=>
   cases(hlo:VR E w S0 G st.ob (.i kl l) v)
   refine Z6 hr hg fun hb=>?_
   have⟨l0,l1⟩:0≤l∧l≤(rows.length:Int):=by simpa using hb
   obtain⟨l,rfl⟩:=Int.eq_ofNat_of_zero_le l0
   exact⟨_,Z0N hu hT A _ c l rows.length (by omega) (by omega) hc (.inr ⟨kl,rfl⟩) (.inl ⟨rfl,rfl⟩),hcut l rows.length (by omega) (by omega)⟩
 ·rename_i kh hh
  cases vlo with
  |some _=>cases hlo
  |none=>
  cases vhi with
  |none=>cases hhi
  |some v=>
   cases(hhi:VR E w S0 G st.ob (.i kh hh) v)
   refine Z6 hr hg fun hb=>?_
   have⟨l0,l1⟩:0≤hh∧hh≤(rows.length:Int):=by simpa using hb
   obtain⟨hh,rfl⟩:=Int.eq_ofNat_of_zero_le l0
   exact⟨_,Z0N hu hT A _ c 0 hh (by omega) (by omega) hc (.inl ⟨rfl,rfl⟩) (.inr ⟨kh,rfl⟩),by simpa using hcut 0 hh (by omega) (by omega)⟩
 ·rename_i kl l kh hh
  cases vlo with
  |none=>cases hlo
  |some vl=>
  cases vhi with
  |none=>cases hhi
  |some vh=>
   cases(hlo:VR E w S0 G st.ob (.i kl l) vl)
   cases(hhi:VR E w S0 G st.ob (.i kh hh) vh)
   refine Z6 hr hg fun hb=>?_
   have⟨l0,l1,l2⟩:0≤l∧l≤hh∧hh≤(rows.length:Int):=by simpa using hb
   obtain⟨l,rfl⟩:=Int.eq_ofNat_of_zero_le l0
   obtain⟨hh,rfl⟩:=Int.eq_ofNat_of_zero_le (by omega:0≤hh)
   exact⟨_,Z0N hu hT A _ c l hh (by omega) (by omega) hc (.inr ⟨kl,rfl⟩) (.inr ⟨kh,rfl⟩),hcut l hh (by omega) (by omega)⟩
 ·cases hr
end
end Go.Proofs.YtnihikajdbcoaaaGreat.Vai
namespace Go.Proofs.YtnihikajdbcoaaaGreat.Vai
open Go
section
variable {P:Program} {E:Env} {base:Nat} {M:List Nat} {S0:Nat→Prop} {R0:Id→Value} {w0:World} {nt:Nat} {G:Gh} {st:St} {a:Act} {w:World} {look:Look}
theorem Z49 {ats:Array TypeId} {t ty:TypeId} (ha:ats[0]?=some t) (hu:P.underlying t=some .string) {s:ByteArray} {r:OpRes} (hr:val (.i .i64 s.size)=some r):PureR E S0 G st.ob ((Builtin.len_ ats ty #[.string s]).run P w) w r:=
 Z4 hr (by simp[Builtin.len_,ha,run_underlying hu,goInt]) (.i _ _)
theorem Z4h (h:RelG E base M S0 R0 w0 nt G st a w) (hlook:∀i x,look i=some x→getO st.ob i=some x) {ats:Array TypeId} {t ty:TypeId} (ha:ats[0]?=some t)
  {e:TypeId} (hu:P.underlying t=some (.slice e)) {x:AV} {v:Value} (hv:VR E w S0 G st.ob x v) (hx:∀s,x≠.s s)
  {r:OpRes} (hr:opLen look x=some r):PureR E S0 G st.ob ((Builtin.len_ ats ty #[v]).run P w) w r:=by
 have sl:∀A n c,v=.slice A n c→(Builtin.len_ ats ty #[v]).run P w=.ok (.int .i64 n) w:=fun A n c e=>by
  subst e
  simp[Builtin.len_,ha,run_underlying hu,goInt]
 cases hv with
 |s x=>exact absurd rfl (hx x)
 |nil=>
  simp only[opLen,Vai.slOf]at hr
  exact Z4 hr (sl _ _ _ rfl) (.i _ _)
 |ro e al rows v hrd=>
  simp only[opLen,Vai.slOf]at hr
  cases hrd with
  |sl _ te _ A c u ht' hc hl hm hr'=>exact Z4 hr (sl _ _ _ rfl) (.i _ _)
 |nest o ver row col e whole rows v hrd hn=>
  simp only[opLen,Vai.slOf]at hr
  cases hrd with
  |sl _ te _ A c u ht' hc hl hm hr'=>exact Z4 hr (sl _ _ _ rfl) (.i _ _)
 |own o v hr0 h1=>
  simp only[opLen]at hr
  split at hr
  ·rename_i e0 rows dp vr hh hl
   have hgo:=hlook _ _ hl
   obtain⟨te',b1,b2,b3⟩:=(h.objs o _ hgo:RowR E w _ _ rows dp hh _ _ _)
   have hv':=hr0 _ _ _ _ _ hgo
   rcases b3 with ⟨b3,b4,_⟩|⟨g,off,c,arr,u,bs,a1,_⟩
   ·subst b4
    exact Z4 hr (sl _ _ _ (hv'.trans b3)) (.i _ _)
   ·exact Z4 hr (sl _ _ _ (hv'.trans a1)) (.i _ _)
  ·cases hr
 |vw o lo n v hr0 h1=>
  simp only[opLen]at hr
  split at hr
  ·rename_i e0 rows dp vr hh hl
   have hgo:=hlook _ _ hl
   obtain⟨te',b1,b2,b3⟩:=(h.objs o _ hgo:RowR E w _ _ rows dp hh _ _ _)
   obtain⟨q0,q1,q2,A,c,rfl,q3⟩:=hr0 _ _ _ _ _ te' hgo b1
   have:(n.toNat:Int)=n:=Int.toNat_of_nonneg q1
   have k:=sl _ _ _ rfl
   rw[this]at k
   exact Z4 hr k (.i _ _)
  ·cases hr
 |_=>simp[opLen,Vai.slOf]at hr
theorem Z3V {t:TypeId} (hu:P.underlying t=some .string) {s:ByteArray} {k:IntKind} {n:Int} {r:OpRes}
  (hr:under (decide (0≤n)&&decide (n<(s.size:Int))) {v:=.i .u8 (byteAt s n)}=some r) (hg:r.g=true):
  PureR E S0 G st.ob ((Instr.index t (.string s) (.int k n)).run P w) w r:=by
 refine Z6 hr hg fun hb=>?_
 have⟨l0,l1⟩:0≤n∧n<(s.size:Int):=by simpa using hb
 have hn:n.toNat<s.size:=by omega
 refine⟨_,?_,.i _ _⟩
 simp[Instr.index,asIntOf,run_underlying hu,l0,byteAt,hn]
theorem Z2r {x:AV} {v:Value} (hv:VR E w S0 G st.ob x v) {vs:List AV} (hx:x=.tup vs) {ix:Nat} {y:AV} (hy:vs[ix]?=some y) {r:OpRes} (hr:val y=some r):
  PureR E S0 G st.ob ((Instr.extract v ix).run P w) w r:=by
 subst hx
 cases hv with
 |tup _ arr hl h=>
  have hi:ix<arr.size:=by have:=(List.getElem?_eq_some_iff.mp hy).1;omega
  exact Z4 hr (by simp[Instr.extract,hi]) (h ix y _ hy (Array.getElem?_eq_getElem hi))
theorem Z2D (hE:EnvOk P E) {s:TypeId} {ti:TI} (ht:E.T s=some ti) (ha:ti.agg=true) {f fo:Nat} {ft:TypeId} (hf:ti.fs[f]?=some (fo,ft)) {fi:TI} (hfi:E.T ft=some fi)
  {cs:List AV} {v:Value} (hv:VR E w S0 G st.ob (.agg cs) v) (hle:fo+fi.ls.length≤cs.length) {r:OpRes} (hr:val (pack fi.agg ((cs.drop fo).take fi.ls.length))=some r):
  PureR E S0 G st.ob ((Instr.field s v f).run P w) w r:=by
 cases hv with
 |agg _ arr hl h h1=>
  obtain⟨fields,hu,hfs⟩:=hE.struct ht ha
  rw[←hfs]at hf
  simp only[List.getElem?_map,Option.map_eq_some_iff,Prod.mk.injEq]at hf
  obtain⟨fd,hfd,rfl,rfl⟩:=hf
  have hfd':fields[f]?=some fd:=by simpa using hfd
  have hT:=hE.T _ _ hfi
  refine Z4 hr (v:=if fi.agg then .agg ((List.range fi.ls.length).map fun i=>arr.getD (fd.offset+i) undef).toArray else arr.getD (fd.offset+0) undef) ?_ ?_
  ·simp only[Instr.field,Sem.run_bind,run_underlying hu,Result.andThen_ok,hfd',asAgg,Sem.run_pure,part,hT.isAgg]
   cases hag:fi.agg with
   |true=>
    simp only[if_true,Sem.run_bind,hT.size,Result.andThen_ok,Sem.run_pure]
    congr 2
    apply Array.ext
    ·simp;omega
    ·intro i hi hi'
     simp at hi hi'
     simp[Array.getD]
     omega
   |false=>
    obtain⟨l,hls,_⟩:=hT.single hag
    rw[hls]at hle
    have:fd.offset<arr.size:=by simp at hle;omega
    simp[this,Array.getD]
  ·refine VR.pack hT _ (fun i=>arr.getD (fd.offset+i) undef) (by simp;omega) (fun i y hy=>?_)
   rw[List.getElem?_take]at hy
   split at hy
   ·rw[List.getElem?_drop]at hy
    have hi:fd.offset+i<arr.size:=by have:=(List.getElem?_eq_some_iff.mp hy).1;omega
    have hx:arr[fd.offset+i]?=some (arr.getD (fd.offset+i) undef):=by simp[hi,Array.getD]
    exact⟨h _ _ _ hy hx,h1 _ _ hx⟩
   ·cases hy
theorem Z0B (op:BinOp) (t:TypeId) (x y:Operand) (u v:Value) (h1:u≠.nilIface) (h2:∀cs,u≠.agg cs):(eqGuard op t x y u v).run P w=.ok () w:=by
 unfold eqGuard
 cases op<;>simp<;>(cases u<;>first|rfl|exact absurd rfl h1|exact absurd rfl (h2 _))
theorem Z3f {cs:List AV} {v:Value} (hv:VR E w S0 G st.ob (.agg cs) v):∃arr,v=.agg arr∧scalRel cs arr:=by
 cases hv with
 |agg _ arr hl h h1=>
  refine⟨arr,rfl,hl.symm,fun i x y hx hy=>?_⟩
  have:=h i x y hx hy
  cases x<;>simp only<;>cases this<;>rfl
theorem Z4i (hE:EnvOk P E) {op:BinOp} {t:TypeId} {x y:AV} {u v:Value} (hx:VR E w S0 G st.ob x u) (hy:VR E w S0 G st.ob y v) (xo yo:Operand)
  {r:OpRes} (hr:opBin E op t x y=some r) (hg:r.g=true):PureR E S0 G st.ob ((do eqGuard op t xo yo u v;binOp op t u v).run P w) w r:=by
 unfold opBin at hr
 split at hr
 ·rename_i k i k' j
  cases hx;cases hy
  have key:∀res,(binOp op t (.int k i) (.int k' j)).run P w=.ok res w→(do eqGuard op t xo yo (.int k i) (.int k' j);binOp op t (.int k i) (.int k' j)).run P w=.ok res w:=fun res h=>by
   rw[Sem.run_bind,Z0B op t xo yo _ _ (fun h=>by cases h) (fun _ h=>by cases h)]
   exact h
  split at hr
  ·refine Z6 hr hg fun hb=>⟨_,key _ ?_,.i _ _⟩
   have hb:0≤j:=by simpa using hb
   simp[binOp,shift_shl_any k k' i j hb]
  ·refine Z6 hr hg fun hb=>⟨_,key _ ?_,.i _ _⟩
   have hb:0≤j:=by simpa using hb
   simp[binOp,shift_shr_any k k' i j hb]
  ·rename_i n1 n2
   cases hk:ikEq k k'<;>rw[hk]at hr
   ·cases hr
   have:k=k':=by simpa[ikEq]using hk
   subst this
   simp only[Bool.not_true,cond_false]at hr
   split at hr
   ·exact Z4 hr (key _ (by simp[binOp,Op.intArith])) (.i _ _)
   ·exact Z4 hr (key _ (by simp[binOp,Op.intArith])) (.i _ _)
   ·exact Z4 hr (key _ (by simp[binOp,Op.intArith])) (.i _ _)
   ·refine Z6 hr hg fun hb=>⟨_,key _ ?_,.i _ _⟩
    have hb:¬j=0:=by simpa using hb
    simp[binOp,Op.intDiv,hb]
   ·refine Z6 hr hg fun hb=>⟨_,key _ ?_,.i _ _⟩
    have hb:¬j=0:=by simpa using hb
    simp[binOp,Op.intDiv,hb]
   ·exact Z4 hr (key _ (by simp[binOp,Op.intCmp])) (.b _)
   ·exact Z4 hr (key _ (by simp[binOp,Op.intCmp];rfl)) (.b _)
   ·exact Z4 hr (key _ (by simp[binOp,Op.intCmp])) (.b _)
   ·exact Z4 hr (key _ (by simp[binOp,Op.intCmp])) (.b _)
   ·exact Z4 hr (key _ (by simp[binOp,Op.intCmp])) (.b _)
   ·exact Z4 hr (key _ (by simp[binOp,Op.intCmp])) (.b _)
   ·exact Z4 hr (key _ (by simp[binOp,intBits_and])) (.i _ _)
   ·exact Z4 hr (key _ (by simp[binOp,intBits_or])) (.i _ _)
   ·exact Z4 hr (key _ (by simp[binOp,intBits_xor])) (.i _ _)
   ·exact Z4 hr (key _ (by simp[binOp,intBits_andNot])) (.i _ _)
   ·cases hr
 ·rename_i i j
  cases hx;cases hy
  have key:∀res,(binOp op t (.string i) (.string j)).run P w=.ok res w→(do eqGuard op t xo yo (.string i) (.string j);binOp op t (.string i) (.string j)).run P w=.ok res w:=fun res h=>by
   rw[Sem.run_bind,Z0B op t xo yo _ _ (fun h=>by cases h) (fun _ h=>by cases h)]
   exact h
  split at hr
  ·refine Z6 hr hg fun hb=>⟨_,key _ ?_,.s _⟩
   have hb:i.size+j.size≤9223372036854775807:=by simpa using hb
   have hb:¬(((i.size+j.size:Nat):Int)>IntKind.i64.max):=by
    have:IntKind.i64.max=9223372036854775807:=by decide
    rw[this];omega
   simp only[binOp,Op.stringOp,if_neg hb,Sem.run_pure]
  ·exact Z4 hr (key _ (by simp[binOp,Op.stringOp])) (.b _)
  ·exact Z4 hr (key _ (by simp[binOp,Op.stringOp])) (.b _)
  ·cases hr
 ·rename_i i j
  cases hx;cases hy
  split at hr
  ·rename_i fs by_ ht
   obtain⟨l,hl,hu⟩:=(hE.T _ _ ht).single rfl
   cases hl
   have key:∀res,(binOp op t (.bool i) (.bool j)).run P w=.ok res w→(do eqGuard op t xo yo (.bool i) (.bool j);binOp op t (.bool i) (.bool j)).run P w=.ok res w:=fun res h=>by
    rw[Sem.run_bind,Z0B op t xo yo _ _ (fun h=>by cases h) (fun _ h=>by cases h)]
    exact h
   have heq:=run_equal_bool w t i j hu
   split at hr
   ·exact Z4 hr (key _ (by simp[binOp,heq])) (.b _)
   ·exact Z4 hr (key _ (by simp[binOp,heq])) (.b _)
   ·cases hr
  ·cases hr
 ·rename_i cs ds
  split at hr
  ·rename_i ti ht
   cases hb:(!(E.eqT t&&(avFits ti.ls cs&&avFits ti.ls ds)))<;>rw[hb]at hr
   ·simp only[Bool.not_eq_false',Bool.and_eq_true]at hb
    obtain⟨hb',hf1,hf2⟩:=hb
    obtain⟨xs,rfl,h1⟩:=Z3f hx
    obtain⟨ys,rfl,h2⟩:=Z3f hy
    simp only[cond_false]at hr
    split at hr
    ·split at hr
     ·rename_i q hq
      exact Z4 hr (hE.eqT t ti hb' ht w cs ds xs ys q xo yo hf1 hf2 h1 h2 hq).1 (.b _)
     ·cases hr
    ·split at hr
     ·rename_i q hq
      exact Z4 hr (hE.eqT t ti hb' ht w cs ds xs ys q xo yo hf1 hf2 h1 h2 hq).2 (.b _)
     ·cases hr
    ·cases hr
   ·cases hr
  ·cases hr
 ·cases hr
theorem Z57 {op:UnOp} {x:AV} {v:Value} {r:OpRes} (hr:(match op,x with
  |.not,.b y=>val (.b (!y))
  |.neg,.i k n=>val (.i k (k.wrap (0-n)))
  |_,_=>none)=some r) (hx:VR E w S0 G st.ob x v):PureR E S0 G st.ob ((Op.unary op v).run P w) w r:=by
 cases op<;>cases hx<;>simp only[reduceCtorEq]at hr
 ·exact Z4 hr (by simp[Op.unary,Op.intArith]) (.i _ _)
 ·exact Z4 hr (by simp[Op.unary]) (.b _)
theorem Z4A {c x y:AV} {vc vx vy:Value} (hc:VR E w S0 G st.ob c vc) (hx:VR E w S0 G st.ob x vx) (hy:VR E w S0 G st.ob y vy)
  {r:OpRes} (hr:opPick c x y=some r) (hg:r.g=true):PureR E S0 G st.ob ((do pure (if←asBool vc then vx else vy):Sem Value).run P w) w r:=by
 unfold opPick at hr
 split at hr
 ·rename_i t
  cases hc
  have key:∀z,VR E w S0 G st.ob z (if t then vx else vy)→val z=some r→PureR E S0 G st.ob ((do pure (if←asBool (.bool t)then vx else vy):Sem Value).run P w) w r:=fun z hz hr=>Z4 hr (by simp[asBool]) hz
  split at hr
  ·refine key _ ?_ hr
   cases t
   ·simpa using hy
   ·simpa using hx
  ·refine Z6 hr hg fun hb=>?_
   have:t=false:=by simpa using hb
   subst this
   exact⟨_,by simp[asBool],hy⟩
  ·refine Z6 hr hg fun hb=>?_
   subst hb
   exact⟨_,by simp[asBool],hx⟩
  ·refine Z6 hr hg fun hb=>?_
   have:t=false:=by simpa using hb
   subst this
   exact⟨_,by simp[asBool],hy⟩
  ·refine Z6 hr hg fun hb=>?_
   subst hb
   exact⟨_,by simp[asBool],hx⟩
  ·rename_i k i k' j
   cases hk:ikEq k k'<;>rw[hk]at hr
   ·cases hr
   have:k=k':=by simpa[ikEq]using hk
   subst this
   refine key _ ?_ hr
   cases t
   ·simpa using hy
   ·simpa using hx
  ·refine key _ ?_ hr
   cases t
   ·simpa using hy
   ·simpa using hx
  ·cases hr
 ·cases hr
theorem Z1V {k k':IntKind} {i j:Int} {at_:Array TypeId} {ty:TypeId} (mx:Bool) {r:OpRes} (hr:(bif ikEq k k' then val (.i k (bif mx then(bif decide (i<j)then j else i)else(bif decide (j<i)then j else i)))else none)=some r):
  PureR E S0 G st.ob ((if mx then Builtin.max_ at_ ty #[.int k i,.int k' j]else Builtin.min_ at_ ty #[.int k i,.int k' j]).run P w) w r:=by
 cases hk:ikEq k k'<;>rw[hk]at hr
 ·cases hr
 have:k=k':=by simpa[ikEq]using hk
 subst this
 cases mx
 ·refine Z4 hr ?_ (.i _ _)
  by_cases h:j<i<;>simp[Builtin.min_,Builtin.min2,h]
 ·refine Z4 hr ?_ (.i _ _)
  by_cases h:i<j<;>simp[Builtin.max_,Builtin.max2,h]
theorem Z3p {src dst:TypeId} {k k':IntKind} {i:Int} {ks:IntKind} (hs:P.underlying src=some (.int ks)) (hd:P.underlying dst=some (.int k)) {r:OpRes} (hr:val (.i k (k.wrap i))=some r):
  PureR E S0 G st.ob ((convert src dst (.int k' i)).run P w) w r:=
 Z4 hr (by simp[convert,run_underlying hs,run_underlying hd,Conv.intToInt]) (.i _ _)
theorem Z3q {src dst:TypeId} {s:ByteArray} (hs:P.underlying src=some .string) (hd:P.underlying dst=some .string) {r:OpRes} (hr:val (.s s)=some r):
  PureR E S0 G st.ob ((convert src dst (.string s)).run P w) w r:=
 Z4 hr (by simp[convert,run_underlying hs,run_underlying hd]) (.s _)
theorem Z3r (l:List Int) (s:List UInt8):(l.foldl (fun r n=>r.push (UInt8.ofNat n.toNat)) (⟨s.toArray⟩:ByteArray))=⟨(s++l.map fun n=>UInt8.ofNat n.toNat).toArray⟩:=by
 induction l generalizing s with
 |nil=>simp
 |cons x l ih=>
  simp only[List.foldl_cons,List.map_cons]
  have:(⟨s.toArray⟩:ByteArray).push (UInt8.ofNat x.toNat)=⟨(s++[UInt8.ofNat x.toNat]).toArray⟩:=by simp[ByteArray.push]
  rw[this,ih]
  simp
theorem Z2s (hE:EnvOk P E) (h:RelG E base M S0 R0 w0 nt G st a w) (hlook:∀i x,look i=some x→getO st.ob i=some x) {src dst e:TypeId} {te:TI} (hs:P.underlying src=some (.slice e)) (he:P.underlying e=some (.int .u8))
  (hd:P.underlying dst=some .string) (hte:E.T e=some te) (hls:te.ls=[.int .u8]) {x:AV} {v:Value} (hv:VR E w S0 G st.ob x v) {e':Option TypeId} {rows:List (List Dat)} (hsl:slOf look x=some (e',rows)) (heq:eOK e e'=true)
  {r:OpRes} (hr:val (.s (strOf rows))=some r):PureR E S0 G st.ob ((convert src dst v).run P w) w r:=by
 have hrd:=h.slOf hlook hv hsl e te hte heq
 have _:=hE
 refine Z4 hr ?_ (.s _)
 cases hrd with
 |sl _ te' _ A c u ht hc hl hm hr'=>
  rw[hte]at ht;cases ht
  simp only[Dat.rows]at hc hl hm hr'⊢
  rw[run_convert_bytes_string w src dst e A _ c hs he hd]
  cases hrows:rows with
  |nil=>
   cases A with
   |none=>simp[Conv.bytesToString,strOf];rfl
   |some ad=>
    rw[List.length_nil,run_bytesToString w ad 0 c [] (by
     rw[run_loadCells w ad 0 (fun _=>undef) (fun j hj=>by omega)];rfl)]
    rfl
  |cons r0 rs=>
   obtain⟨ad,rfl,hsp,_,_⟩:=hm 0 0 (by rw[hrows];simp) (by rw[hls];simp)
   rw[←hrows]
   have hu:∀j,j<rows.length→u j 0=.int .u8 ((rows.getD j []).headD default).n:=fun j hj=>by
    have hj':rows[j]?=some (rows.getD j []):=by simp[List.getElem?_eq_getElem hj,List.getD]
    have:=hr' j 0 _ (.int .u8) hj' (by rw[hls];rfl)
    rw[Z46]
    generalize u j 0=z at this⊢
    cases this;rfl
   rw[run_bytesToString w ad rows.length c (rows.map fun r=>(r.headD default).n) (by
    rw[run_loadCells w ad rows.length (fun j=>u j 0) (fun j hj=>by
     obtain⟨ad',q1,q2,q3,q4⟩:=hm j 0 hj (by rw[hls];simp)
     cases q1
     obtain⟨g,o,sp⟩:=ad
     simp only at hsp;subst hsp
     rw[Z08]
     simpa[hls]using q4)]
    congr 2
    apply List.ext_getElem
    ·simp
    ·intro i h1 h2
     simp at h1
     simp only[List.getElem_map,List.getElem_range,hu i h1]
     simp[List.getD,List.getElem?_eq_getElem h1])]
   have:=Z3r (rows.map fun r=>(r.headD default).n) []
   have he:(ByteArray.empty)=(⟨([]:List UInt8).toArray⟩:ByteArray):=rfl
   rw[he,this]
   simp[strOf,Function.comp_def]
end
end Go.Proofs.YtnihikajdbcoaaaGreat.Vai
namespace Go.Proofs.YtnihikajdbcoaaaGreat.Vai
open Go
theorem ZQ {o:Id} {l:List Id}:memId o l=true↔o∈l:=by
 induction l with
 |nil=>simp[memId]
 |cons p l ih=>
  simp only[memId,List.mem_cons]
  cases h:idEq o p with
  |true=>simp[Z5.mp h]
  |false=>simp[Z9.mp h,ih]
theorem Z03 {o:Id} {l:List Id}:memId o l=false↔o∉l:=by rw[←Bool.not_eq_true,ZQ]
theorem ZA {l:List Id}:nodupId l=true↔l.Nodup:=by
 induction l with
 |nil=>simp[nodupId]
 |cons p l ih=>
  simp only[nodupId,List.nodup_cons]
  cases h:memId p l with
  |true=>simp[ZQ.mp h]
  |false=>simp[Z03.mp h,ih]
theorem Z2M (bs:Nat→Nat→List Nat) (a b sz:Nat):flatB bs (a+b) sz=flatB bs a sz++flatB (fun j i=>bs (a+j) i) b sz:=by
 simp[flatB,List.range_add,List.flatMap_append,List.flatMap_map]
theorem Z0O {bs:Nat→Nat→List Nat} {m sz lo n:Nat} (h:(flatB bs m sz).Nodup) (hle:lo+n≤m):(flatB (fun j i=>bs (lo+j) i) n sz).Nodup:=by
 obtain⟨k,rfl⟩:=Nat.exists_eq_add_of_le hle
 rw[Z2M,List.nodup_append]at h
 rw[Z2M,List.nodup_append]at h
 exact h.1.2.1
section
variable {P:Program} {E:Env} {base:Nat} {M:List Nat} {S0:Nat→Prop} {R0:Id→Value} {w0:World} {nt:Nat} {G:Gh} {st:St} {a:Act} {w:World} {look:Look}
structure GiveR (E:Env) (w:World) (S0:Nat→Prop) (G:Gh) (ids:List Id) (deep:Bool) (l:Leaf) (d:Dat) (v:Value) (bs:List Nat):Prop where
 rd:RD E w (fun b=>S0 b∨b∈G.F∨∃o∈ids,b∈G.top o) l d v
 ot:deep=true→OT E w l d v bs
 sub:∀b∈bs,∃o∈ids,b∈G.top o∨b∈G.ins o
 nodup:bs.Nodup
theorem RelG.apart (h:RelG E base M S0 R0 w0 nt G st a w) {o o':Id} {x x':Obj} (ho:getO st.ob o=some x) (ho':getO st.ob o'=some x') (hne:o≠o') {b:Nat}
  (hb:b∈G.top o∨b∈G.ins o) (hb':b∈G.top o'∨b∈G.ins o'):False:=by
 rcases hb with hb|hb<;>rcases hb' with hb'|hb'
 ·exact h.tops2 o x o' x' ho ho' hne b hb hb'
 ·exact(h.tops o x ho b hb).2.1 ((h.ins o' x' ho').1 b hb')
 ·exact(h.tops o' x' ho' b hb').2.1 ((h.ins o x ho).1 b hb)
 ·exact h.ins2 o x o' x' ho ho' hne b hb hb'
theorem RelG.row_ot (h:RelG E base M S0 R0 w0 nt G st a w) {o:Id} {e:TypeId} {rows:List (List Dat)} {vr:Nat} (ho:getO st.ob o=some (.row e rows true vr [])):
  OT E w (.sl e) (.sl rows) (G.root o) (G.top o++G.ins o)∧(G.top o++G.ins o).Nodup:=by
 obtain⟨te,h1,h2,h3⟩:=(h.objs o _ ho:RowR E w _ e rows true [] _ _ _)
 have nohole:∀j i,¬isHole [] j i:=fun j i hh=>by obtain⟨r,hr,_⟩:=hh;cases hr
 rcases h3 with ⟨h3,rfl,h4,h5⟩|⟨g,off,c,arr,u,bs,a1,a2,a3,a4,a5,a6,a7,a8,a9,a10⟩
 ·rw[h3,h4,h5]
  exact⟨.nil e te _ h1 rfl,by simp⟩
 ·have hins:=h.ins o _ ho
  have htop:=h.tops o _ ho
  rw[a1,a2,a8 rfl]at*
  refine⟨?_,?_⟩
  ·have:=OT.row (E:=E) (w:=w) e te (.sl rows) g off c arr u bs h1 a3 a4 a5 h2 (fun j i hj hi=>(a6 j i hj hi).1) (fun j i r l hj hl=>by simpa using a7 j i r l hj hl (nohole j i))
   simpa[Dat.rows]using this
  ·simp only[List.singleton_append,List.nodup_cons]
   exact⟨fun hb=>(htop g (by simp)).2.1 (hins.1 g hb),hins.2⟩
theorem RelG.row_ot_win (h:RelG E base M S0 R0 w0 nt G st a w) {o:Id} {e:TypeId} {te:TI} (hte:E.T e=some te) {rows:List (List Dat)} {vr:Nat} (ho:getO st.ob o=some (.row e rows true vr []))
  {lo n:Int} {v:Value} (hw:Win te.ls.length rows.length (G.root o) lo n v):
  ∃bs,OT E w (.sl e) (.sl ((rows.drop lo.toNat).take n.toNat)) v bs∧bs.Nodup∧∀b∈bs,b∈G.top o∨b∈G.ins o:=by
 obtain⟨te',h1,h2,h3⟩:=(h.objs o _ ho:RowR E w _ e rows true [] _ _ _)
 rw[hte]at h1;cases h1
 have nohole:∀j i,¬isHole [] j i:=fun j i hh=>by obtain⟨r,hr,_⟩:=hh;cases hr
 obtain⟨q0,q1,q2,A',c',rfl,q3⟩:=hw
 have hlen:((rows.drop lo.toNat).take n.toNat).length=n.toNat:=by simp;omega
 have hget:∀(j:Nat) (r:List Dat),((rows.drop lo.toNat).take n.toNat)[j]?=some r→rows[lo.toNat+j]?=some r:=fun j r hj=>by
  rw[List.getElem?_take]at hj
  split at hj
  ·rwa [List.getElem?_drop]at hj
  ·cases hj
 rcases h3 with ⟨h3,rfl,h4,h5⟩|⟨g,off,c,arr,u,bs,a1,a2,a3,a4,a5,a6,a7,a8,a9,a10⟩
 ·rw[h3]at q3
  obtain⟨rfl,rfl,_⟩:=q3
  have hn:n.toNat=0:=by simp at q2;omega
  rw[hn]
  exact⟨[],.nil e te _ hte (by simp[Dat.rows]),by simp,fun b hb=>by cases hb⟩
 ·rw[a1]at q3
  simp only at q3
  obtain⟨off',rfl,q4,q5,q6,q7⟩:=q3
  have hins:=h.ins o _ ho
  have htop:=h.tops o _ ho
  rw[a2,a8 rfl]at*
  refine⟨g::flatB (fun j i=>bs (lo.toNat+j) i) n.toNat te.ls.length,?_,?_,fun b hb=>?_⟩
  ·have:=OT.row (E:=E) (w:=w) e te (.sl ((rows.drop lo.toNat).take n.toNat)) g off' c' arr (fun j i=>u (lo.toNat+j) i) (fun j i=>bs (lo.toNat+j) i) hte a3 (by simpa[Dat.rows,hlen]using q5) (by omega)
    (fun j r hj=>h2 _ r (hget j r hj)) (fun j i hj hi=>by
     simp only[Dat.rows,hlen]at hj
     have hoff:off'=off+lo.toNat*te.ls.length:=q6.resolve_left (by omega)
     rw[←(a6 (lo.toNat+j) i (by omega) hi).1,hoff,Nat.add_mul]
     congr 1
     omega) (fun j i r l hj hl=>by simpa using a7 (lo.toNat+j) i r l (hget j r hj) hl (nohole _ i))
   simpa[Dat.rows,hlen]using this
  ·rw[List.nodup_cons]
   refine⟨fun hb=>(htop g (by simp)).2.1 (hins.1 g ?_),Z0O hins.2 (by omega)⟩
   obtain⟨j,i,hj,hi,hm⟩:=Z2.mp hb
   exact Z2.mpr ⟨lo.toNat+j,i,by omega,hi,hm⟩
  ·rcases List.mem_cons.mp hb with rfl|hb
   ·exact .inl (by simp)
   ·obtain⟨j,i,hj,hi,hm⟩:=Z2.mp hb
    exact .inr (Z2.mpr ⟨lo.toNat+j,i,by omega,hi,hm⟩)
theorem Z3g (h:RelG E base M S0 R0 w0 nt G st a w) (hlook:∀i x,look i=some x→getO st.ob i=some x) {l:Leaf} (hl:∀e,l=.sl e→∃te,E.T e=some te) {x:AV} {v:Value} (hv:VR E w S0 G st.ob x v)
  {g:Given} (hg:give look l x=some g):(∃bs,GiveR E w S0 G g.ids g.deep l g.d v bs)∧∀o∈g.ids,∃y,getO st.ob o=some y:=by
 cases l with
 |int k=>
  cases hv<;>simp only[give]at hg<;>first|cases hg|skip
  rename_i k' n
  cases hk:ikEq k k'<;>rw[hk]at hg
  ·cases hg
  ·simp only[cond_true,Option.some.injEq]at hg
   subst hg
   have:k=k':=by simpa[ikEq]using hk
   subst this
   exact⟨⟨[],.int k _,fun _=>.int k _,(fun _ hb=>by cases hb),by simp⟩,fun o ho=>by cases ho⟩
 |bool=>
  cases hv<;>simp only[give]at hg<;>first|cases hg|skip
  exact⟨⟨[],.bool _,fun _=>.bool _,(fun _ hb=>by cases hb),by simp⟩,fun o ho=>by cases ho⟩
 |str=>
  cases hv<;>simp only[give]at hg<;>first|cases hg|skip
  exact⟨⟨[],.str _,fun _=>.str _,(fun _ hb=>by cases hb),by simp⟩,fun o ho=>by cases ho⟩
 |sl e=>
  obtain⟨te,hte⟩:=hl e rfl
  cases hv with
  |nil=>
   simp only[give,Option.some.injEq]at hg
   subst hg
   have:=OT.nil (E:=E) (w:=w) e te (.sl []) hte rfl
   exact⟨⟨[],this.rd (fun _ hb=>by cases hb),fun _=>this,(fun _ hb=>by cases hb),by simp⟩,fun o ho=>by cases ho⟩
  |ro e' al rows v hr=>
   simp only[give]at hg
   obtain⟨he,hg2⟩:=Z0 hg
   have he:=Z3 he;subst he
   simp only[Option.some.injEq]at hg2
   subst hg2
   exact⟨⟨[],hr.mono fun b hb=>hb.imp id fun hb=>.inl hb.2,(fun h=>by cases h),(fun _ hb=>by cases hb),by simp⟩,fun o ho=>by cases ho⟩
  |nest o ver row col e' whole rows v hr hn=>
   simp only[give]at hg
   obtain⟨he,hg2⟩:=Z0 hg
   have he:=Z3 he;subst he
   simp only[Option.some.injEq]at hg2
   subst hg2
   exact⟨⟨[],hr.mono fun b hb=>hb.imp id fun hb=>.inl hb,(fun h=>by cases h),(fun _ hb=>by cases hb),by simp⟩,fun o ho=>by cases ho⟩
  |own o v hr h1=>
   simp only[give]at hg
   split at hg
   ·rename_i e' rows dp vr hlk
    obtain⟨he,hg2⟩:=Z0 hg
    have he:=Z3 he;subst he
    simp only[Option.some.injEq]at hg2
    subst hg2
    have hgo:=hlook _ _ hlk
    rw[hr _ _ _ _ _ hgo]
    have hrd:=(h.objs o _ hgo:RowR E w _ e rows dp [] _ _ _).rd (S':=fun b=>S0 b∨b∈G.F∨∃o'∈[o],b∈G.top o') (fun b hb=>.inr (.inr ⟨o,by simp,hb⟩)) (fun b hb=>.inr (.inl ((h.ins o _ hgo).1 b hb))) (fun b hb=>hb.imp id .inl)
    refine⟨?_,fun o' ho=>by simp at ho;subst ho;exact⟨_,hgo⟩⟩
    cases dp with
    |false=>exact⟨[],hrd,(fun h=>by cases h),(fun _ hb=>by cases hb),by simp⟩
    |true=>
     obtain⟨h2,h3⟩:=h.row_ot hgo
     exact⟨_,hrd,fun _=>h2,fun b hb=>⟨o,by simp,List.mem_append.mp hb⟩,h3⟩
   ·cases hg
  |vw o lo n v hr h1=>
   simp only[give]at hg
   split at hg
   ·rename_i e' rows dp vr hlk
    obtain⟨he,hg2⟩:=Z0 hg
    have he:=Z3 he;subst he
    simp only[Option.some.injEq]at hg2
    subst hg2
    have hgo:=hlook _ _ hlk
    have hw:=hr _ _ _ _ _ te hgo hte
    have hrd:=((h.objs o _ hgo:RowR E w _ e rows dp [] _ _ _).rd (S':=fun b=>S0 b∨b∈G.F∨∃o'∈[o],b∈G.top o') (fun b hb=>.inr (.inr ⟨o,by simp,hb⟩)) (fun b hb=>.inr (.inl ((h.ins o _ hgo).1 b hb))) (fun b hb=>hb.imp id .inl)).win hte hw
    refine⟨?_,fun o' ho=>by simp at ho;subst ho;exact⟨_,hgo⟩⟩
    cases dp with
    |false=>exact⟨[],hrd,(fun h=>by cases h),(fun _ hb=>by cases hb),by simp⟩
    |true=>
     obtain⟨bs,h2,h3,h4⟩:=h.row_ot_win hte hgo hw
     exact⟨bs,hrd,fun _=>h2,fun b hb=>⟨o,by simp,h4 b hb⟩,h3⟩
   ·cases hg
  |_=>simp[give]at hg
structure GivesR (E:Env) (w:World) (S0:Nat→Prop) (G:Gh) (ids:List Id) (deep:Bool) (ls:List Leaf) (ds:List Dat) (us:Nat→Value) (bs:Nat→List Nat):Prop where
 len:ds.length=ls.length
 rd:∀(i:Nat) (l:Leaf),ls[i]?=some l→RD E w (fun b=>S0 b∨b∈G.F∨∃o∈ids,b∈G.top o) l (ds.getD i default) (us i)
 ot:deep=true→∀(i:Nat) (l:Leaf),ls[i]?=some l→OT E w l (ds.getD i default) (us i) (bs i)
 sub:∀i,∀b∈bs i,∃o∈ids,b∈G.top o∨b∈G.ins o
 nodup:∀i,(bs i).Nodup
 disj:∀i j,i≠j→∀b∈bs i,b∉bs j
theorem Z0I (h:RelG E base M S0 R0 w0 nt G st a w) (hlook:∀i x,look i=some x→getO st.ob i=some x):∀{ls:List Leaf} (_:∀e,Leaf.sl e∈ls→∃te,E.T e=some te) {xs:List AV} {us:Nat→Value}
  (_:∀(i:Nat) (y:AV),xs[i]?=some y→VR E w S0 G st.ob y (us i)) {g:Givens} (_:gives look ls xs=some g) (_:g.ids.Nodup),
  (∃bs,GivesR E w S0 G g.ids g.deep ls g.ds us bs)∧(∀o∈g.ids,∃y,getO st.ob o=some y)∧xs.length=ls.length
 |[],_,[],us,_,g,hg,_=>by
  simp only[gives,Option.some.injEq]at hg
  subst hg
  exact⟨⟨fun _=>[],rfl,(fun i l hl=>by simp at hl),(fun _ i l hl=>by simp at hl),(fun _ _ hb=>by cases hb),(fun _=>by simp),(fun _ _ _ _ hb=>by cases hb)⟩,(fun _ ho=>by cases ho),rfl⟩
 |[],_,_::_,us,_,g,hg,_=>by simp[gives]at hg
 |_::_,_,[],us,_,g,hg,_=>by simp[gives]at hg
 |l::ls,hls,x::xs,us,hx,g,hg,hnd=>by
  simp only[gives]at hg
  split at hg
  ·rename_i g1 hg1
   split at hg
   ·rename_i g2 hg2
    simp only[Option.some.injEq]at hg
    subst hg
    obtain⟨n1,n2,n3⟩:=List.nodup_append.mp hnd
    obtain⟨⟨bs1,b1⟩,b2⟩:=Z3g h hlook (fun e he=>hls e (by simp[he])) (hx 0 x rfl) hg1
    obtain⟨⟨bs2,c1⟩,c2,c3⟩:=Z0I h hlook (fun e he=>hls e (List.mem_cons_of_mem _ he)) (us:=fun i=>us (i+1)) (fun i y hy=>hx (i+1) y (by simpa using hy)) hg2 n2
    have cross:∀b∈bs1,∀j,b∉bs2 j:=fun b hb j hb'=>by
     obtain⟨o,ho,hob⟩:=b1.sub b hb
     obtain⟨o',ho',hob'⟩:=c1.sub j b hb'
     obtain⟨y,hy⟩:=b2 o ho
     obtain⟨y',hy'⟩:=c2 o' ho'
     exact h.apart hy hy' (n3 o ho o' ho') hob hob'
    refine⟨⟨fun i=>match i with|0=>bs1|i+1=>bs2 i,by simp[c1.len],fun i l hl=>?_,fun hd i l hl=>?_,fun i b hb=>?_,fun i=>?_,fun i j hij b hb hb'=>?_⟩,fun o ho=>?_,by simp[c3]⟩
    ·cases i with
     |zero=>simp at hl;subst hl;exact b1.rd.mono fun b hb=>hb.imp id fun hb=>hb.imp id fun⟨o,ho,hb⟩=>⟨o,List.mem_append.mpr (.inl ho),hb⟩
     |succ i=>exact(c1.rd i l (by simpa using hl)).mono fun b hb=>hb.imp id fun hb=>hb.imp id fun⟨o,ho,hb⟩=>⟨o,List.mem_append.mpr (.inr ho),hb⟩
    ·simp only[Bool.and_eq_true]at hd
     cases i with
     |zero=>simp at hl;subst hl;exact b1.ot hd.1
     |succ i=>exact c1.ot hd.2 i l (by simpa using hl)
    ·cases i with
     |zero=>obtain⟨o,ho,h⟩:=b1.sub b hb;exact⟨o,List.mem_append.mpr (.inl ho),h⟩
     |succ i=>obtain⟨o,ho,h⟩:=c1.sub i b hb;exact⟨o,List.mem_append.mpr (.inr ho),h⟩
    ·cases i with
     |zero=>exact b1.nodup
     |succ i=>exact c1.nodup i
    ·cases i with
     |zero=>
      cases j with
      |zero=>exact hij rfl
      |succ j=>exact cross b hb j hb'
     |succ i=>
      cases j with
      |zero=>exact cross b hb' i hb
      |succ j=>exact c1.disj i j (by omega) b hb hb'
    ·rcases List.mem_append.mp ho with ho|ho
     ·exact b2 o ho
     ·exact c2 o ho
   ·cases hg
  ·cases hg
end
end Go.Proofs.YtnihikajdbcoaaaGreat.Vai
namespace Go.Proofs.YtnihikajdbcoaaaGreat.Vai
open Go
section
variable {P:Program} {E:Env} {base:Nat} {M:List Nat} {S0:Nat→Prop} {R0:Id→Value} {w0:World} {nt:Nat} {G:Gh} {st:St} {a:Act} {w:World} {look:Look}
def Gh.set1 (G:Gh) (k:Id) (root:Value) (top ins fl:List Nat):Gh where
 root:=fun o=>if o=k then root else G.root o
 top:=fun o=>if o=k then top else G.top o
 ins:=fun o=>if o=k then ins else G.ins o
 F:=G.F++fl
theorem Z4B {k o:Id} {x:Obj}:findN [(k,x)] o=if o=k then some x else none:=by simp[findN]
theorem Z4C {ob:List (Id×Obj)} {k:Id} {x:Obj}:upAll [(k,x)] ob=setO ob k x:=rfl
theorem NoRef.set {k k':Id} {x:Obj} (h:NoRef k' st) (hne:k'≠k) (hx:∀t cells,x=.box t cells→k'∉idsL cells):NoRef k' {st with ob:=setO st.ob k x}:=by
 refine⟨h.1,fun o t cells hg=>?_,?_,h.2.2.2⟩
 ·simp only[Z1]at hg
  by_cases ho:o=k
  ·rw[if_pos ho]at hg;exact hx t cells (Option.some.inj hg)
  ·rw[if_neg ho]at hg;exact h.2.1 o t cells hg
 ·simp only[Z1,if_neg hne];exact h.2.2.1
theorem RelG.top_lt (h:RelG E base M S0 R0 w0 nt G st a w) {o:Id} {x:Obj} (hx:getO st.ob o=some x):∀b∈G.top o,b<w.heap.size:=by
 intro b hb
 have:=h.objs o x hx
 cases x with
 |row e rows d v hh=>
  obtain⟨te,_,_,h3⟩:=(this:RowR E w _ e rows d hh _ _ _)
  rcases h3 with ⟨_,_,h3,_⟩|⟨g,off,c,arr,u,bs,a1,a2,a3,_⟩
  ·rw[h3]at hb;cases hb
  ·rw[a2]at hb;simp at hb;subst hb;exact(Array.getElem?_eq_some_iff.mp a3).1
 |box t cs=>
  obtain⟨g,arr,et,h1,h2,h3,h4,_⟩:=(this:BoxR E w S0 G st.ob cs _ _ _)
  rw[h2]at hb;simp at hb;subst hb;exact(Array.getElem?_eq_some_iff.mp h4).1
 |mp kl el es=>
  obtain⟨g,arr,ck,h1,h2,h3,h4,_⟩:=(this:MapR w kl el es _ _ _)
  rw[h2]at hb;simp at hb;subst hb;exact(Array.getElem?_eq_some_iff.mp h4).1
theorem RelG.old_lt (h:RelG E base M S0 R0 w0 nt G st a w) {b:Nat} (hb:w.heap.size≤b):¬S0 b∧b∉G.F∧base≤b∧∀o x,getO st.ob o=some x→b∉G.top o∧b∉G.ins o:=by
 have hs:=h.kept.size
 refine⟨fun hh=>?_,fun hh=>?_,by omega,fun o x hx=>⟨fun hh=>?_,fun hh=>?_⟩⟩
 ·have:=(h.old b hh).1;omega
 ·have:=(h.F b hh).2.2;omega
 ·have:=h.top_lt hx b hh;omega
 ·have:=(h.F b ((h.ins o x hx).1 b hh)).2.2;omega
theorem RelG.add1 (h:RelG E base M S0 R0 w0 nt G st a w) {k:Id} (hno:NoRef k st) (x:Obj) (root:Value) (top ins fl:List Nat) {w':World}
  (hk:Kept base M w0 w') (hs:w.heap.size≤w'.heap.size) (hw:∀b,Live S0 G st.ob b→w'.heap[b]?=w.heap[b]?)
  (hfl:∀b∈fl,¬S0 b∧(base≤b∨b∈M)∧b<w'.heap.size∧∀o x,getO st.ob o=some x→b∉G.top o)
  (htop:∀b∈top,¬S0 b∧b∉G.F∧b∉fl∧(base≤b∨b∈M)∧∀o x,getO st.ob o=some x→b∉G.top o)
  (hins:∀b∈ins,(b∈G.F∨b∈fl)∧∀o x,getO st.ob o=some x→b∉G.ins o) (hnd:ins.Nodup)
  (hobj:ObjR E w' S0 (G.set1 k root top ins fl) (setO st.ob k x) k x):
  RelG E base M S0 R0 w0 nt (G.set1 k root top ins fl) {st with ob:=setO st.ob k x} a w':=by
 have key:=h.add [(k,x)] (fun k' hk'=>by simp[keys]at hk';subst hk';exact hno) (G.set1 k root top ins fl) hk hs hw
  (fun o ho=>by simp[keys]at ho;simp[Gh.set1,ho]) (fun b hb=>List.mem_append.mpr (.inl hb))
  (fun b hb=>(List.mem_append.mp hb).imp id (hfl b))
  (fun k' x' hf=>by
   rw[Z4B]at hf
   split at hf
   ·rename_i e;subst e;cases hf;exact hobj
   ·cases hf)
  (fun k' hk' b hb=>by
   simp[keys]at hk';subst hk'
   simp only[Gh.set1,if_true]at hb⊢
   obtain⟨h1,h2,h3,h4,h5⟩:=htop b hb
   exact⟨h1,fun hh=>(List.mem_append.mp hh).elim h2 h3,h4,h5⟩)
  (fun k' hk'=>by
   simp[keys]at hk';subst hk'
   simp only[Gh.set1,if_true]
   exact⟨fun b hb=>⟨List.mem_append.mpr (hins b hb).1,(hins b hb).2⟩,hnd⟩)
  (fun k1 hk1 k2 hk2 hne=>by simp[keys]at hk1 hk2;exact absurd (hk1.trans hk2.symm) hne)
  (fun k1 hk1 k2 hk2 hne=>by simp[keys]at hk1 hk2;exact absurd (hk1.trans hk2.symm) hne)
 exact key
theorem Z0P {k:Id} {root:Value} {top ins fl:List Nat}:(G.set1 k root top ins fl).root k=root∧(G.set1 k root top ins fl).top k=top∧(G.set1 k root top ins fl).ins k=ins:=by simp[Gh.set1]
theorem RelG.addRow (h:RelG E base M S0 R0 w0 nt G st a w) {k:Id} (hno:NoRef k st) (e:TypeId) (rows:List (List Dat)) (deep:Bool) (root:Value) (top ins fl:List Nat) {w':World}
  (hk:Kept base M w0 w') (hs:w.heap.size≤w'.heap.size) (hw:∀b,Live S0 G st.ob b→w'.heap[b]?=w.heap[b]?)
  (hfl:∀b∈fl,¬S0 b∧(base≤b∨b∈M)∧b<w'.heap.size∧∀o x,getO st.ob o=some x→b∉G.top o)
  (htop:∀b∈top,¬S0 b∧b∉G.F∧b∉fl∧(base≤b∨b∈M)∧∀o x,getO st.ob o=some x→b∉G.top o)
  (hins:∀b∈ins,(b∈G.F∨b∈fl)∧∀o x,getO st.ob o=some x→b∉G.ins o) (hnd:ins.Nodup)
  (hrow:RowR E w' (fun b=>S0 b∨b∈G.F++fl) e rows deep [] root top ins):
  RelG E base M S0 R0 w0 nt (G.set1 k root top ins fl) {st with ob:=setO st.ob k (.row e rows deep 0 [])} a w':=
 h.add1 hno _ root top ins fl hk hs hw hfl htop hins hnd (by
  obtain⟨h1,h2,h3⟩:=Z0P (G:=G) (k:=k) (root:=root) (top:=top) (ins:=ins) (fl:=fl)
  simp only[ObjR,h1,h2,h3]
  exact hrow)
theorem OT.rowR {e:TypeId} {d:Dat} {v:Value} {bs:List Nat} (h:OT E w (.sl e) d v bs):∃top ins,bs=top++ins∧∀S,RowR E w S e d.rows true [] v top ins:=by
 cases h with
 |nil _ te _ ht hd=>exact⟨[],[],rfl,fun S=>⟨te,ht,(by rw[hd];intro j r hj;simp at hj),.inl ⟨rfl,hd,rfl,rfl⟩⟩⟩
 |row _ te _ g off c arr u bs ht hb hc hs hl hm hr=>
  refine⟨[g],_,rfl,fun S=>⟨te,ht,hl,.inr ⟨g,off,c,arr,u,bs,rfl,rfl,hb,hc,hs,fun j i hj hi=>⟨hm j i hj hi,?_⟩,fun j i r l hj hl' _=>by simpa using hr j i r l hj hl',fun _=>rfl,(fun h=>by cases h),fun j i hh=>?_⟩⟩⟩
  ·exact(hr j i _ _ (List.getElem?_eq_getElem hj) (List.getElem?_eq_getElem hi)).one
  ·obtain⟨r,hr,_⟩:=hh;cases hr
theorem RelG.addTree (h:RelG E base M S0 R0 w0 nt G st a w) {k:Id} (hno:NoRef k st) {e:TypeId} {d:Dat} {v:Value} {bs:List Nat} (hot:OT E w (.sl e) d v bs) (hnd:bs.Nodup)
  (hbs:∀b∈bs,¬S0 b∧b∉G.F∧(base≤b∨b∈M)∧∀o x,getO st.ob o=some x→b∉G.top o∧b∉G.ins o):
  ∃G',RelG E base M S0 R0 w0 nt G' {st with ob:=setO st.ob k (.row e d.rows true 0 [])} a w∧G'.root k=v∧
   (∀b,b∈G'.F∨b∈G'.top k∨b∈G'.ins k→b∈G.F∨b∈bs)∧(∀o,o≠k→G'.root o=G.root o∧G'.top o=G.top o∧G'.ins o=G.ins o)∧(∀b∈G.F,b∈G'.F):=by
 obtain⟨top,ins,rfl,hrow⟩:=hot.rowR
 obtain⟨n1,n2,n3⟩:=List.nodup_append.mp hnd
 have hlt:=hot.lt
 refine⟨G.set1 k v top ins ins,h.addRow hno e d.rows true v top ins ins h.kept (Nat.le_refl _) (fun _ _=>rfl) (fun b hb=>?_) (fun b hb=>?_) (fun b hb=>?_) n2 (hrow _),by simp[Gh.set1],fun b hb=>?_,fun o ho=>by simp[Gh.set1,ho],fun b hb=>List.mem_append.mpr (.inl hb)⟩
 ·obtain⟨h1,h2,h3,h4⟩:=hbs b (List.mem_append.mpr (.inr hb))
  exact⟨h1,h3,hlt b (List.mem_append.mpr (.inr hb)),fun o x hx=>(h4 o x hx).1⟩
 ·obtain⟨h1,h2,h3,h4⟩:=hbs b (List.mem_append.mpr (.inl hb))
  exact⟨h1,h2,fun hb'=>n3 b hb b hb' rfl,h3,fun o x hx=>(h4 o x hx).1⟩
 ·exact⟨.inr hb,fun o x hx=>((hbs b (List.mem_append.mpr (.inr hb))).2.2.2 o x hx).2⟩
 ·simp only[Gh.set1,if_true,List.mem_append]at hb⊢
  rcases hb with (hb|hb)|hb|hb
  ·exact .inl hb
  ·exact .inr (.inr hb)
  ·exact .inr (.inl hb)
  ·exact .inr (.inr hb)
theorem RelG.addBox (h:RelG E base M S0 R0 w0 nt G st a w) {k:Id} (hno:NoRef k st) {t et:TypeId} {cells:List AV} {arr:Array Value} (hl:arr.size=cells.length)
  (hc:∀(i:Nat) (v:AV) (x:Value),cells[i]?=some v→arr[i]?=some x→VR E w S0 G st.ob v x∧oneV x) (hnk:k∉idsL cells):
  RelG E base M S0 R0 w0 nt (G.set1 k (.pointer (some ⟨w.heap.size,0,none⟩)) [w.heap.size] [] []) {st with ob:=setO st.ob k (.box t cells)} a (w.alloc (.cells arr et))∧
   VR E (w.alloc (.cells arr et)) S0 (G.set1 k (.pointer (some ⟨w.heap.size,0,none⟩)) [w.heap.size] [] []) (setO st.ob k (.box t cells)) (.ptr k 0 0) (.pointer (some ⟨w.heap.size,0,none⟩)):=by
 have hold:∀b,b<w.heap.size→(w.alloc (.cells arr et)).heap[b]?=w.heap[b]?:=fun b hb=>heap_alloc_old w _ hb
 have hlive:∀b,Live S0 G st.ob b→b<w.heap.size:=fun b hb=>by
  rcases hb with hb|hb|⟨o,x,hx,hb⟩
  ·exact Nat.lt_of_lt_of_le (h.old b hb).1 h.kept.size
  ·exact(h.F b hb).2.2
  ·exact h.top_lt hx b hb
 have hk:Kept base M w0 (w.alloc (.cells arr et)):=⟨Nat.le_trans h.kept.size (by simp),fun b hb hm=>(hold b (Nat.lt_of_lt_of_le hb h.kept.size)).trans (h.kept.heap b hb hm),h.kept.os,h.kept.tape,h.kept.output⟩
 obtain⟨f1,f2,f3,f4⟩:=h.old_lt (Nat.le_refl w.heap.size)
 have key:=h.add1 hno (.box t cells) (.pointer (some ⟨w.heap.size,0,none⟩)) [w.heap.size] [] [] hk (by simp) (fun b hb=>hold b (hlive b hb)) (fun b hb=>by cases hb)
  (fun b hb=>by
   simp at hb;subst hb
   exact⟨f1,f2,(by simp),.inl f3,fun o x hx=>(f4 o x hx).1⟩) (fun b hb=>by cases hb) (by simp) (by
   obtain⟨h1,h2,h3⟩:=Z0P (G:=G) (k:=k) (root:=.pointer (some ⟨w.heap.size,0,none⟩)) (top:=[w.heap.size]) (ins:=[]) (fl:=[])
   simp only[ObjR,h1,h2,h3]
   refine⟨w.heap.size,arr,et,rfl,rfl,rfl,heap_alloc_new w _,hl,fun i v x hv hx=>?_⟩
   obtain⟨q1,q2⟩:=hc i v x hv hx
   refine⟨?_,q2⟩
   have hcomp:Comp (fun o=>o=k) E w S0 G st.ob (w.alloc (.cells arr et)) (G.set1 k (.pointer (some ⟨w.heap.size,0,none⟩)) [w.heap.size] [] []) (setO st.ob k (.box t cells)):=
    ⟨fun b hb=>hold b (hlive b (.inl hb)),fun b hb=>⟨hold b (hlive b (.inr (.inl hb))),List.mem_append.mpr (.inl hb)⟩,fun o t' c' ho hg=>by
     rw[Z1,if_neg ho]at hg
     exact⟨by simp[Gh.set1,ho],t',c',hg⟩,fun o e rows dp vr hh ho hg=>by
     rw[Z1,if_neg ho]at hg
     refine⟨by simp[Gh.set1,ho],rows,dp,vr,hh,hg,rfl,Nat.le_refl _,fun hd _=>⟨hd,fun _ hx=>hx,fun te j r hte hj=>⟨r,hj,fun col e' hc hq=>⟨rfl,fun g o0 n c hr=>?_⟩⟩⟩⟩
     refine ZD (a:=⟨g,o0+(j*te.ls.length+col),none⟩) (hold g (h.top_lt hg g ?_))
     obtain⟨te',_,_,h3⟩:=(h.objs o _ hg:RowR E w _ e rows dp hh _ _ _)
     rcases h3 with ⟨h3,_⟩|⟨g',off,c',arr,u,bs,a1,a2,_⟩
     ·rw[h3]at hr;cases hr
     ·rw[a1]at hr;cases hr;rw[a2];simp,fun o kl el es ho hg=>by
     rw[Z1,if_neg ho]at hg
     exact⟨by simp[Gh.set1,ho],kl,el,es,hg⟩⟩
   exact q1.map hcomp (fun o ho e=>hnk (by subst e;exact Zo hv ho)))
 refine⟨key,.ptr _ _ _ _ ⟨fun t' c' hg=>⟨rfl,w.heap.size,by simp[Gh.set1],rfl⟩,fun e rows dp vr hh te hg _=>?_,fun kl el es hg=>by rw[Z1,if_pos rfl]at hg;cases hg⟩ ⟨(fun _ h=>by cases h),(fun _ h=>by cases h)⟩⟩
 rw[Z1,if_pos rfl]at hg;cases hg
theorem Z0Q (t:Nat):∀(ls:List Leaf) (c:Nat),∀k∈keys (zeroObjs t c ls),k.1=t∧c≤k.2
 |[],c,k,hk=>by simp[zeroObjs,keys]at hk
 |l::ls,c,k,hk=>by
  have ih:=Z0Q t ls (c+1)
  have rest:k∈keys (zeroObjs t (c+1) ls)→k.1=t∧c≤k.2:=fun hk=>by
   obtain⟨h1,h2⟩:=ih k hk
   exact⟨h1,by omega⟩
  cases l with
  |sl e=>
   simp only[zeroObjs,keys,List.mem_cons]at hk
   rcases hk with hk|hk
   ·subst hk;exact⟨rfl,Nat.le_refl _⟩
   ·exact rest hk
  |int k'=>simp only[zeroObjs]at hk;exact rest hk
  |bool=>simp only[zeroObjs]at hk;exact rest hk
  |str=>simp only[zeroObjs]at hk;exact rest hk
theorem RelG.addNils (t:Nat):∀(ls:List Leaf) (c:Nat) {G:Gh} {st:St},RelG E base M S0 R0 w0 nt G st a w→(∀e,Leaf.sl e∈ls→∃te,E.T e=some te)→(∀k∈keys (zeroObjs t c ls),NoRef k st)→
  ∃G',RelG E base M S0 R0 w0 nt G' {st with ob:=upAll (zeroObjs t c ls) st.ob} a w∧(∀k∈keys (zeroObjs t c ls),G'.root k=.slice none 0 0)∧
   (∀o,o∉keys (zeroObjs t c ls)→G'.root o=G.root o∧G'.top o=G.top o∧G'.ins o=G.ins o)∧G'.F=G.F∧
   (∀k',k'∉keys (zeroObjs t c ls)→NoRef k' st→NoRef k' {st with ob:=upAll (zeroObjs t c ls) st.ob})
 |[],c,G,st,h,_,_=>⟨G,h,(fun k hk=>by simp[zeroObjs,keys]at hk),(fun _ _=>⟨rfl,rfl,rfl⟩),rfl,fun _ _ h=>h⟩
 |l::ls,c,G,st,h,hls,hno=>by
  have rest:∀{G:Gh} {st:St},RelG E base M S0 R0 w0 nt G st a w→(∀k∈keys (zeroObjs t (c+1) ls),NoRef k st)→_:=fun h hno=>RelG.addNils t ls (c+1) h (fun e he=>hls e (List.mem_cons_of_mem _ he)) hno
  cases l with
  |sl e=>
   obtain⟨te,hte⟩:=hls e (by simp)
   simp only[zeroObjs,keys,List.mem_cons]at hno⊢
   have h1:=h.addRow (hno (t,c) (.inl rfl)) e [] true (.slice none 0 0) [] [] [] h.kept (Nat.le_refl _) (fun _ _=>rfl) (fun b hb=>by cases hb) (fun b hb=>by cases hb) (fun b hb=>by cases hb) (by simp)
    ⟨te,hte,(fun j r hj=>by simp at hj),.inl ⟨rfl,rfl,rfl,rfl⟩⟩
   have hkey:(t,c)∉keys (zeroObjs t (c+1) ls):=fun hk=>by have:=(Z0Q t ls (c+1) _ hk).2;simp only at this;omega
   obtain⟨G',r1,r2,r3,r4,r5⟩:=rest h1 (fun k hk=>(hno k (.inr hk)).set (fun e=>hkey (e▸hk)) (fun _ _ h=>by cases h))
   refine⟨G',r1,fun k hk=>?_,fun o ho=>?_,r4.trans (by simp[Gh.set1]),fun k' hk' hn=>?_⟩
   ·rcases hk with rfl|hk
    ·rw[(r3 _ hkey).1];simp[Gh.set1]
    ·exact r2 k hk
   ·obtain⟨o1,o2⟩:=not_or.mp ho
    obtain⟨q1,q2,q3⟩:=r3 o o2
    rw[q1,q2,q3]
    simp[Gh.set1,o1]
   ·obtain⟨o1,o2⟩:=not_or.mp hk'
    exact r5 k' o2 (hn.set o1 (fun _ _ h=>by cases h))
  |int k=>simp only[zeroObjs]at hno⊢;exact rest h hno
  |bool=>simp only[zeroObjs]at hno⊢;exact rest h hno
  |str=>simp only[zeroObjs]at hno⊢;exact rest h hno
def putD (st:St):Option Nat→AV→St
 |none,_=>st
 |some t,x=>{st with tm:=putT st.tm t x}
theorem RelG.putO (h:RelG E base M S0 R0 w0 nt G st a w) {dst:Option Nat} (hd:inB nt dst=true) {x:AV} {v:Value} (hv:VR E w S0 G st.ob x v):
  RelG E base M S0 R0 w0 nt G (putD st dst x) (a.put dst v) w:=by
 cases dst with
 |none=>exact h
 |some t=>
  have ht:t<nt:=Nat.le_of_ble_eq_true hd
  exact h.put ht hv
theorem Z8 (st:St) (dst:Option Nat) (d:Delta):applyD st dst d=
  putD {clearAll d.nw {(bif d.nm then({tm:=numbT st.tm,ob:=numbO (delAll d.dl st.ob)}:St)else{st with ob:=delAll d.dl st.ob})with
    ob:=upAll d.up (bif d.nm then({tm:=numbT st.tm,ob:=numbO (delAll d.dl st.ob)}:St)else{st with ob:=delAll d.dl st.ob}).ob}with
   ob:=upAll d.up2 (upAll d.nw (clearAll d.nw {(bif d.nm then({tm:=numbT st.tm,ob:=numbO (delAll d.dl st.ob)}:St)else{st with ob:=delAll d.dl st.ob})with
    ob:=upAll d.up (bif d.nm then({tm:=numbT st.tm,ob:=numbO (delAll d.dl st.ob)}:St)else{st with ob:=delAll d.dl st.ob}).ob}).ob)} dst d.v:=by
 cases dst<;>rfl
theorem RelG.done_pure (h:RelG E base M S0 R0 w0 nt G st a w) {dst:Option Nat} (hd:inB nt dst=true) {x:AV} {v:Value} (hv:VR E w S0 G st.ob x v):RelG E base M S0 R0 w0 nt G (applyD st dst {v:=x}) (a.put dst v) w:=by
 rw[Z8]
 exact h.putO hd hv
end
end Go.Proofs.YtnihikajdbcoaaaGreat.Vai
namespace Go.Proofs.YtnihikajdbcoaaaGreat.Vai
open Go
section
variable {P:Program} {E:Env} {base:Nat} {M:List Nat} {S0:Nat→Prop} {R0:Id→Value} {w0:World} {nt:Nat} {G:Gh} {st:St} {a:Act} {w:World} {look:Look}
def Stepped (E:Env) (base:Nat) (M:List Nat) (S0:Nat→Prop) (R0:Id→Value) (w0:World) (nt:Nat) (st:St) (a:Act) (dst:Option Nat) (d:Delta) (run:Result Value):Prop:=
 ∃v w',run=.ok v w'∧Rel E base M S0 R0 w0 nt (applyD st dst d) (a.put dst v) w'
theorem Z0z {t:Nat} (ht:t<1000000) (c:Nat):isPar (t,c)=false:=by
 cases h:isPar (t,c)with
 |false=>rfl
 |true=>have:=Nat.le_of_ble_eq_true h;simp only at this;omega
theorem Zg {t:Nat} (ht:t<1000000) (c:Nat) (x:Obj):∀k∈keys [((t,c),x)],isPar k=false:=fun k hk=>by simp[keys]at hk;subst hk;exact Z0z ht c
theorem Z2E {t:Nat} (ht:t<1000000) (c:Nat) (ls:List Leaf):∀k∈keys (zeroObjs t c ls),isPar k=false:=fun k hk=>by
 obtain⟨k1,k2⟩:=k
 have:=(Z0Q t ls c _ hk).1
 simp only at this
 subst this
 exact Z0z ht _
theorem RelG.after_dels (h:RelG E base M S0 R0 w0 nt G st a w) (dl:List Id) (nw:List (Id×Obj)) (hpk:∀k∈keys nw,isPar k=false):
  RelG E base M S0 R0 w0 nt G (clearAll nw {st with ob:=delAll dl st.ob}) a w∧(∀k∈keys nw,NoRef k (clearAll nw {st with ob:=delAll dl st.ob}))∧
   ∀o x,getO (clearAll nw {st with ob:=delAll dl st.ob}).ob o=some x→o∉keys nw∧o∉dl∧∃y,getO st.ob o=some y∧(x=y∨∃t cs cs',y=.box t cs∧x=.box t cs'):=by
 obtain⟨h1,h2,_,h4⟩:=(h.dels dl).clears nw hpk
 refine⟨h1,h2,fun o x hx=>?_⟩
 obtain⟨q1,y,q2,q3⟩:=h4 o x hx
 simp only[ZC]at q2
 split at q2
 ·cases q2
 ·rename_i hn;exact⟨q1,hn,y,q2,q3⟩
theorem RelG.newRow (h:RelG E base M S0 R0 w0 nt G st a w) {dst:Option Nat} (hd:inB nt dst=true) {t:Nat} (hti:t<1000000) (dl:List Id) (top ins fl:List Nat) (root:Value) (e:TypeId) (rows:List (List Dat)) (deep:Bool) {w':World}
  (hk:Kept base M w0 w') (hs:w.heap.size≤w'.heap.size)
  (hw:∀b,(S0 b∨b∈G.F∨∃o x,getO st.ob o=some x∧o∉dl∧b∈G.top o)→w'.heap[b]?=w.heap[b]?)
  (hfl:∀b∈fl,∃o∈dl,∃x,getO st.ob o=some x∧b∈G.top o)
  (htop:∀b∈top,b∉fl∧(w.heap.size≤b∨∃o∈dl,∃x,getO st.ob o=some x∧b∈G.top o))
  (hins:∀b∈ins,b∈fl∨∃o∈dl,∃x,getO st.ob o=some x∧b∈G.ins o) (hnd:ins.Nodup)
  (hrow:RowR E w' (fun b=>S0 b∨b∈G.F++fl) e rows deep [] root top ins):
  Rel E base M S0 R0 w0 nt (applyD st dst {v:=.own (t,0),nw:=[((t,0),.row e rows deep 0 [])],dl:=dl}) (a.put dst root) w':=by
 obtain⟨h1,h2,h3⟩:=h.after_dels dl [((t,0),.row e rows deep 0 [])] (Zg hti 0 _)
 have hno:=h2 (t,0) (by simp[keys])
 have live:∀o x,getO (clearAll [((t,0),.row e rows deep 0 [])] {st with ob:=delAll dl st.ob}).ob o=some x→o∉dl∧∃y,getO st.ob o=some y:=fun o x hx=>by
  obtain⟨_,q1,y,q2,_⟩:=h3 o x hx
  exact⟨q1,y,q2⟩
 have h4:=h1.addRow hno e rows deep root top ins fl hk hs (fun b hb=>hw b (by
   rcases hb with hb|hb|⟨o,x,hx,hb⟩
   ·exact .inl hb
   ·exact .inr (.inl hb)
   ·obtain⟨q1,y,q2⟩:=live o x hx
    exact .inr (.inr ⟨o,y,q2,q1,hb⟩)))
  (fun b hb=>by
   obtain⟨o,ho,x,hx,hb⟩:=hfl b hb
   obtain⟨q1,q2,q3⟩:=h.tops o x hx b hb
   refine⟨q1,q3,Nat.lt_of_lt_of_le (h.top_lt hx b hb) hs,fun o' x' hx' hb'=>?_⟩
   obtain⟨r1,y,r2⟩:=live o' x' hx'
   exact h.tops2 o x o' y hx r2 (fun e=>r1 (e▸ho)) b hb hb')
  (fun b hb=>by
   obtain⟨q0,hb⟩:=htop b hb
   rcases hb with hb|⟨o,ho,x,hx,hb⟩
   ·obtain⟨f1,f2,f3,f4⟩:=h.old_lt hb
    refine⟨f1,f2,q0,.inl f3,fun o' x' hx'=>?_⟩
    obtain⟨r1,y,r2⟩:=live o' x' hx'
    exact(f4 o' y r2).1
   ·obtain⟨q1,q2,q3⟩:=h.tops o x hx b hb
    refine⟨q1,q2,q0,q3,fun o' x' hx' hb'=>?_⟩
    obtain⟨r1,y,r2⟩:=live o' x' hx'
    exact h.tops2 o x o' y hx r2 (fun e=>r1 (e▸ho)) b hb hb')
  (fun b hb=>by
   rcases hins b hb with hb|⟨o,ho,x,hx,hb⟩
   ·refine⟨.inr hb,fun o' x' hx' hb'=>?_⟩
    obtain⟨o,ho,x,hx,hb⟩:=hfl b hb
    obtain⟨r1,y,r2⟩:=live o' x' hx'
    exact h.apart hx r2 (fun e=>r1 (e▸ho)) (.inl hb) (.inr hb')
   ·refine⟨.inl ((h.ins o x hx).1 b hb),fun o' x' hx' hb'=>?_⟩
    obtain⟨r1,y,r2⟩:=live o' x' hx'
    exact h.ins2 o x o' y hx r2 (fun e=>r1 (e▸ho)) b hb hb') hnd hrow
 have h1v:oneV root:=by
  obtain⟨te,_,_,b3⟩:=hrow
  rcases b3 with ⟨b3,_⟩|⟨g,off,c,arr,u,bs,a1,_⟩
  ·rw[b3];exact⟨(fun _ h=>by cases h),(fun _ h=>by cases h)⟩
  ·rw[a1];exact⟨(fun _ h=>by cases h),(fun _ h=>by cases h)⟩
 rw[Z8]
 exact⟨_,h4.putO hd (.own _ _ (fun e' rows' dp vr hh hg=>by simp[Gh.set1]) h1v)⟩
theorem Z0R (l:Leaf):oneV (zeroV l):=by cases l<;>exact⟨(fun _ h=>by cases h),(fun _ h=>by cases h)⟩
theorem TOk.zero {t:TypeId} {ti:TI} (h:TOk P E t ti) (w:World):∃z,(zeroValue t).run P w=.ok z w∧z.cells=(ti.ls.map zeroV).toArray:=by
 obtain⟨i,hi,_,_,hz⟩:=h.info
 refine⟨_,by simp[zeroValue,typeInfo,hi,hz];rfl,?_⟩
 cases ha:ti.agg with
 |true=>simp[Value.cells]
 |false=>
  obtain⟨l,hl,_⟩:=h.single ha
  simp[hl,ZO (Z0R l)]
theorem Z58 {l:Leaf} (hl:∀e,l=.sl e→∃te,E.T e=some te):OT E w l (zeroDat l) (zeroV l) []:=by
 cases l with
 |int k=>exact .int k (.int 0)
 |bool=>exact .bool (.bool false)
 |str=>exact .str (.str ⟨#[]⟩)
 |sl e=>
  obtain⟨te,ht⟩:=hl e rfl
  exact .nil e te (.sl []) ht rfl
theorem RelG.kept_alloc (h:RelG E base M S0 R0 w0 nt G st a w) (o:Go.Obj):Kept base M w0 (w.alloc o)∧(∀b,b<w.heap.size→(w.alloc o).heap[b]?=w.heap[b]?):=by
 have hold:∀b,b<w.heap.size→(w.alloc o).heap[b]?=w.heap[b]?:=fun b hb=>heap_alloc_old w _ hb
 exact⟨⟨Nat.le_trans h.kept.size (by simp),fun b hb hm=>(hold b (Nat.lt_of_lt_of_le hb h.kept.size)).trans (h.kept.heap b hb hm),h.kept.os,h.kept.tape,h.kept.output⟩,hold⟩
theorem RelG.live_lt (h:RelG E base M S0 R0 w0 nt G st a w) {b:Nat} (hb:S0 b∨b∈G.F∨∃o x,getO st.ob o=some x∧b∈G.top o):b<w.heap.size:=by
 rcases hb with hb|hb|⟨o,x,hx,hb⟩
 ·exact Nat.lt_of_lt_of_le (h.old b hb).1 h.kept.size
 ·exact(h.F b hb).2.2
 ·exact h.top_lt hx b hb
theorem Z4j (hE:EnvOk P E) (h:RelG E base M S0 R0 w0 nt G st a w) {dst:Option Nat} (hd:inB nt dst=true) {e:TypeId} (he:∃te,E.T e=some te) {t:Nat} (hti:t<1000000):
  Stepped E base M S0 R0 w0 nt st a dst {v:=.own (t,0),nw:=[((t,0),.row e [] true 0 [])]} (.ok (.slice none 0 0) w):=by
 obtain⟨te,hte⟩:=he
 have _:=hE
 exact⟨_,_,rfl,h.newRow hd hti [] [] [] [] _ e [] true h.kept (Nat.le_refl _) (fun _ _=>rfl) (fun b hb=>by cases hb) (fun b hb=>by cases hb) (fun b hb=>by cases hb) (by simp)
  ⟨te,hte,(fun j r hj=>by simp at hj),.inl ⟨rfl,rfl,rfl,rfl⟩⟩⟩
theorem Z1W (t:Nat):∀(ls:List Leaf) (c i:Nat),(zeroAVs t c ls)[i]?=(ls[i]?).map fun l=>match l with
  |.int k=>.i k 0
  |.bool=>.b false
  |.str=>.s ⟨#[]⟩
  |.sl _=>.own (t,c+i)
 |[],c,i=>by simp[zeroAVs]
 |l::ls,c,i=>by
  cases i with
  |zero=>cases l<;>simp[zeroAVs]
  |succ i=>
   have:=Z1W t ls (c+1) i
   have e:c+1+i=c+(i+1):=by omega
   rw[e]at this
   cases l<;>simp only[zeroAVs,List.getElem?_cons_succ]<;>exact this
theorem Z00 (t c:Nat) (ls:List Leaf):(zeroAVs t c ls).length=ls.length:=by
 induction ls generalizing c with
 |nil=>rfl
 |cons l ls ih=>cases l<;>simp[zeroAVs,ih]
theorem Z0t (t:Nat):∀(ls:List Leaf) (c i:Nat) (e:TypeId),ls[i]?=some (.sl e)→(t,c+i)∈keys (zeroObjs t c ls)
 |[],c,i,e,h=>by simp at h
 |l::ls,c,i,e,h=>by
  cases i with
  |zero=>simp at h;subst h;simp[zeroObjs,keys]
  |succ i=>
   have:=Z0t t ls (c+1) i e (by simpa using h)
   have e:c+1+i=c+(i+1):=by omega
   rw[e]at this
   cases l<;>simp only[zeroObjs,keys]<;>first|exact this|exact List.mem_cons_of_mem _ this
theorem VR.zero {ob:List (Id×Obj)} {ti:TI} {t:Nat} (hroot:∀k∈keys (zeroObjs t 1 ti.ls),G.root k=.slice none 0 0) (i:Nat) (v:AV) (x:Value)
  (hv:(zeroAVs t 1 ti.ls)[i]?=some v) (hx:(ti.ls.map zeroV)[i]?=some x):VR E w S0 G ob v x∧oneV x:=by
 rw[Z1W]at hv
 obtain⟨l,hl,rfl⟩:=Option.map_eq_some_iff.mp hv
 simp only[List.getElem?_map,hl,Option.map_some,Option.some.injEq]at hx
 subst hx
 refine⟨?_,Z0R l⟩
 cases l with
 |int k=>exact .i _ _
 |bool=>exact .b _
 |str=>exact .s _
 |sl e=>
  refine .own _ _ (fun e' rows dp vr hh hg=>?_) (Z0R (.sl e))
  exact(hroot _ (Z0t t ti.ls 1 i e hl)).symm
theorem Z1X (x y:List (Id×Obj)):keys (x++y)=keys x++keys y:=by
 induction x with
 |nil=>rfl
 |cons p x ih=>obtain⟨k,v⟩:=p;simp[keys,ih]
theorem Z2t (x y:List (Id×Obj)):∀ob,upAll (x++y) ob=upAll y (upAll x ob):=by
 induction x with
 |nil=>intro ob;rfl
 |cons p x ih=>intro ob;obtain⟨k,v⟩:=p;simp[upAll,ih]
theorem Z2N (t:Nat):∀(ls:List Leaf) (c:Nat),∀k∈idsL (zeroAVs t c ls),k.1=t∧c≤k.2
 |[],c,k,hk=>by simp[zeroAVs,idsL]at hk
 |l::ls,c,k,hk=>by
  have rest:k∈idsL (zeroAVs t (c+1) ls)→k.1=t∧c≤k.2:=fun hk=>by
   obtain⟨h1,h2⟩:=Z2N t ls (c+1) k hk
   exact⟨h1,by omega⟩
  cases l<;>simp only[zeroAVs,idsL,idsA,List.nil_append,List.mem_append,List.mem_singleton]at hk
  ·exact rest hk
  ·exact rest hk
  ·exact rest hk
  ·rcases hk with hk|hk
   ·subst hk;exact⟨rfl,Nat.le_refl _⟩
   ·exact rest hk
theorem Z1t (hE:EnvOk P E) (h:RelG E base M S0 R0 w0 nt G st a w) {dst:Option Nat} (hd:inB nt dst=true) {e:TypeId} {ti:TI} (hT:TOk P E e ti) {t:Nat} (hti:t<1000000):
  Stepped E base M S0 R0 w0 nt st a dst {v:=.ptr (t,0) 0 0,nw:=zeroObjs t 1 ti.ls++[((t,0),.box e (zeroAVs t 1 ti.ls))]} ((Instr.alloc e true (.tuple #[])).run P w):=by
 have _:=hE
 obtain⟨z,hz,hzc⟩:=hT.zero w
 refine⟨.pointer (some ⟨w.heap.size,0,none⟩),w.alloc (.cells (ti.ls.map zeroV).toArray e),(by simp only[Instr.alloc,Sem.run_bind,hz,Result.andThen_ok,newVar,newRow,hzc,run_newObj,Sem.run_pure];rfl),?_⟩
 obtain⟨h1,h2,h3⟩:=h.after_dels [] (zeroObjs t 1 ti.ls++[((t,0),.box e (zeroAVs t 1 ti.ls))]) (fun k hk=>by
  rw[Z1X]at hk
  exact(List.mem_append.mp hk).elim (Z2E hti 1 ti.ls k) (Zg hti 0 _ k))
 simp only[Z1X,List.mem_append]at h2
 have hk0:(t,0)∉keys (zeroObjs t 1 ti.ls):=fun hk=>by have:=(Z0Q t ti.ls 1 _ hk).2;simp only at this;omega
 obtain⟨G',n1,n2,n3,n4,n5⟩:=h1.addNils t ti.ls 1 hT.elem (fun k hk=>h2 k (.inl hk))
 obtain⟨b1,b2⟩:=n1.addBox (et:=e) (t:=e) (n5 (t,0) hk0 (h2 _ (.inr (by simp[keys])))) (cells:=zeroAVs t 1 ti.ls) (arr:=(ti.ls.map zeroV).toArray) (by simp[Z00]) (fun i v x hv hx=>VR.zero n2 i v x hv (by simpa using hx))
  (fun hk=>by have:=(Z2N t ti.ls 1 _ hk).2;simp only at this;omega)
 rw[Z8]
 simp only[Z2t,Z4C]
 exact⟨_,b1.putO hd b2⟩
theorem Z4k (hE:EnvOk P E) (h:RelG E base M S0 R0 w0 nt G st a w) {dst:Option Nat} (hd:inB nt dst=true) {e:TypeId} {x:AV} {v:Value} (hv:VR E w S0 G st.ob x v) {t:Nat} (hti:t<1000000)
  (hx:(∀vs,x≠.tup vs)∧x≠.dead) (hk:(t,0)∉idsL (flat x)):
  Stepped E base M S0 R0 w0 nt st a dst {v:=.ptr (t,0) 0 0,nw:=[((t,0),.box e (flat x))]} ((Instr.box e v).run P w):=by
 have _:=hE
 obtain⟨p1,p2,p3⟩:=hv.packed hx.1 hx.2
 refine⟨.pointer (some ⟨w.heap.size,0,none⟩),w.alloc (.cells v.cells e),(by simp only[Instr.box,Sem.run_bind,Result.andThen_ok,newVar,newRow,run_newObj,Sem.run_pure];rfl),?_⟩
 obtain⟨h1,h2,h3⟩:=h.after_dels [] [((t,0),.box e (flat x))] (Zg hti 0 _)
 have hc:Comp (fun o=>o=(t,0)) E w S0 G st.ob w G (clearAll [((t,0),.box e (flat x))] st).ob:=by
  have key:=Comp.less (E:=E) (w:=w) (S0:=S0) (G:=G) (ob:=st.ob) (ob':=(clearAll [((t,0),.box e (flat x))] st).ob) (fun o x hx=>by
   obtain⟨_,_,y,q1,q2⟩:=h3 o x hx
   exact⟨y,q1,q2⟩)
  exact⟨key.old,key.F,fun o t c _ hg=>key.box o t c (fun h=>h) hg,fun o e r d v hh _ hg=>key.row o e r d v hh (fun h=>h) hg,fun o kl el es _ hg=>key.mp o kl el es (fun h=>h) hg⟩
 obtain⟨b1,b2⟩:=h1.addBox (et:=e) (t:=e) (h2 (t,0) (by simp[keys])) (cells:=flat x) (arr:=v.cells) p2 (fun i y u hy hu=>by
  refine⟨(p3 i y u hy hu).map hc (fun o ho e=>hk (by subst e;exact Zo hy ho)),p1.1 u ?_⟩
  exact List.mem_of_getElem? (i:=i) (by simpa using hu)) hk
 rw[Z8]
 exact⟨_,b1.putO hd b2⟩
end
end Go.Proofs.YtnihikajdbcoaaaGreat.Vai
namespace Go.Proofs.YtnihikajdbcoaaaGreat.Vai
open Go
theorem ZB {α:Type} (xs:List α):∀(l:List α) (i:Nat),(setRange l i xs).length=l.length:=by
 induction xs with
 |nil=>intro l i;rfl
 |cons x xs ih=>intro l i;simp[setRange,ih]
theorem ZJ {α:Type} (xs:List α):∀(l:List α) (i k:Nat),(setRange l i xs)[k]?=if i≤k∧k<i+xs.length then(if k<l.length then xs[k-i]? else none)else l[k]?:=by
 induction xs with
 |nil=>
  intro l i k
  have:¬(i≤k∧k<i+0):=by omega
  simp only[setRange,List.length_nil,if_neg this]
 |cons x xs ih=>
  intro l i k
  simp only[setRange,ih,List.length_cons,List.length_set,List.getElem?_set]
  by_cases h1:i+1≤k∧k<i+1+xs.length
  ·have h2:i≤k∧k<i+(xs.length+1):=by omega
   rw[if_pos h1,if_pos h2]
   have:k-i=(k-(i+1))+1:=by omega
   rw[this,List.getElem?_cons_succ]
  ·rw[if_neg h1]
   by_cases h2:i=k
   ·subst h2
    have h3:i≤i∧i<i+(xs.length+1):=by omega
    simp
   ·have h3:¬(i≤k∧k<i+(xs.length+1)):=by omega
    rw[if_neg h3,if_neg h2]
theorem Z2O:∀(vs:List Value) (k off:Nat) (cells:Array Value),((vs.zipIdx k).foldl (fun(cs:Array Value) (p:Value×Nat)=>cs.setIfInBounds (off+p.2) p.1) cells).toList=setRange cells.toList (off+k) vs
 |[],k,off,cells=>by simp[setRange]
 |v::vs,k,off,cells=>by
  simp only[List.zipIdx_cons,List.foldl_cons,setRange]
  rw[Z2O vs (k+1) off]
  simp only[Array.toList_setIfInBounds,Nat.add_assoc]
theorem Z10 (place:Nat→Option (Nat×Nat)) (cells:Array Value) (i:Nat) (v:Value) (rest:List (Nat×Value)) {off:Nat} (hp:place i=some (off,v.cells.size)) (hle:off+v.cells.size≤cells.size):
  Instr.fill place cells ((i,v)::rest)=Instr.fill place ⟨setRange cells.toList off v.cells.toList⟩ rest:=by
 have h1:¬(off+v.cells.size>cells.size):=by omega
 have h2:(v.cells.zipIdx.foldl (fun(cs:Array Value) (p:Value×Nat)=>cs.setIfInBounds (off+p.2) p.1) cells)=⟨setRange cells.toList off v.cells.toList⟩:=by
  apply Array.ext'
  rw[←Array.foldl_toList,Array.toList_zipIdx,Z2O]
  simp
 rw[←h2]
 simp[Instr.fill,hp,h1]
section
variable {P:Program} {E:Env} {base:Nat} {M:List Nat} {S0:Nat→Prop} {R0:Id→Value} {w0:World} {nt:Nat} {G:Gh} {st:St} {a:Act} {w:World} {look:Look}
def CellsR (E:Env) (w:World) (S0:Nat→Prop) (G:Gh) (ob:List (Id×Obj)) (cs:List AV) (us:List Value):Prop:=
 cs.length=us.length∧∀(i:Nat) (v:AV) (x:Value),cs[i]?=some v→us[i]?=some x→VR E w S0 G ob v x∧oneV x
theorem CellsR.setRange {ob:List (Id×Obj)} {cs xs:List AV} {us vs:List Value} (h:CellsR E w S0 G ob cs us) (h':CellsR E w S0 G ob xs vs) (off:Nat):
  CellsR E w S0 G ob (setRange cs off xs) (setRange us off vs):=by
 refine⟨by simp[ZB,h.1],fun i v x hv hx=>?_⟩
 rw[ZJ]at hv hx
 rw[←h'.1]at hx
 split at hv
 ·rename_i hc
  rw[if_pos hc]at hx
  split at hv
  ·rw[if_pos (by rw[←h.1];assumption)]at hx
   exact h'.2 _ _ _ hv hx
  ·cases hv
 ·rename_i hc
  rw[if_neg hc]at hx
  exact h.2 _ _ _ hv hx
theorem VR.flatR {ob:List (Id×Obj)} {x:AV} {v:Value} (h:VR E w S0 G ob x v) (hx:solid x=true):CellsR E w S0 G ob (flat x) v.cells.toList:=by
 obtain⟨p1,p2,p3⟩:=h.packed (fun vs e=>by subst e;cases hx) (fun e=>by subst e;cases hx)
 refine⟨by simp[p2],fun i y u hy hu=>⟨p3 i y u hy (by simpa using hu),p1.1 u (List.mem_of_getElem? hu)⟩⟩
theorem Z11 (hE:EnvOk P E) {t:TypeId} {ti:TI} (ht:E.T t=some ti) (ha:ti.agg=true) {fields:Array Field} (hfs:fields.toList.map (fun f=>(f.offset,f.type))=ti.fs) {places:List (Nat×Nat)}
  (hpl:fields.toList.mapM (fun f=>(P.info? f.type).map fun i=>(f.offset,i.size))=some places) {ob:List (Id×Obj)} {zs:List AV}:
  ∀(ps:List (Nat×AV)) (vs:List (Nat×Value)),ps.length=vs.length→(∀(k:Nat) (p:Nat×AV) (q:Nat×Value),ps[k]?=some p→vs[k]?=some q→p.1=q.1∧VR E w S0 G ob p.2 q.2)→
  ∀(cs:List AV) (us:List Value),CellsR E w S0 G ob cs us→us.length=ti.ls.length→∀cs',opBuild E t zs ps cs=some cs'→
   ∃us',Instr.fill (places.toArray[·]?) us.toArray vs=some us'.toArray∧CellsR E w S0 G ob cs' us'
 |[],[],_,_,cs,us,hc,hl,cs',hb=>by
  simp only[opBuild,Option.some.injEq]at hb
  subst hb
  exact⟨us,rfl,hc⟩
 |[],_::_,h,_,_,_,_,_,_,_=>by simp at h
 |_::_,[],h,_,_,_,_,_,_,_=>by simp at h
 |(i,x)::ps,(i',v)::vs,hlen,hp,cs,us,hc,hl,cs',hb=>by
  obtain⟨e,hv⟩:=hp 0 _ _ rfl rfl
  simp only at e hv
  subst e
  simp only[opBuild,ht]at hb
  split at hb
  ·cases hb
  ·rename_i off ft hf
   split at hb
   ·cases hb
   ·rename_i fi hfi
    obtain⟨hg,hb2⟩:=Z0 hb
    simp only[Bool.and_eq_true]at hg
    obtain⟨hg1,hg2⟩:=hg
    have hg1:=Z3 hg1
    have hfr:=hv.flatR hg2
    have hsz:v.cells.size=fi.ls.length:=by have:=hfr.1;simp at this;omega
    obtain⟨fi',hfi',hle⟩:=(hE.T t ti ht).fld i off ft hf
    rw[hfi]at hfi';cases hfi'
    have hplace:places.toArray[i]?=some (off,v.cells.size):=by
     rw[←hfs]at hf
     simp only[List.getElem?_map,Option.map_eq_some_iff,Prod.mk.injEq]at hf
     obtain⟨fd,hfd,rfl,rfl⟩:=hf
     obtain⟨inf,hinf,hs,_⟩:=(hE.T _ _ hfi).info
     have key:∀(l:List Field) (pl:List (Nat×Nat)),l.mapM (fun f=>(P.info? f.type).map fun i=>(f.offset,i.size))=some pl→∀(i:Nat) (fd:Field),l[i]?=some fd→∀inf,P.info? fd.type=some inf→pl[i]?=some (fd.offset,inf.size):=by
      intro l
      induction l with
      |nil=>intro pl _ i fd h;simp at h
      |cons f l ih=>
       intro pl hpl i fd h inf hinf
       simp only[List.mapM_cons,Option.bind_eq_bind,Option.pure_def]at hpl
       cases hi:P.info? f.type with
       |none=>simp[hi]at hpl
       |some q=>
        cases hr:l.mapM (fun f=>(P.info? f.type).map fun i=>(f.offset,i.size))with
        |none=>simp[hi,hr]at hpl
        |some rest=>
         simp[hi,hr]at hpl
         subst hpl
         cases i with
         |zero=>simp at h;subst h;rw[hi]at hinf;cases hinf;rfl
         |succ i=>simpa using ih rest hr i fd (by simpa using h) inf hinf
     have:=key _ _ hpl i fd hfd inf hinf
     rw[hsz,←hs]
     simpa using this
    rw[Z10 _ _ _ _ _ hplace (by simp;omega)]
    simp only
    exact Z11 hE ht ha hfs hpl ps vs (by simpa using hlen) (fun k p q hk hk'=>hp (k+1) p q (by simpa using hk) (by simpa using hk')) _ _ (hc.setRange hfr off) (by simp[ZB,hl]) cs' hb2
theorem Z1Y (hE:EnvOk P E):∀(l:List Field) (fs:List (Nat×TypeId)),l.map (fun f=>(f.offset,f.type))=fs→(∀(f fo:Nat) (ft:TypeId),fs[f]?=some (fo,ft)→∃fi,E.T ft=some fi)→
  ∃places,l.mapM (fun f=>(P.info? f.type).map fun i=>(f.offset,i.size))=some places
 |[],_,_,_=>⟨[],rfl⟩
 |f::l,fs,h,hf=>by
  subst h
  obtain⟨places,hp⟩:=Z1Y hE l _ rfl (fun i fo ft hi=>hf (i+1) fo ft (by simpa using hi))
  obtain⟨fi,hfi⟩:=hf 0 f.offset f.type rfl
  obtain⟨inf,hinf,_⟩:=(hE.T _ _ hfi).info
  exact⟨(f.offset,inf.size)::places,by simp[List.mapM_cons,hinf,hp]⟩
theorem Z3s (hE:EnvOk P E) (h:RelG E base M S0 R0 w0 nt G st a w) {dst:Option Nat} (hd:inB nt dst=true) {ty:TypeId} {ti:TI} (hty:E.T ty=some ti) (ha:ti.agg=true) {t:Nat} (hti:t<1000000)
  {ps:List (Nat×AV)} {vs:List (Nat×Value)} (hlen:ps.length=vs.length) (hp:∀(k:Nat) (p:Nat×AV) (q:Nat×Value),ps[k]?=some p→vs[k]?=some q→p.1=q.1∧VR E w S0 G st.ob p.2 q.2)
  (hdis:∀p∈ps,∀k∈idsA p.2,k∉keys (zeroObjs t 1 ti.ls)) {cs:List AV} (hb:opBuild E ty [] ps (zeroAVs t 1 ti.ls)=some cs):
  Stepped E base M S0 R0 w0 nt st a dst {v:=.agg cs,nw:=zeroObjs t 1 ti.ls} ((Instr.build ty vs.toArray).run P w):=by
 have hT:=hE.T ty ti hty
 obtain⟨fields,hu,hfs⟩:=hE.struct hty ha
 obtain⟨places,hpl⟩:=Z1Y hE fields.toList ti.fs hfs (fun f fo ft hf=>by obtain⟨fi,hfi,_⟩:=hT.fld f fo ft hf;exact⟨fi,hfi⟩)
 obtain⟨h1,h2,h3⟩:=h.after_dels [] (zeroObjs t 1 ti.ls) (Z2E hti 1 ti.ls)
 obtain⟨G',n1,n2,n3,n4,n5⟩:=h1.addNils t ti.ls 1 hT.elem h2
 have hc:Comp (fun o=>o∈keys (zeroObjs t 1 ti.ls)) E w S0 G st.ob w G' (upAll (zeroObjs t 1 ti.ls) (clearAll (zeroObjs t 1 ti.ls) st).ob):=by
  have key:=Comp.less (E:=E) (w:=w) (S0:=S0) (G:=G) (ob:=st.ob) (ob':=(clearAll (zeroObjs t 1 ti.ls) st).ob) (fun o x hx=>by
   obtain⟨_,_,y,q1,q2⟩:=h3 o x hx
   exact⟨y,q1,q2⟩)
  have hget:∀o x,o∉keys (zeroObjs t 1 ti.ls)→getO (upAll (zeroObjs t 1 ti.ls) (clearAll (zeroObjs t 1 ti.ls) st).ob) o=some x→getO (clearAll (zeroObjs t 1 ti.ls) st).ob o=some x:=fun o x ho hx=>by
   rw[ZT]at hx
   cases hf:findN (zeroObjs t 1 ti.ls) o with
   |some y=>exact absurd (ZS.mp ⟨y,hf⟩) ho
   |none=>rw[hf]at hx;exact hx
  refine⟨key.old,fun b hb=>⟨rfl,by rw[n4];exact hb⟩,fun o t' c' ho hg=>?_,fun o e r d v hh ho hg=>?_,fun o kl el es ho hg=>⟨(n3 o ho).1,(key.mp o kl el es (fun h=>h) (hget o _ ho hg)).2⟩⟩
  ·obtain⟨q1,q2⟩:=key.box o t' c' (fun h=>h) (hget o _ ho hg)
   exact⟨(n3 o ho).1,q2⟩
  ·obtain⟨q1,q2⟩:=key.row o e r d v hh (fun h=>h) (hget o _ ho hg)
   exact⟨(n3 o ho).1,q2⟩
 obtain⟨us',f1,f2⟩:=Z11 (E:=E) (w:=w) (S0:=S0) (G:=G') (ob:=upAll (zeroObjs t 1 ti.ls) (clearAll (zeroObjs t 1 ti.ls) st).ob) hE hty ha hfs hpl (zs:=[]) ps vs hlen
  (fun k p q hk hk'=>⟨(hp k p q hk hk').1,(hp k p q hk hk').2.map hc (fun o ho hin=>hdis p (List.mem_of_getElem? hk) o ho hin)⟩)
  (zeroAVs t 1 ti.ls) (ti.ls.map zeroV) ⟨by simp[Z00],fun i v x hv hx=>VR.zero n2 i v x hv hx⟩ (by simp) cs hb
 obtain⟨i,hi,_,_,hz⟩:=hT.info
 have hz':i.zero=some (.agg (ti.ls.map zeroV).toArray):=by rw[hz,ha];rfl
 refine⟨.agg us'.toArray,w,run_build w ty vs.toArray us'.toArray ?_,?_⟩
 ·simp only[Program.built,hi,hu,hz',hpl]
  exact f1
 ·rw[Z8]
  exact⟨_,n1.putO hd (.agg _ _ (by simp[f2.1]) (fun k v x hv hx=>(f2.2 k v x hv (by simpa using hx)).1) (fun k x hx=>by
   have hk:k<us'.length:=by have:=(Array.getElem?_eq_some_iff.mp hx).1;simpa using this
   exact(f2.2 k _ x (List.getElem?_eq_getElem (by rw[f2.1];exact hk)) (by simpa using hx)).2))⟩
theorem Z0u {n:Nat} {ti:TI} {ob:List (Id×Obj)}:
  ∀(ps:List (Nat×AV)) (vs:List (Nat×Value)),ps.length=vs.length→(∀(k:Nat) (p:Nat×AV) (q:Nat×Value),ps[k]?=some p→vs[k]?=some q→p.1=q.1∧VR E w S0 G ob p.2 q.2)→
  ∀(cs:List AV) (us:List Value),CellsR E w S0 G ob cs us→us.length=ti.ls.length→∀cs',opBuildA n ti ps cs=some cs'→
   ∃us',Instr.fill (fun i=>some (i*n,n)) us.toArray vs=some us'.toArray∧CellsR E w S0 G ob cs' us'
 |[],[],_,_,cs,us,hc,hl,cs',hb=>by
  simp only[opBuildA,Option.some.injEq]at hb
  subst hb
  exact⟨us,rfl,hc⟩
 |[],_::_,h,_,_,_,_,_,_,_=>by simp at h
 |_::_,[],h,_,_,_,_,_,_,_=>by simp at h
 |(i,x)::ps,(i',v)::vs,hlen,hp,cs,us,hc,hl,cs',hb=>by
  obtain⟨e,hv⟩:=hp 0 _ _ rfl rfl
  simp only at e hv
  subst e
  simp only[opBuildA]at hb
  obtain⟨hg,hb2⟩:=Z0 hb
  simp only[Bool.and_eq_true]at hg
  obtain⟨hg1,hg3,hg2⟩:=hg
  have hg1:=Z3 hg1
  have hg3:=Nat.le_of_ble_eq_true hg3
  have hfr:=hv.flatR hg2
  have hsz:v.cells.size=n:=by have:=hfr.1;simp at this;omega
  rw[Z10 (fun i=>some (i*n,n)) us.toArray i v vs (off:=i*n) (by rw[hsz]) (by simp;omega)]
  exact Z0u ps vs (by simpa using hlen) (fun k p q hk hk'=>hp (k+1) p q (by simpa using hk) (by simpa using hk')) _ _ (hc.setRange hfr (i*n)) (by simp[ZB,hl]) cs' hb2
theorem Z3W (hE:EnvOk P E) (h:RelG E base M S0 R0 w0 nt G st a w) {dst:Option Nat} (hd:inB nt dst=true) {ty e:TypeId} {ti te:TI} (hty:E.A ty=some (e,ti)) (hte:E.T e=some te) {t:Nat} (hti:t<1000000)
  {ps:List (Nat×AV)} {vs:List (Nat×Value)} (hlen:ps.length=vs.length) (hp:∀(k:Nat) (p:Nat×AV) (q:Nat×Value),ps[k]?=some p→vs[k]?=some q→p.1=q.1∧VR E w S0 G st.ob p.2 q.2)
  (hdis:∀p∈ps,∀k∈idsA p.2,k∉keys (zeroObjs t 1 ti.ls)) {cs:List AV} (hb:opBuildA te.ls.length ti ps (zeroAVs t 1 ti.ls)=some cs):
  Stepped E base M S0 R0 w0 nt st a dst {v:=.agg cs,nw:=zeroObjs t 1 ti.ls} ((Instr.build ty vs.toArray).run P w):=by
 obtain⟨hT,hu,ha⟩:=hE.A ty e ti hty
 obtain⟨h1,h2,h3⟩:=h.after_dels [] (zeroObjs t 1 ti.ls) (Z2E hti 1 ti.ls)
 obtain⟨G',n1,n2,n3,n4,n5⟩:=h1.addNils t ti.ls 1 hT.elem h2
 have hc:Comp (fun o=>o∈keys (zeroObjs t 1 ti.ls)) E w S0 G st.ob w G' (upAll (zeroObjs t 1 ti.ls) (clearAll (zeroObjs t 1 ti.ls) st).ob):=by
  have key:=Comp.less (E:=E) (w:=w) (S0:=S0) (G:=G) (ob:=st.ob) (ob':=(clearAll (zeroObjs t 1 ti.ls) st).ob) (fun o x hx=>by
   obtain⟨_,_,y,q1,q2⟩:=h3 o x hx
   exact⟨y,q1,q2⟩)
  have hget:∀o x,o∉keys (zeroObjs t 1 ti.ls)→getO (upAll (zeroObjs t 1 ti.ls) (clearAll (zeroObjs t 1 ti.ls) st).ob) o=some x→getO (clearAll (zeroObjs t 1 ti.ls) st).ob o=some x:=fun o x ho hx=>by
   rw[ZT]at hx
   cases hf:findN (zeroObjs t 1 ti.ls) o with
   |some y=>exact absurd (ZS.mp ⟨y,hf⟩) ho
   |none=>rw[hf]at hx;exact hx
  refine⟨key.old,fun b hb=>⟨rfl,by rw[n4];exact hb⟩,fun o t' c' ho hg=>?_,fun o e r d v hh ho hg=>?_,fun o kl el es ho hg=>⟨(n3 o ho).1,(key.mp o kl el es (fun h=>h) (hget o _ ho hg)).2⟩⟩
  ·obtain⟨q1,q2⟩:=key.box o t' c' (fun h=>h) (hget o _ ho hg)
   exact⟨(n3 o ho).1,q2⟩
  ·obtain⟨q1,q2⟩:=key.row o e r d v hh (fun h=>h) (hget o _ ho hg)
   exact⟨(n3 o ho).1,q2⟩
 obtain⟨us',f1,f2⟩:=Z0u (E:=E) (w:=w) (S0:=S0) (G:=G') (ob:=upAll (zeroObjs t 1 ti.ls) (clearAll (zeroObjs t 1 ti.ls) st).ob) (n:=te.ls.length) (ti:=ti) ps vs hlen
  (fun k p q hk hk'=>⟨(hp k p q hk hk').1,(hp k p q hk hk').2.map hc (fun o ho hin=>hdis p (List.mem_of_getElem? hk) o ho hin)⟩)
  (zeroAVs t 1 ti.ls) (ti.ls.map zeroV) ⟨by simp[Z00],fun i v x hv hx=>VR.zero n2 i v x hv hx⟩ (by simp) cs hb
 obtain⟨i,hi,_,_,hz⟩:=hT.info
 have hz':i.zero=some (.agg (ti.ls.map zeroV).toArray):=by rw[hz,ha];rfl
 refine⟨.agg us'.toArray,w,run_build w ty vs.toArray us'.toArray ?_,?_⟩
 ·obtain⟨ie,hie,hies,_⟩:=(hE.T e te hte).info
  simp only[Program.built,hi,hu,hz',hie,hies]
  exact f1
 ·rw[Z8]
  exact⟨_,n1.putO hd (.agg _ _ (by simp[f2.1]) (fun k v x hv hx=>(f2.2 k v x hv (by simpa using hx)).1) (fun k x hx=>by
   have hk:k<us'.length:=by have:=(Array.getElem?_eq_some_iff.mp hx).1;simpa using this
   exact(f2.2 k _ x (List.getElem?_eq_getElem (by rw[f2.1];exact hk)) (by simpa using hx)).2))⟩
end
end Go.Proofs.YtnihikajdbcoaaaGreat.Vai
namespace Go.Proofs.YtnihikajdbcoaaaGreat.Vai
open Go
theorem ZX {bs:Nat→Nat→List Nat} {n sz:Nat} (h1:∀j i,(bs j i).Nodup) (h2:∀j i j' i',¬(j=j'∧i=i')→∀b∈bs j i,b∉bs j' i'):(flatB bs n sz).Nodup:=by
 have key:∀(l:List Nat) (f:Nat→List Nat),l.Nodup→(∀x,(f x).Nodup)→(∀x y,x≠y→∀b∈f x,b∉f y)→(l.flatMap f).Nodup:=by
  intro l f hl hf hd
  induction l with
  |nil=>simp
  |cons x l ih=>
   obtain⟨n1,n2⟩:=List.nodup_cons.mp hl
   simp only[List.flatMap_cons]
   refine List.nodup_append.mpr ⟨hf x,ih n2,fun b hb b' hb' e=>?_⟩
   subst e
   obtain⟨y,hy,hb'⟩:=List.mem_flatMap.mp hb'
   exact hd x y (fun e=>n1 (e▸hy)) b hb hb'
 refine key _ _ List.nodup_range (fun j=>key _ _ List.nodup_range (h1 j) (fun i i' hi=>h2 j i j i' (fun h=>hi h.2))) (fun j j' hj b hb hb'=>?_)
 obtain⟨i,_,hb⟩:=List.mem_flatMap.mp hb
 obtain⟨i',_,hb'⟩:=List.mem_flatMap.mp hb'
 exact h2 j i j' i' (fun h=>hj h.1) b hb hb'
structure TabR (E:Env) (w:World) (S:Nat→Prop) (D:Nat→Prop) (deep:Bool) (te:TI) (rows:List (List Dat)) (u:Nat→Nat→Value) (bs:Nat→Nat→List Nat):Prop where
 len:∀(j:Nat) (r:List Dat),rows[j]?=some r→r.length=te.ls.length
 rd:∀(j i:Nat) (r:List Dat) (l:Leaf),rows[j]?=some r→te.ls[i]?=some l→RD E w S l (r.getD i default) (u j i)
 ot:deep=true→∀(j i:Nat) (r:List Dat) (l:Leaf),rows[j]?=some r→te.ls[i]?=some l→OT E w l (r.getD i default) (u j i) (bs j i)
 sub:∀j i,∀b∈bs j i,D b
 nodup:∀j i,(bs j i).Nodup
 disj:∀j i j' i',¬(j=j'∧i=i')→∀b∈bs j i,b∉bs j' i'
section
variable {P:Program} {E:Env} {base:Nat} {M:List Nat} {S0:Nat→Prop} {R0:Id→Value} {w0:World} {nt:Nat} {G:Gh} {st:St} {a:Act} {w:World} {look:Look}
theorem TabR.one {S D:Nat→Prop} {deep:Bool} {te:TI} {rows:List (List Dat)} {u:Nat→Nat→Value} {bs:Nat→Nat→List Nat} (h:TabR E w S D deep te rows u bs):
  ∀j i:Nat,j<rows.length→i<te.ls.length→oneV (u j i):=fun j i hj hi=>
 (h.rd j i _ _ (List.getElem?_eq_getElem hj) (List.getElem?_eq_getElem hi)).one
theorem TabR.rowR {S D:Nat→Prop} {deep:Bool} {e:TypeId} {te:TI} (hte:E.T e=some te) {rows:List (List Dat)} {u:Nat→Nat→Value} {bs:Nat→Nat→List Nat} (h:TabR E w S D deep te rows u bs)
  {w':World} (hw:deep=true→∀b,D b→w'.heap[b]?=w.heap[b]?) (hS:deep=false→∀b,S b→w'.heap[b]?=w.heap[b]?) {g off c:Nat} {arr:Array Value} (hb:w'.heap[g]?=some (.cells arr e (0,0))) (hc:rows.length≤c) (hs:off+c*te.ls.length≤arr.size)
  (hm:∀j i:Nat,j<rows.length→i<te.ls.length→arr[off+(j*te.ls.length+i)]?=some (u j i)):
  RowR E w' S e rows deep [] (.slice (some ⟨g,off,none⟩) rows.length c) [g] (if deep then flatB bs rows.length te.ls.length else[]):=by
 refine⟨te,hte,h.len,.inr ⟨g,off,c,arr,u,bs,rfl,rfl,hb,hc,hs,fun j i hj hi=>⟨hm j i hj hi,h.one j i hj hi⟩,fun j i r l hj hl _=>?_,fun hd=>by simp[hd],fun hd=>by simp[hd],fun j i hh=>?_⟩⟩
 ·cases deep with
  |true=>simp only[if_true];exact(h.ot rfl j i r l hj hl).frame (fun b hb=>hw rfl b (h.sub j i b hb))
  |false=>simp only[Bool.false_eq_true,if_false];exact(h.rd j i r l hj hl).frame (hS rfl) (fun _ hb=>hb)
 ·obtain⟨r,hr,_⟩:=hh;cases hr
def Drawn (w w1:World):Prop:=w1.heap=w.heap∧w1.os=w.os∧w1.tape=w.tape∧w1.output=w.output
theorem RelG.newTab (h:RelG E base M S0 R0 w0 nt G st a w) {dst:Option Nat} (hd:inB nt dst=true) {t:Nat} (hti:t<1000000) (dl:List Id) (hdl:∀o∈dl,∃x,getO st.ob o=some x) {e:TypeId} {te:TI} (hte:E.T e=some te) {rows:List (List Dat)} {deep:Bool}
  {u:Nat→Nat→Value} {bs:Nat→Nat→List Nat} (hT:TabR E w (fun b=>S0 b∨b∈G.F∨∃o∈dl,b∈G.top o) (fun b=>∃o∈dl,b∈G.top o∨b∈G.ins o) deep te rows u bs) {w1:World} (hw1:Drawn w w1)
  {c:Nat} {arr:Array Value} (hc:rows.length≤c) (hs:c*te.ls.length≤arr.size) (hm:∀j i:Nat,j<rows.length→i<te.ls.length→arr[j*te.ls.length+i]?=some (u j i)):
  Rel E base M S0 R0 w0 nt (applyD st dst {v:=.own (t,0),nw:=[((t,0),.row e rows deep 0 [])],dl:=dl}) (a.put dst (.slice (some ⟨w.heap.size,0,none⟩) rows.length c)) (w1.alloc (.cells arr e)):=by
 obtain⟨d1,d2,d3,d4⟩:=hw1
 have hold:∀b,b<w.heap.size→(w1.alloc (.cells arr e)).heap[b]?=w.heap[b]?:=fun b hb=>(heap_alloc_old w1 _ (by rw[d1];exact hb)).trans (by rw[d1])
 have hnew:(w1.alloc (.cells arr e)).heap[w.heap.size]?=some (.cells arr e (0,0)):=by have:=heap_alloc_new w1 (.cells arr e);rw[d1]at this;exact this
 have hk:Kept base M w0 (w1.alloc (.cells arr e)):=⟨Nat.le_trans h.kept.size (by simp[d1]),fun b hb hm=>(hold b (Nat.lt_of_lt_of_le hb h.kept.size)).trans (h.kept.heap b hb hm),d2.trans h.kept.os,d3.trans h.kept.tape,d4.trans h.kept.output⟩
 have hDlt:∀b,(∃o∈dl,b∈G.top o∨b∈G.ins o)→b<w.heap.size:=fun b ⟨o,ho,hb⟩=>by
  obtain⟨x,hx⟩:=hdl o ho
  rcases hb with hb|hb
  ·exact h.top_lt hx b hb
  ·exact(h.F b ((h.ins o x hx).1 b hb)).2.2
 have hSlt:∀b,(S0 b∨b∈G.F∨∃o∈dl,b∈G.top o)→b<w.heap.size:=fun b hb=>by
  rcases hb with hb|hb|⟨o,ho,hb⟩
  ·exact h.live_lt (.inl hb)
  ·exact h.live_lt (.inr (.inl hb))
  ·exact hDlt b ⟨o,ho,.inl hb⟩
 have hrow:=hT.rowR hte (w':=w1.alloc (.cells arr e)) (fun _ b hb=>hold b (hDlt b hb)) (fun _ b hb=>hold b (hSlt b hb)) (off:=0) hnew hc (by simpa using hs) (by simpa using hm)
 refine h.newRow hd hti dl [w.heap.size] (if deep then flatB bs rows.length te.ls.length else[]) (dl.flatMap G.top) _ e rows deep hk (by simp[d1])
  (fun b hb=>hold b (h.live_lt (hb.imp id (fun hb=>hb.imp id fun⟨o,x,hx,_,hb⟩=>⟨o,x,hx,hb⟩)))) (fun b hb=>?_) (fun b hb=>?_) (fun b hb=>?_) ?_ ?_
 ·obtain⟨o,ho,hb⟩:=List.mem_flatMap.mp hb
  obtain⟨x,hx⟩:=hdl o ho
  exact⟨o,ho,x,hx,hb⟩
 ·simp at hb;subst hb
  refine⟨fun hb=>?_,.inl (Nat.le_refl _)⟩
  obtain⟨o,ho,hb⟩:=List.mem_flatMap.mp hb
  exact Nat.lt_irrefl _ (hDlt _ ⟨o,ho,.inl hb⟩)
 ·cases deep with
  |false=>simp at hb
  |true=>
   simp only[if_true]at hb
   obtain⟨j,i,_,_,hb⟩:=Z2.mp hb
   obtain⟨o,ho,hb⟩:=hT.sub j i b hb
   rcases hb with hb|hb
   ·exact .inl (List.mem_flatMap.mpr ⟨o,ho,hb⟩)
   ·obtain⟨x,hx⟩:=hdl o ho
    exact .inr ⟨o,ho,x,hx,hb⟩
 ·cases deep with
  |false=>simp
  |true=>simp only[if_true];exact ZX hT.nodup hT.disj
 ·refine hrow.frame (fun _ _=>rfl) (fun _ _=>rfl) (fun _ _ _=>rfl) (fun b hb=>?_)
  rcases hb with hb|hb|⟨o,ho,hb⟩
  ·exact .inl hb
  ·exact .inr (List.mem_append.mpr (.inl hb))
  ·exact .inr (List.mem_append.mpr (.inr (List.mem_flatMap.mpr ⟨o,ho,hb⟩)))
theorem TOk.info' {t:TypeId} {ti:TI} (h:TOk P E t ti):∃i z,P.info? t=some i∧i.size=ti.ls.length∧i.bytes=ti.by_∧i.zero=some z∧z.cells=(ti.ls.map zeroV).toArray:=by
 obtain⟨i,hi,hs,hb,hz⟩:=h.info
 refine⟨i,_,hi,hs,hb,hz,?_⟩
 cases ha:ti.agg with
 |true=>simp[Value.cells]
 |false=>
  obtain⟨l,hl,_⟩:=h.single ha
  simp[hl,ZO (Z0R l)]
theorem Z2u {te:TI} (hel:∀e,Leaf.sl e∈te.ls→∃te',E.T e=some te') (S D:Nat→Prop) (n:Nat):TabR E w S D true te (List.replicate n (te.ls.map zeroDat)) (fun _ i=>zeroV (te.ls.getD i .bool)) (fun _ _=>[]):=by
 have ot:∀(j i:Nat) (r:List Dat) (l:Leaf),(List.replicate n (te.ls.map zeroDat))[j]?=some r→te.ls[i]?=some l→OT E w l (r.getD i default) (zeroV (te.ls.getD i .bool)) []:=fun j i r l hj hl=>by
  rw[List.getElem?_replicate]at hj
  split at hj
  ·cases hj
   have e1:(te.ls.map zeroDat).getD i default=zeroDat l:=by simp[List.getD,hl]
   have e2:te.ls.getD i .bool=l:=by simp[List.getD,hl]
   rw[e1,e2]
   exact Z58 (fun e he=>hel e (by subst he;exact List.mem_of_getElem? hl))
  ·cases hj
 refine⟨fun j r hj=>?_,fun j i r l hj hl=>(ot j i r l hj hl).rd (fun _ hb=>by cases hb),fun _=>ot,(fun _ _ _ hb=>by cases hb),(fun _ _=>by simp),(fun _ _ _ _ _ _ hb=>by cases hb)⟩
 rw[List.getElem?_replicate]at hj
 split at hj
 ·cases hj;simp
 ·cases hj
theorem Zh {j i n sz:Nat} (hj:j<n) (hi:i<sz):j*sz+i<n*sz∧(j*sz+i)%sz=i:=by
 constructor
 ·have h1:(j+1)*sz≤n*sz:=Nat.mul_le_mul_right _ hj
  rw[Nat.add_mul]at h1
  omega
 ·rw[Nat.mul_comm,Nat.mul_add_mod,Nat.mod_eq_of_lt hi]
theorem Z4D (hE:EnvOk P E) (h:RelG E base M S0 R0 w0 nt G st a w) {dst:Option Nat} (hd:inB nt dst=true) {ty e:TypeId} {te:TI} (hu:P.underlying ty=some (.slice e)) (hte:E.T e=some te) {t:Nat} (hti:t<1000000) {n:Int}
  (h0:0≤n) (hb:n.toNat*te.by_≤maxBytes):
  Stepped E base M S0 R0 w0 nt st a dst {v:=.own (t,0),nw:=[((t,0),.row e (List.replicate n.toNat (te.ls.map zeroDat)) true 0 [])]} ((Instr.makeSlice ty (.int .i64 n) (.int .i64 n)).run P w):=by
 have hT:=hE.T e te hte
 obtain⟨i,z,hi,hsz,hby,hz1,hz2⟩:=hT.info'
 have hbp:=hT.pos.2
 have hb':n.toNat≤70368744177664:=Nat.le_trans (Nat.le_mul_of_pos_right _ hbp) hb
 have hbytes:(i.bytes:Int)*n≤281474976710656:=by
  rw[hby]
  have e1:(te.by_:Int)*n=((n.toNat*te.by_:Nat):Int):=by
   rw[Int.natCast_mul,Int.toNat_of_nonneg h0,Int.mul_comm]
  rw[e1]
  have:n.toNat*te.by_≤70368744177664:=hb
  omega
 have hrun:=run_make (P:=P) w ty e i z hu hi hz1 .i64 .i64 n n h0 (Int.le_refl _) hbytes (by omega)
 have key:=h.newTab hd hti [] (fun o ho=>by cases ho) hte (Z2u hT.elem _ _ n.toNat) (w1:=w) ⟨rfl,rfl,rfl,rfl⟩ (c:=n.toNat) (arr:=madeCells z.cells (n.toNat*te.ls.length)) (by simp) (by simp[size_madeCells]) (fun j k hj hk=>by
  simp only[List.length_replicate]at hj
  obtain⟨m1,m2⟩:=Zh hj hk
  have hne:te.ls.length=(te.ls.map zeroV).length:=by simp
  have:(madeCells z.cells (n.toNat*te.ls.length))[j*te.ls.length+k]?=some (z.cells[(j*te.ls.length+k)%z.cells.size]!):=by
   simp[madeCells,m1]
  rw[this,hz2]
  simp[m2,hk])
 simp only[List.length_replicate]at key
 rw[hsz]at hrun
 exact⟨_,_,hrun,key⟩
theorem Z1Z {ls:List Leaf} (hls:0<ls.length) {x:AV} {g:Givens} (hg:gives look ls (flat x)=some g):solid x=true:=by
 match ls,hls with
 |l::ls,_=>
  cases x<;>first|rfl|skip
  ·simp only[flat,gives]at hg
   cases l<;>simp[give]at hg
  ·simp only[flat,gives]at hg
   cases l<;>simp[give]at hg
theorem Z0J {ls:List Leaf}:∀(ps:List (Nat×AV)) (b b':Built),opBuildS look ls ps b=some b'→∃more,b'.ids=b.ids++more
 |[],b,b',h=>by simp only[opBuildS,Option.some.injEq]at h;subst h;exact⟨[],by simp⟩
 |(i,v)::ps,b,b',h=>by
  simp only[opBuildS]at h
  split at h
  ·cases h
  ·rename_i g hg
   obtain⟨_,h2⟩:=Z0 h
   obtain⟨more,hm⟩:=Z0J ps _ _ h2
   exact⟨g.ids++more,by rw[hm];simp⟩
theorem Z2F {i j k sz:Nat} (hk:k<sz):i*sz≤j*sz+k∧j*sz+k<i*sz+sz↔j=i:=by
 constructor
 ·rintro ⟨h1,h2⟩
  have a1:i<j+1:=by
   refine Nat.lt_of_mul_lt_mul_right (a:=sz) ?_
   rw[Nat.add_mul];omega
  have a2:j<i+1:=by
   refine Nat.lt_of_mul_lt_mul_right (a:=sz) ?_
   rw[Nat.add_mul];omega
  omega
 ·rintro rfl;omega
abbrev SOf (S0:Nat→Prop) (G:Gh) (dl:List Id):Nat→Prop:=fun b=>S0 b∨b∈G.F∨∃o∈dl,b∈G.top o
abbrev DOf (G:Gh) (dl:List Id):Nat→Prop:=fun b=>∃o∈dl,b∈G.top o∨b∈G.ins o
theorem Z0v (hE:EnvOk P E) (h:RelG E base M S0 R0 w0 nt G st a w) (hlook:∀i x,look i=some x→getO st.ob i=some x) {e:TypeId} {te:TI} (hte:E.T e=some te) (len:Nat):
  ∀(ps:List (Nat×AV)) (vs:List (Nat×Value)),ps.length=vs.length→(∀(k:Nat) (p:Nat×AV) (q:Nat×Value),ps[k]?=some p→vs[k]?=some q→p.1=q.1∧VR E w S0 G st.ob p.2 q.2)→
  ∀(b:Built) (cells:List Value) (bs:Nat→Nat→List Nat),b.rows.length=len→cells.length=len*te.ls.length→(∀o∈b.ids,∃x,getO st.ob o=some x)→
   TabR E w (SOf S0 G b.ids) (DOf G b.ids) b.deep te b.rows (fun j i=>cells.getD (j*te.ls.length+i) undef) bs→∀b',opBuildS look te.ls ps b=some b'→b'.ids.Nodup→
   ∃(cells':List Value) (bs':Nat→Nat→List Nat),Instr.fill (fun i=>some (i*te.ls.length,te.ls.length)) cells.toArray vs=some cells'.toArray∧b'.rows.length=len∧cells'.length=len*te.ls.length∧(∀o∈b'.ids,∃x,getO st.ob o=some x)∧
    TabR E w (SOf S0 G b'.ids) (DOf G b'.ids) b'.deep te b'.rows (fun j i=>cells'.getD (j*te.ls.length+i) undef) bs'
 |[],[],_,_,b,cells,bs,hr,hc,hlive,hT,b',hb,_=>by
  simp only[opBuildS,Option.some.injEq]at hb
  subst hb
  exact⟨cells,bs,rfl,hr,hc,hlive,hT⟩
 |[],_::_,h,_,_,_,_,_,_,_,_,_,_,_=>by simp at h
 |_::_,[],h,_,_,_,_,_,_,_,_,_,_,_=>by simp at h
 |(i,x)::ps,(i',v)::vs,hlen,hp,b,cells,bs,hr,hc,hlive,hT,b',hb,hnd=>by
  obtain⟨e1,hv⟩:=hp 0 _ _ rfl rfl
  simp only at e1 hv
  subst e1
  have hTy:=hE.T e te hte
  have hids:=Z0J _ _ _ hb
  simp only[opBuildS]at hb
  split at hb
  ·cases hb
  ·rename_i g hg
   obtain⟨hi,hb2⟩:=Z0 hb
   have hi:i<b.rows.length:=Nat.le_of_ble_eq_true hi
   obtain⟨more,hmore⟩:=Z0J _ _ _ hb2
   rw[hmore]at hnd
   obtain⟨n1,_,_⟩:=List.nodup_append.mp hnd
   obtain⟨m1,m2,m3⟩:=List.nodup_append.mp n1
   have hsol:=Z1Z hTy.pos.1 hg
   have hfr:=hv.flatR hsol
   obtain⟨⟨bg,q⟩,qlive,qlen⟩:=Z0I h hlook hTy.elem (us:=fun k=>v.cells.toList.getD k undef) (fun k y hy=>by
    have hk:k<v.cells.toList.length:=by have:=(List.getElem?_eq_some_iff.mp hy).1;rw[hfr.1]at this;exact this
    have hx:v.cells.toList[k]?=some (v.cells.toList.getD k undef):=by simp[List.getElem?_eq_getElem hk,List.getD]
    exact(hfr.2 k y _ hy hx).1) hg m2
   have hsz:v.cells.size=te.ls.length:=by have:=hfr.1;simp at this;omega
   have hfit:i*te.ls.length+te.ls.length≤len*te.ls.length:=by
    have:(i+1)*te.ls.length≤len*te.ls.length:=Nat.mul_le_mul_right _ (by omega)
    rw[Nat.add_mul]at this;omega
   rw[Z10 _ _ _ _ _ (by rw[hsz]) (by simp;omega)]
   simp only
   have hget:∀j k,k<te.ls.length→j<len→(setRange cells (i*te.ls.length) v.cells.toList).getD (j*te.ls.length+k) undef=if j=i then v.cells.toList.getD k undef else cells.getD (j*te.ls.length+k) undef:=fun j k hk hj=>by
    simp only[List.getD,ZJ,Array.length_toList,hsz]
    by_cases hji:j=i
    ·have:=(Z2F (i:=i) hk).mpr hji
     rw[if_pos this,if_pos (by rw[hc];exact(Zh hj hk).1),if_pos hji]
     subst hji
     congr 2
     omega
    ·have:¬(i*te.ls.length≤j*te.ls.length+k∧j*te.ls.length+k<i*te.ls.length+te.ls.length):=fun hh=>hji ((Z2F hk).mp hh)
     rw[if_neg this,if_neg hji]
   have hjl:∀j r,(b.rows.set i g.ds)[j]?=some r→j<len:=fun j r hj=>by have:=(List.getElem?_eq_some_iff.mp hj).1;simp at this;omega
   have hset:∀j r,(b.rows.set i g.ds)[j]?=some r→(j=i∧r=g.ds)∨(j≠i∧b.rows[j]?=some r):=fun j r hj=>by
    rw[List.getElem?_set]at hj
    by_cases hji:i=j
    ·subst hji;simp[hi]at hj;exact .inl ⟨rfl,hj.symm⟩
    ·rw[if_neg hji]at hj;exact .inr ⟨fun e=>hji e.symm,hj⟩
   have hmonoS1:∀b0,SOf S0 G b.ids b0→SOf S0 G (b.ids++g.ids) b0:=fun b0 hb0=>hb0.imp id fun hb=>hb.imp id fun⟨o,ho,hb⟩=>⟨o,List.mem_append.mpr (.inl ho),hb⟩
   have hmonoS2:∀b0,SOf S0 G g.ids b0→SOf S0 G (b.ids++g.ids) b0:=fun b0 hb0=>hb0.imp id fun hb=>hb.imp id fun⟨o,ho,hb⟩=>⟨o,List.mem_append.mpr (.inr ho),hb⟩
   have cross:∀b0,DOf G b.ids b0→DOf G g.ids b0→False:=fun b0 ⟨o,ho,hb⟩ ⟨o',ho',hb'⟩=>by
    obtain⟨y,hy⟩:=hlive o ho
    obtain⟨y',hy'⟩:=qlive o' ho'
    exact h.apart hy hy' (m3 o ho o' ho') hb hb'
   refine Z0v hE h hlook hte len ps vs (by simpa using hlen) (fun k p q hk hk'=>hp (k+1) p q (by simpa using hk) (by simpa using hk')) _ _ (fun j k=>if j=i then bg k else bs j k) (by simp[hr]) (by simp[ZB,hc]) (fun o ho=>?_) ?_ b' hb2 (by rw[hmore];exact hnd)
   ·rcases List.mem_append.mp ho with ho|ho
    ·exact hlive o ho
    ·exact qlive o ho
   ·refine⟨fun j r hj=>?_,fun j k r l hj hl=>?_,fun hdp j k r l hj hl=>?_,fun j k b0 hb0=>?_,fun j k=>?_,fun j k j' k' hne b0 hb0 hb0'=>?_⟩
    ·rcases hset j r hj with ⟨rfl,rfl⟩|⟨_,hj⟩
     ·exact q.len
     ·exact hT.len j r hj
    ·have hk:k<te.ls.length:=(List.getElem?_eq_some_iff.mp hl).1
     rw[hget j k hk (hjl j r hj)]
     rcases hset j r hj with ⟨rfl,rfl⟩|⟨hji,hj⟩
     ·rw[if_pos rfl];exact(q.rd k l hl).mono hmonoS2
     ·rw[if_neg hji];exact(hT.rd j k r l hj hl).mono hmonoS1
    ·simp only[Bool.and_eq_true]at hdp
     have hk:k<te.ls.length:=(List.getElem?_eq_some_iff.mp hl).1
     rw[hget j k hk (hjl j r hj)]
     rcases hset j r hj with ⟨rfl,rfl⟩|⟨hji,hj⟩
     ·rw[if_pos rfl,if_pos rfl];exact q.ot hdp.2 k l hl
     ·rw[if_neg hji,if_neg hji];exact hT.ot hdp.1 j k r l hj hl
    ·split at hb0
     ·obtain⟨o,ho,hb⟩:=q.sub k b0 hb0;exact⟨o,List.mem_append.mpr (.inr ho),hb⟩
     ·obtain⟨o,ho,hb⟩:=hT.sub j k b0 hb0;exact⟨o,List.mem_append.mpr (.inl ho),hb⟩
    ·split
     ·exact q.nodup k
     ·exact hT.nodup j k
    ·split at hb0<;>split at hb0'
     ·rename_i e1 e2
      exact q.disj k k' (fun e=>hne ⟨e1.trans e2.symm,e⟩) b0 hb0 hb0'
     ·exact cross b0 (hT.sub j' k' b0 hb0') (q.sub k b0 hb0)
     ·exact cross b0 (hT.sub j k b0 hb0) (q.sub k' b0 hb0')
     ·exact hT.disj j k j' k' hne b0 hb0 hb0'
theorem Z1u (hE:EnvOk P E) (h:RelG E base M S0 R0 w0 nt G st a w) (hlook:∀i x,look i=some x→getO st.ob i=some x) {dst:Option Nat} (hd:inB nt dst=true) {ty e:TypeId} {te:TI} (hu:P.underlying ty=some (.slice e)) (hte:E.T e=some te) {t:Nat} (hti:t<1000000) (len:Nat)
  {ps:List (Nat×AV)} {vs:List (Nat×Value)} (hlen:ps.length=vs.length) (hp:∀(k:Nat) (p:Nat×AV) (q:Nat×Value),ps[k]?=some p→vs[k]?=some q→p.1=q.1∧VR E w S0 G st.ob p.2 q.2)
  {b:Built} (hb:opBuildS look te.ls ps ⟨List.replicate len (te.ls.map zeroDat),[],true⟩=some b) (hnd:b.ids.Nodup) (hsm:len*te.ls.length≤16777216):
  Stepped E base M S0 R0 w0 nt st a dst {v:=.own (t,0),nw:=[((t,0),.row e b.rows b.deep 0 [])],dl:=b.ids} ((Instr.buildSlice ty len vs.toArray).run P w):=by
 have hT:=hE.T e te hte
 obtain⟨i,z,hi,hsz,hby,hz1,hz2⟩:=hT.info'
 have hz0:=Z2u (w:=w) (te:=te) hT.elem (SOf S0 G []) (DOf G []) len
 have hcl:∀j k,j<len→k<te.ls.length→((List.range (len*te.ls.length)).map fun x=>zeroV (te.ls.getD (x%te.ls.length) .bool)).getD (j*te.ls.length+k) undef=zeroV (te.ls.getD k .bool):=fun j k hj hk=>by
  obtain⟨m1,m2⟩:=Zh hj hk
  simp[List.getD,m1,m2]
 obtain⟨cells',bs',f1,f2,f3,f4,f5⟩:=Z0v hE h hlook hte len ps vs hlen hp ⟨List.replicate len (te.ls.map zeroDat),[],true⟩ ((List.range (len*te.ls.length)).map fun x=>zeroV (te.ls.getD (x%te.ls.length) .bool)) (fun _ _=>[])
  (by simp) (by simp) (fun o ho=>by cases ho) ⟨hz0.len,fun j k r l hj hl=>by
   have hj':j<len:=by have:=(List.getElem?_eq_some_iff.mp hj).1;simpa using this
   have hk:k<te.ls.length:=(List.getElem?_eq_some_iff.mp hl).1
   simp only[hcl j k hj' hk]
   exact hz0.rd j k r l hj hl,fun hdp j k r l hj hl=>by
   have hj':j<len:=by have:=(List.getElem?_eq_some_iff.mp hj).1;simpa using this
   have hk:k<te.ls.length:=(List.getElem?_eq_some_iff.mp hl).1
   simp only[hcl j k hj' hk]
   exact hz0.ot rfl j k r l hj hl,hz0.sub,hz0.nodup,hz0.disj⟩ b hb hnd
 have key:=h.newTab hd hti b.ids f4 hte f5 (w1:=w) ⟨rfl,rfl,rfl,rfl⟩ (c:=b.rows.length) (arr:=cells'.toArray) (Nat.le_refl _) (by simp[f3,f2]) (fun j k hj hk=>by
  have:j*te.ls.length+k<cells'.length:=by rw[f3];exact(Zh (by omega) hk).1
  simp[List.getD,this])
 rw[f2]at key
 refine⟨_,_,?_,key⟩
 by_cases hl0:len*te.ls.length=0
 ·have hps:ps=[]:=by
   cases ps with
   |nil=>rfl
   |cons p ps=>
    obtain⟨i,x⟩:=p
    simp only[opBuildS]at hb
    split at hb
    ·cases hb
    ·obtain⟨hi,_⟩:=Z0 hb
     have hi:i<len:=by have:=Nat.le_of_ble_eq_true hi;simp at this;omega
     have:0<len*te.ls.length:=Nat.mul_pos (by omega) hT.pos.1
     omega
  subst hps
  have hvs:vs=[]:=by cases vs with|nil=>rfl|cons _ _=>simp at hlen
  subst hvs
  have hc0:cells'=[]:=List.length_eq_zero_iff.mp (f3.trans hl0)
  subst hc0
  simp[Instr.buildSlice,run_underlying hu,sizeOf,typeInfo,hi,hsz,hl0,newRow,Instr.fill,Array.range_zero']
 ·have hz:((Array.range (len*i.size)).map (z.cells[· %z.cells.size]!))=((List.range (len*te.ls.length)).map fun x=>zeroV (te.ls.getD (x%te.ls.length) .bool)).toArray:=by
   rw[hsz,hz2]
   apply Array.ext'
   simp only[Array.toList_map,Array.toList_range]
   refine List.map_congr_left fun x hx=>?_
   have hx:x%te.ls.length<te.ls.length:=Nat.mod_lt _ hT.pos.1
   simp[hx]
  refine run_buildSlice w ty e len vs.toArray cells'.toArray i z hu hi hz1 (by rw[hsz];omega) (by rw[hsz];exact hl0) ?_
  rw[hz,hsz]
  simpa using f1
end
end Go.Proofs.YtnihikajdbcoaaaGreat.Vai
namespace Go.Proofs.YtnihikajdbcoaaaGreat.Vai
open Go
theorem Zp (cs:List AV) (i:Nat):(numbL cs)[i]?=(cs[i]?).map numbA:=by
 induction cs generalizing i with
 |nil=>simp[numbL]
 |cons c cs ih=>
  cases i with
  |zero=>simp[numbL]
  |succ i=>simpa[numbL]using ih i
theorem Zu (cs:List AV):(numbL cs).length=cs.length:=by
 induction cs with
 |nil=>rfl
 |cons c cs ih=>simp[numbL,ih]
theorem Z0i (tm:List (Nat×AV)) (t:Nat):getT (numbT tm) t=numbA (getT tm t):=by
 induction tm with
 |nil=>simp[numbT,getT,numbA]
 |cons p tm ih=>
  obtain⟨a,v⟩:=p
  simp only[numbT,getT]
  cases Nat.beq a t
  ·simpa using ih
  ·simp
def numbObj:Obj→Option Obj
 |.box t cs=>some (.box t (numbL cs))
 |.row e rows true v h=>some (.row e rows true v h)
 |.row _ _ false _ _=>none
 |.mp kl el es=>some (.mp kl el es)
theorem ZG (ob:List (Id×Obj)) (o:Id):getO (numbO ob) o=(getO ob o).bind numbObj:=by
 induction ob with
 |nil=>simp[numbO,getO]
 |cons p ob ih=>
  obtain⟨a,x⟩:=p
  cases x with
  |row e rows d v h=>
   cases d with
   |true=>
    simp only[numbO,getO,cond_true]
    cases idEq a o
    ·simpa using ih
    ·simp[numbObj]
   |false=>
    simp only[numbO,getO,cond_false,ZP]
    cases hk:idEq a o
    ·rw[if_neg (fun e=>Z9.mp hk e.symm)]
     simpa using ih
    ·rw[if_pos (Z5.mp hk).symm]
     simp[numbObj]
  |box t cs=>
   simp only[numbO,getO]
   cases idEq a o
   ·simpa using ih
   ·simp[numbObj]
  |mp kl el es=>
   simp only[numbO,getO]
   cases idEq a o
   ·simpa using ih
   ·simp[numbObj]
theorem ZE {x y:Obj} (h:numbObj x=some y):(∃e rows v hh,x=.row e rows true v hh∧y=x)∨(∃t cs,x=.box t cs∧y=.box t (numbL cs))∨∃kl el es,x=.mp kl el es∧y=x:=by
 cases x with
 |row e rows d v hh=>
  cases d with
  |true=>simp only[numbObj,Option.some.injEq]at h;exact .inl ⟨e,rows,v,hh,rfl,h.symm⟩
  |false=>cases h
 |box t cs=>simp only[numbObj,Option.some.injEq]at h;exact .inr (.inl ⟨t,cs,rfl,h.symm⟩)
 |mp kl el es=>simp only[numbObj,Option.some.injEq]at h;exact .inr (.inr ⟨kl,el,es,rfl,h.symm⟩)
mutual
theorem numbA_idem:∀v:AV,numbA (numbA v)=numbA v
 |.dead=>rfl
 |.i _ _=>rfl
 |.b _=>rfl
 |.s _=>rfl
 |.nil=>rfl
 |.agg cs=>by simp only[numbA,numbL_idem cs]
 |.tup cs=>by simp only[numbA,numbL_idem cs]
 |.fn _ cs=>by simp only[numbA,numbL_idem cs]
 |.ro e al rows=>by cases al<;>rfl
 |.own _=>rfl
 |.vw _ _ _=>rfl
 |.nest _ _ _ _ _ _ _=>rfl
 |.ptr _ _ _=>rfl
 |.pro e al cs f=>by cases al<;>rfl
theorem numbL_idem:∀cs:List AV,numbL (numbL cs)=numbL cs
 |[]=>rfl
 |v::r=>by simp only[numbL,numbA_idem v,numbL_idem r]
end
theorem Z3t (tm:List (Nat×AV)):numbT (numbT tm)=numbT tm:=by
 induction tm with
 |nil=>rfl
 |cons p tm ih=>obtain⟨k,v⟩:=p;simp only[numbT,numbA_idem,ih]
def NumbO (ob:List (Id×Obj)):Prop:=∀p∈ob,numbObj p.2=some p.2
theorem NumbO.eq {ob:List (Id×Obj)} (h:NumbO ob):numbO ob=ob:=by
 induction ob with
 |nil=>rfl
 |cons p ob ih=>
  have h1:=h p (by simp)
  have h2:=ih (fun q hq=>h q (List.mem_cons_of_mem _ hq))
  obtain⟨k,x⟩:=p
  cases x with
  |row e rows d v hh=>
   cases d with
   |true=>simp only[numbO,cond_true,h2]
   |false=>cases h1
  |box t cs=>
   simp only[numbObj,Option.some.injEq,Obj.box.injEq,true_and]at h1
   simp only[numbO,h2,h1]
  |mp kl el es=>simp only[numbO,h2]
theorem Z4l {ob:List (Id×Obj)} {k:Id} {p:Id×Obj} (h:p∈delO ob k):p∈ob:=by
 induction ob with
 |nil=>exact h
 |cons q ob ih=>
  obtain⟨k',x⟩:=q
  simp only[delO]at h
  cases hk:idEq k' k<;>rw[hk]at h
  ·simp only[cond_false,List.mem_cons]at h⊢
   exact h.imp id ih
  ·exact List.mem_cons_of_mem _ (ih h)
theorem Z3u (ob:List (Id×Obj)):NumbO (numbO ob):=by
 induction ob with
 |nil=>intro p hp;cases hp
 |cons q ob ih=>
  obtain⟨k,x⟩:=q
  cases x with
  |row e rows d v hh=>
   cases d with
   |true=>
    simp only[numbO,cond_true]
    intro p hp
    rcases List.mem_cons.mp hp with rfl|hp
    ·rfl
    ·exact ih p hp
   |false=>simp only[numbO,cond_false];exact fun p hp=>ih p (Z4l hp)
  |box t cs=>
   simp only[numbO]
   intro p hp
   rcases List.mem_cons.mp hp with rfl|hp
   ·simp only[numbObj,numbL_idem]
   ·exact ih p hp
  |mp kl el es=>
   simp only[numbO]
   intro p hp
   rcases List.mem_cons.mp hp with rfl|hp
   ·rfl
   ·exact ih p hp
theorem NumbO.set {ob:List (Id×Obj)} (h:NumbO ob) (k:Id) {x:Obj} (hx:numbObj x=some x):NumbO (setO ob k x):=by
 induction ob with
 |nil=>intro p hp;simp[setO]at hp;subst hp;exact hx
 |cons q ob ih=>
  obtain⟨k',y⟩:=q
  simp only[setO]
  cases hk:idEq k' k
  ·simp only[cond_false]
   intro p hp
   rcases List.mem_cons.mp hp with rfl|hp
   ·exact h _ (by simp)
   ·exact ih (fun q hq=>h q (List.mem_cons_of_mem _ hq)) p hp
  ·simp only[cond_true]
   intro p hp
   rcases List.mem_cons.mp hp with rfl|hp
   ·exact hx
   ·exact h p (List.mem_cons_of_mem _ hp)
section
variable {P:Program} {E:Env} {base:Nat} {M:List Nat} {S0:Nat→Prop} {R0:Id→Value} {w0:World} {nt:Nat} {G:Gh} {st:St} {a:Act} {w:World} {look:Look}
def Gh.withF (G:Gh) (F:List Nat):Gh:={G with F:=F}
theorem VR.numb {ob:List (Id×Obj)} {w':World} {F':List Nat} (hS:∀b,S0 b→w'.heap[b]?=w.heap[b]?) {x:AV} {v:Value} (h:VR E w S0 G ob x v):VR E w' S0 (G.withF F') ob (numbA x) v:=by
 induction h with
 |dead v=>exact .dead v
 |i k n=>exact .i k n
 |b x=>exact .b x
 |s x=>exact .s x
 |nil=>exact .nil
 |agg cs arr hl h h1 ih=>
  refine .agg _ arr ((Zu cs).trans hl) (fun i v x hv hx=>?_) h1
  rw[Zp]at hv
  obtain⟨v0,h0,rfl⟩:=Option.map_eq_some_iff.mp hv
  exact ih i v0 x h0 hx
 |tup vs arr hl h ih=>
  refine .tup _ arr ((Zu vs).trans hl) (fun i v x hv hx=>?_)
  rw[Zp]at hv
  obtain⟨v0,h0,rfl⟩:=Option.map_eq_some_iff.mp hv
  exact ih i v0 x h0 hx
 |fn f vs arr hl h ih=>
  refine .fn f _ arr ((Zu vs).trans hl) (fun i v x hv hx=>?_)
  rw[Zp]at hv
  obtain⟨v0,h0,rfl⟩:=Option.map_eq_some_iff.mp hv
  exact ih i v0 x h0 hx
 |ro e al rows v h=>
  cases al with
  |true=>exact .dead v
  |false=>
   refine .ro e false rows v (h.frame (fun b hb=>?_) (fun b hb=>?_))
   ·exact hb.elim (hS b) (fun hb=>by cases hb.1)
   ·exact hb.imp id (fun hb=>by cases hb.1)
 |own o v h h1=>exact .own o v h h1
 |vw o lo n v h h1=>exact .vw o lo n v h h1
 |nest o ver row col e whole rows v h hn=>exact .dead v
 |ptr o row off v h h1=>exact .ptr o row off v h h1
 |pro e te al cells off g o0 u ht hl hm hr=>
  cases al with
  |true=>exact .dead _
  |false=>
   refine .pro e te false cells off g o0 u ht hl (fun i hi=>?_) (fun i l hl'=>(hr i l hl').frame (fun b hb=>hb.elim (hS b) (fun hb=>by cases hb.1)) (fun b hb=>hb.imp id (fun hb=>by cases hb.1)))
   obtain⟨h1,h2⟩:=hm i hi
   rcases h1 with h1|⟨h1,_⟩
   ·exact⟨.inl h1,(ZD (a:=⟨g,o0+i,none⟩) (hS g h1)).trans h2⟩
   ·cases h1
theorem Z4m {v:AV} {e:TypeId} {al:Bool} {rows:List (List Dat)} (h:numbA v=.ro e al rows):v=.ro e al rows:=by
 cases v<;>simp only[numbA,reduceCtorEq]at h
 ·rename_i e' al' r';cases al'<;>first|exact h|cases h
 ·rename_i e' al' c f;cases al'<;>cases h
theorem RelG.numb (h:RelG E base M S0 R0 w0 nt G st a w) (F':List Nat) (hsub:∀b∈F',b∈G.F) (hins:∀o e rows v hh,getO st.ob o=some (.row e rows true v hh)→∀b∈G.ins o,b∈F'):
  RelG E base M S0 R0 w0 nt (G.withF F') {tm:=numbT st.tm,ob:=numbO st.ob} a w:=by
 have hget:∀o x,getO (numbO st.ob) o=some x→∃y,getO st.ob o=some y∧numbObj y=some x:=fun o x hx=>by
  rw[ZG]at hx
  cases hy:getO st.ob o with
  |none=>rw[hy]at hx;cases hx
  |some y=>rw[hy]at hx;exact⟨y,rfl,hx⟩
 have hc:Comp (fun _=>False) E w S0 G st.ob w G (numbO st.ob):=Comp.less fun o x hx=>by
  obtain⟨y,hy,hn⟩:=hget o x hx
  refine⟨y,hy,?_⟩
  rcases ZE hn with ⟨e,rows,v,hh,rfl,rfl⟩|⟨t,cs,rfl,rfl⟩|⟨kl,el,es,rfl,rfl⟩
  ·exact .inl rfl
  ·exact .inr ⟨t,cs,_,rfl,rfl⟩
  ·exact .inl rfl
 have hS:∀b,S0 b→w.heap[b]?=w.heap[b]?:=fun _ _=>rfl
 refine⟨h.kept,h.old,fun o x hx=>?_,fun o x hx b hb=>?_,fun o x o' x' hx hx'=>?_,fun o x hx=>?_,fun o x o' x' hx hx'=>?_,fun b hb=>h.F b (hsub b hb),fun t=>?_,h.defers,h.size,fun o x hp hx=>h.par o _ hp (hget o x hx).choose_spec.1,h.fix.map (fun t cs ht=>by
  obtain⟨y,hy,hn⟩:=hget _ _ ht
  rcases ZE hn with ⟨e,rows,v,hh,rfl,q⟩|⟨t',cs',rfl,q⟩|⟨kl,el,es,rfl,q⟩
  ·cases q
  ·simp only[Obj.box.injEq]at q
   obtain⟨rfl,rfl⟩:=q
   refine⟨_,cs',hy,fun c e rows hc=>?_⟩
   rw[Zp]at hc
   obtain⟨v0,h0,h1⟩:=Option.map_eq_some_iff.mp hc
   rw[h0,Z4m h1]
  ·cases q) (fun _ _ _ _ _=>rfl)⟩
 ·obtain⟨y,hy,hn⟩:=hget o x hx
  have:=h.objs o y hy
  rcases ZE hn with ⟨e,rows,v,hh,rfl,rfl⟩|⟨t,cs,rfl,rfl⟩|⟨kl,el,es,rfl,rfl⟩
  ·obtain⟨te,h1,h2,h3⟩:=(this:RowR E w _ e rows true hh _ _ _)
   refine⟨te,h1,h2,h3.imp id fun⟨g,off,c,arr,u,bs,a1,a2,a3,a4,a5,a6,a7,a8,a9,a10⟩=>⟨g,off,c,arr,u,bs,a1,a2,a3,a4,a5,a6,fun j i r l hj hl hh=>?_,a8,a9,a10⟩⟩
   have:=a7 j i r l hj hl hh
   simpa using this
  ·obtain⟨g,arr,et,h1,h2,h3,h4,h5,h6⟩:=(this:BoxR E w S0 G st.ob cs _ _ _)
   refine⟨g,arr,et,h1,h2,h3,h4,h5.trans (Zu cs).symm,fun i v x hv hxx=>?_⟩
   rw[Zp]at hv
   obtain⟨v0,h0,rfl⟩:=Option.map_eq_some_iff.mp hv
   obtain⟨h7,h8⟩:=h6 i v0 x h0 hxx
   exact⟨(h7.map hc Zz).numb hS,h8⟩
  ·exact this
 ·obtain⟨y,hy,_⟩:=hget o x hx
  obtain⟨q1,q2,q3⟩:=h.tops o y hy b hb
  exact⟨q1,fun hb=>q2 (hsub b hb),q3⟩
 ·obtain⟨y,hy,_⟩:=hget o x hx
  obtain⟨y',hy',_⟩:=hget o' x' hx'
  exact h.tops2 o y o' y' hy hy'
 ·obtain⟨y,hy,hn⟩:=hget o x hx
  refine⟨fun b hb=>?_,(h.ins o y hy).2⟩
  rcases ZE hn with ⟨e,rows,v,hh,rfl,rfl⟩|⟨t,cs,rfl,rfl⟩|⟨kl,el,es,rfl,rfl⟩
  ·exact hins o e rows v hh hy b hb
  ·obtain⟨g,arr,et,h1,h2,h3,_⟩:=(h.objs o _ hy:BoxR E w S0 G st.ob cs _ _ _)
   have hb:b∈G.ins o:=hb
   rw[h3]at hb;cases hb
  ·obtain⟨g,arr,ck,h1,h2,h3,_⟩:=(h.objs o _ hy:MapR w kl el es _ _ _)
   have hb:b∈G.ins o:=hb
   rw[h3]at hb;cases hb
 ·obtain⟨y,hy,_⟩:=hget o x hx
  obtain⟨y',hy',_⟩:=hget o' x' hx'
  exact h.ins2 o y o' y' hy hy'
 ·rw[Z0i]
  exact((h.tmps t).map hc Zz).numb hS
end
end Go.Proofs.YtnihikajdbcoaaaGreat.Vai
