/- The interpreter of the proofs of this claim: plain data, what a variable may hold, and how a list of operations acts on it; no statement, no condition. -/
import Derived.WalkKit
namespace Go.Proofs.Ythjkpphjlmmkdaa.Vai
open Go

/-- Plain data: a cell. -/
inductive Dat where
  | int (n : Int)
  | bool (b : Bool)
  | str (s : ByteArray)
  | sl (rows : List (List Dat))
instance : Inhabited Dat := ⟨.int 0⟩
def Dat.n : Dat → Int
  | .int n => n
  | _ => 0
def Dat.b : Dat → Bool
  | .bool b => b
  | _ => false
def Dat.s : Dat → ByteArray
  | .str s => s
  | _ => ⟨#[]⟩
def Dat.rows : Dat → List (List Dat)
  | .sl r => r
  | _ => []

/-- The kind of a cell. -/
inductive Leaf where
  | int (k : IntKind)
  | bool
  | str
  | sl (e : TypeId)
  deriving DecidableEq

/-- What the interpreter knows of a type: its cells, its bytes, is it a struct, its fields (offset, type). -/
structure TI where
  ls : List Leaf
  by_ : Nat
  agg : Bool
  fs : List (Nat × TypeId)

abbrev Id := Nat × Nat
def idEq (a b : Id) : Bool := Nat.beq a.1 b.1 && Nat.beq a.2 b.2

/-- What a temporary may hold. -/
inductive AV where
  | dead
  | i (k : IntKind) (n : Int)
  | b (x : Bool)
  | s (x : ByteArray)
  | nil
  | agg (cs : List AV)
  | tup (vs : List AV)
  | ro (e : TypeId) (al : Bool) (rows : List (List Dat))
  | own (o : Id)
  | vw (o : Id) (lo n : Int)
  | nest (o : Id) (ver : Nat) (row : Int) (col : Nat) (e : TypeId) (whole : Bool) (rows : List (List Dat))
  | ptr (o : Id) (row : Int) (off : Nat)
  | pro (e : TypeId) (al : Bool) (cells : List Dat) (off : Nat)

inductive Obj where
  | row (e : TypeId) (rows : List (List Dat)) (deep : Bool) (ver : Nat) (holes : List (Int × Nat))
  | box (t : TypeId) (cells : List AV)

structure St where
  tm : List (Nat × AV)
  ob : List (Id × Obj)

def getT : List (Nat × AV) → Nat → AV
  | [], _ => .dead
  | (k, v) :: r, t => bif Nat.beq k t then v else getT r t
def putT : List (Nat × AV) → Nat → AV → List (Nat × AV)
  | [], t, v => [(t, v)]
  | (k, u) :: r, t, v => bif Nat.beq k t then (t, v) :: r else (k, u) :: putT r t v
def getO : List (Id × Obj) → Id → Option Obj
  | [], _ => none
  | (k, v) :: r, o => bif idEq k o then some v else getO r o
def delO : List (Id × Obj) → Id → List (Id × Obj)
  | [], _ => []
  | (k, v) :: r, o => bif idEq k o then delO r o else (k, v) :: delO r o


mutual
def killA (o : Id) : AV → AV
  | .own o' => bif idEq o o' then .dead else .own o'
  | .vw o' lo n => bif idEq o o' then .dead else .vw o' lo n
  | .nest o' v r c e wh rows => bif idEq o o' then .ro e true rows else .nest o' v r c e wh rows
  | .ptr o' r f => bif idEq o o' then .dead else .ptr o' r f
  | .agg cs => .agg (killL o cs)
  | .tup cs => .tup (killL o cs)
  | v => v
def killL (o : Id) : List AV → List AV
  | [] => []
  | v :: r => killA o v :: killL o r
end
def killT (o : Id) : List (Nat × AV) → List (Nat × AV)
  | [] => []
  | (k, v) :: r => (k, killA o v) :: killT o r
def killO (o : Id) : List (Id × Obj) → List (Id × Obj)
  | [] => []
  | (k, .box t cs) :: r => (k, .box t (killL o cs)) :: killO o r
  | (k, v) :: r => (k, v) :: killO o r

/- after memory inside rows has been written: aliases of the inside fall away -/
mutual
def numbA : AV → AV
  | .ro e al rows => bif al then .dead else .ro e al rows
  | .nest _ _ _ _ _ _ _ => .dead
  | .pro e al cs f => bif al then .dead else .pro e al cs f
  | .agg cs => .agg (numbL cs)
  | .tup cs => .tup (numbL cs)
  | v => v
def numbL : List AV → List AV
  | [] => []
  | v :: r => numbA v :: numbL r
end
def numbT : List (Nat × AV) → List (Nat × AV)
  | [] => []
  | (k, v) :: r => (k, numbA v) :: numbT r
def numbO : List (Id × Obj) → List (Id × Obj)
  | [] => []
  | (k, .box t cs) :: r => (k, .box t (numbL cs)) :: numbO r
  | (k, .row e rows deep ver h) :: r => bif deep then (k, .row e rows deep ver h) :: numbO r else delO (numbO r) k

/-- What an operation does: the value, new objects, objects that turn, objects that go, has the inside of rows been written. -/
structure Delta where
  v : AV
  nw : List (Id × Obj) := []
  up : List (Id × Obj) := []
  dl : List Id := []
  nm : Bool := false
  up2 : List (Id × Obj) := []

def delAll : List Id → List (Id × Obj) → List (Id × Obj)
  | [], ob => ob
  | o :: r, ob => delAll r (delO ob o)
def setO : List (Id × Obj) → Id → Obj → List (Id × Obj)
  | [], o, v => [(o, v)]
  | (k, u) :: r, o, v => bif idEq k o then (o, v) :: r else (k, u) :: setO r o v
def upAll : List (Id × Obj) → List (Id × Obj) → List (Id × Obj)
  | [], ob => ob
  | (o, v) :: r, ob => upAll r (setO ob o v)
def clearAll : List (Id × Obj) → St → St
  | [], st => st
  | (o, _) :: r, st => clearAll r { tm := killT o st.tm, ob := killO o (delO st.ob o) }
def applyD (st : St) (dst : Option Nat) (d : Delta) : St :=
  let st1 : St := { st with ob := delAll d.dl st.ob }
  let st2 : St := bif d.nm then { tm := numbT st1.tm, ob := numbO st1.ob } else st1
  let st3 := clearAll d.nw { st2 with ob := upAll d.up st2.ob }
  let st4 : St := { st3 with ob := upAll d.up2 (upAll d.nw st3.ob) }
  match dst with
  | some t => { st4 with tm := putT st4.tm t d.v }
  | none => st4

/-- How a function gets and gives: 'plain': it reads its arguments, its results are new; 'muts': it writes the slices that it gets; 'cur': its first argument is a pointer to a struct whose numbers it writes; 'inout': a pointer to a struct that it owns meanwhile; 'mk': it returns a pointer to a new struct. -/
inductive Mode where
  | plain
  | muts
  | cur (pt : TypeId)
  | inout (pt : TypeId)
  | mk (pt : TypeId)
structure Env where
  T : TypeId → Option TI
  F : FuncId → Option Func
  mode : FuncId → Mode
  X : FuncId → Option (List Dat → Option (List Dat))
  keep : FuncId → Nat → List Nat
  eqT : TypeId → Bool

abbrev Look := Id → Option Obj

def cv : Value → AV
  | .int k n => .i k n
  | .bool b => .b b
  | .string s => .s s
  | .slice none 0 0 => .nil
  | _ => .dead
def ev (tm : List (Nat × AV)) : Operand → AV
  | .tmp t => getT tm t
  | .const v => cv v
  | _ => .dead

def flat : AV → List AV
  | .agg cs => cs
  | v => [v]
def pack (agg : Bool) (vs : List AV) : AV := bif agg then .agg vs else vs.headD .dead
def datAV (al : Bool) : Leaf → Dat → AV
  | .int k, d => .i k d.n
  | .bool, d => .b d.b
  | .str, d => .s d.s
  | .sl e, d => .ro e al d.rows
def nestAV (o : Id) (ver : Nat) (row : Int) (col : Nat) : Leaf → Dat → AV
  | .int k, d => .i k d.n
  | .bool, d => .b d.b
  | .str, d => .s d.s
  | .sl e, d => .nest o ver row col e true d.rows
def datAVs (al : Bool) : List Leaf → List Dat → List AV
  | [], _ => []
  | l :: ls, ds => datAV al l (ds.headD default) :: datAVs al ls ds.tail
def nestAVs (o : Id) (ver : Nat) (row : Int) : Nat → List Leaf → List Dat → List AV
  | _, [], _ => []
  | c, l :: ls, ds => nestAV o ver row c l (ds.headD default) :: nestAVs o ver row (c + 1) ls ds.tail

/-- The rows of a slice, and its elements' type if it is known. -/
def slOf (look : Look) : AV → Option (Option TypeId × List (List Dat))
  | .nil => some (none, [])
  | .ro e _ r => some (some e, r)
  | .nest _ _ _ _ e _ r => some (some e, r)
  | .own o => match look o with
    | some (.row e rows _ _ []) => some (some e, rows)
    | _ => none
  | .vw o lo n => match look o with
    | some (.row e rows _ _ []) => some (some e, (rows.drop lo.toNat).take n.toNat)
    | _ => none
  | _ => none
def eOK (e : TypeId) : Option TypeId → Bool
  | none => true
  | some e' => Nat.beq e e'
def ikEq (a b : IntKind) : Bool := decide (a = b)
def toDat (look : Look) : Leaf → AV → Option Dat
  | .int k, .i k' n => bif ikEq k k' then some (.int n) else none
  | .bool, .b x => some (.bool x)
  | .str, .s x => some (.str x)
  | .sl e, v => match slOf look v with
    | some (e', r) => bif eOK e e' then some (.sl r) else none
    | none => none
  | _, _ => none
def toDats (look : Look) : List Leaf → List AV → Option (List Dat)
  | [], [] => some []
  | l :: ls, v :: vs => match toDat look l v with
    | some d => match toDats look ls vs with
      | some ds => some (d :: ds)
      | none => none
    | none => none
  | _, _ => none

/-- A value handed over into a row: its data, the objects that go into it, does the row stay the only owner of its inside. -/
structure Given where
  d : Dat
  ids : List Id
  deep : Bool
def give (look : Look) : Leaf → AV → Option Given
  | .sl e, .own o => match look o with
    | some (.row e' rows deep _ []) => bif Nat.beq e e' then some ⟨.sl rows, [o], deep⟩ else none
    | _ => none
  | .sl e, .vw o lo n => match look o with
    | some (.row e' rows deep _ []) => bif Nat.beq e e' then some ⟨.sl ((rows.drop lo.toNat).take n.toNat), [o], deep⟩ else none
    | _ => none
  | .sl _, .nil => some ⟨.sl [], [], true⟩
  | .sl e, .ro e' _ r => bif Nat.beq e e' then some ⟨.sl r, [], false⟩ else none
  | .sl e, .nest _ _ _ _ e' _ r => bif Nat.beq e e' then some ⟨.sl r, [], false⟩ else none
  | .int k, .i k' n => bif ikEq k k' then some ⟨.int n, [], true⟩ else none
  | .bool, .b x => some ⟨.bool x, [], true⟩
  | .str, .s x => some ⟨.str x, [], true⟩
  | _, _ => none
structure Givens where
  ds : List Dat
  ids : List Id
  deep : Bool
def gives (look : Look) : List Leaf → List AV → Option Givens
  | [], [] => some ⟨[], [], true⟩
  | l :: ls, v :: vs => match give look l v with
    | some g => match gives look ls vs with
      | some h => some ⟨g.d :: h.ds, g.ids ++ h.ids, g.deep && h.deep⟩
      | none => none
    | none => none
  | _, _ => none
def memId (o : Id) : List Id → Bool
  | [] => false
  | p :: r => bif idEq o p then true else memId o r
def nodupId : List Id → Bool
  | [] => true
  | o :: r => bif memId o r then false else nodupId r

def zeroDat : Leaf → Dat
  | .int _ => .int 0
  | .bool => .bool false
  | .str => .str ⟨#[]⟩
  | .sl _ => .sl []
def zeroAVs (t : Nat) : Nat → List Leaf → List AV
  | _, [] => []
  | c, .int k :: ls => .i k 0 :: zeroAVs t (c + 1) ls
  | c, .bool :: ls => .b false :: zeroAVs t (c + 1) ls
  | c, .str :: ls => .s ⟨#[]⟩ :: zeroAVs t (c + 1) ls
  | c, .sl _ :: ls => .own (t, c) :: zeroAVs t (c + 1) ls
def zeroObjs (t : Nat) : Nat → List Leaf → List (Id × Obj)
  | _, [] => []
  | c, .sl e :: ls => ((t, c), .row e [] true 0 []) :: zeroObjs t (c + 1) ls
  | c, _ :: ls => zeroObjs t (c + 1) ls

/-- What an operation comes to: a test, a call's answer, and what is done then. -/
structure OpRes where
  g : Bool
  o : Option (List Dat)
  f : List Dat → Delta
def just (d : Delta) : Option OpRes := some ⟨true, some [], fun _ => d⟩
def val (v : AV) : Option OpRes := just { v := v }
def under (g : Bool) (d : Delta) : Option OpRes := some ⟨g, some [], fun _ => d⟩

def setRange {α : Type} : List α → Nat → List α → List α
  | l, _, [] => l
  | l, i, x :: xs => setRange (l.set i x) (i + 1) xs
def hasSl : List Leaf → Bool
  | [] => false
  | .sl _ :: _ => true
  | _ :: ls => hasSl ls
def colIn (off n : Nat) : List (Int × Nat) → Bool
  | [] => false
  | (_, c) :: r => bif Nat.ble off c && Nat.blt c (off + n) then true else colIn off n r
def rowIs (row : Int) : List (Int × Nat) → Bool
  | [] => true
  | (r, _) :: h => decide (r = row) && rowIs row h
def holesOut (off n : Nat) : List (Int × Nat) → List (Int × Nat)
  | [] => []
  | (r, c) :: h => bif Nat.ble off c && Nat.blt c (off + n) then holesOut off n h else (r, c) :: holesOut off n h
def slCols : Nat → List Leaf → List Nat
  | _, [] => []
  | c, .sl _ :: ls => c :: slCols (c + 1) ls
  | c, _ :: ls => slCols (c + 1) ls

def leafEq : Leaf → Leaf → Bool
  | .int k, .int k' => ikEq k k'
  | .bool, .bool => true
  | .str, .str => true
  | .sl e, .sl e' => Nat.beq e e'
  | _, _ => false
/-- do the cells of a type lie at a place among the cells of an element? -/
def liesIn : List Leaf → Nat → List Leaf → Bool
  | [], _, _ => true
  | l :: ls, off, es => (match es[off]? with
    | some l' => leafEq l l'
    | none => false) && liesIn ls (off + 1) es
def fits (E : Env) (ls : List Leaf) (off : Nat) (e : TypeId) : Bool := match E.T e with
  | some te => liesIn ls off te.ls
  | none => false
def opLoad (E : Env) (look : Look) (t : TypeId) : AV → Option OpRes
  | .ptr o row off => match E.T t with
    | none => none
    | some ti => match look o with
      | some (.box _ cells) => bif Nat.ble (off + ti.ls.length) cells.length then val (pack ti.agg ((cells.drop off).take ti.ls.length)) else none
      | some (.row e rows _ ver holes) => bif colIn off ti.ls.length holes || !fits E ti.ls off e then none
          else val (pack ti.agg (nestAVs o ver row off ti.ls ((rows.getD row.toNat []).drop off)))
      | none => none
  | .pro e al cells off => match E.T t with
    | none => none
    | some ti => bif fits E ti.ls off e then val (pack ti.agg (datAVs al ti.ls (cells.drop off))) else none
  | _ => none

def solid : AV → Bool
  | .dead => false
  | .tup _ => false
  | _ => true
/-- a slice that is cut and stored back where it was read -/
def selfOver (o : Id) (off ver : Nat) (holes : List (Int × Nat)) : List Leaf → AV → Option (Int × Dat)
  | [.sl e], .nest o' ver' row col e' _ r => bif idEq o o' && (Nat.beq ver ver' && (Nat.beq off col && (Nat.beq e e' && !colIn off 1 holes))) then some (row, .sl r) else none
  | _, _ => none
def opStore (E : Env) (look : Look) (t : TypeId) (x : AV) : AV → Option OpRes
  | .ptr o row off => match E.T t with
    | none => none
    | some ti => match look o with
      | some (.box bt cells) =>
        bif Nat.ble (off + ti.ls.length) cells.length && (Nat.beq (flat x).length ti.ls.length && solid x) then just { v := .dead, up := [(o, .box bt (setRange cells off (flat x)))] } else none
      | some (.row e rows deep ver holes) => match selfOver o off ver holes ti.ls x with
       | some (row', d) => bif fits E ti.ls off e then under (decide (row' = row)) { v := .dead, up := [(o, .row e (rows.set row.toNat ((rows.getD row.toNat []).set off d)) deep (ver + 1) holes)] } else none
       | none => match gives look ti.ls (flat x) with
        | none => none
        | some g => bif memId o g.ids || (!nodupId g.ids || !fits E ti.ls off e) then none else
          bif colIn off ti.ls.length holes then
            under (rowIs row holes) { v := .dead, up := [(o, .row e (rows.set row.toNat (setRange (rows.getD row.toNat []) off g.ds)) (deep && g.deep) (ver + 1) (holesOut off ti.ls.length holes))], dl := g.ids }
          else just { v := .dead, up := [(o, .row e (rows.set row.toNat (setRange (rows.getD row.toNat []) off g.ds)) (deep && g.deep) (bif hasSl ti.ls then ver + 1 else ver) holes)], dl := g.ids }
      | none => none
  | _ => none

def opIndexAddr (look : Look) (e : TypeId) (x : AV) (n : Int) : Option OpRes :=
  match x with
  | .own o => match look o with
    | some (.row e' rows _ _ _) => bif Nat.beq e e' then under (decide (0 ≤ n) && decide (n < (rows.length : Int))) { v := .ptr o n 0 } else none
    | _ => none
  | .vw o lo m => match look o with
    | some (.row e' _ _ _ _) => bif Nat.beq e e' then under (decide (0 ≤ n) && decide (n < m)) { v := .ptr o (lo + n) 0 } else none
    | _ => none
  | .ro e' al rows => bif Nat.beq e e' then under (decide (0 ≤ n) && decide (n < (rows.length : Int))) { v := .pro e al (rows.getD n.toNat []) 0 } else none
  | .nest _ _ _ _ e' _ rows => bif Nat.beq e e' then under (decide (0 ≤ n) && decide (n < (rows.length : Int))) { v := .pro e true (rows.getD n.toNat []) 0 } else none
  | _ => none

def opSliceS (s : ByteArray) (lo hi : Option AV) : Option OpRes :=
  match lo, hi with
  | none, none => val (.s s)
  | some (.i _ l), none => under (decide (0 ≤ l) && decide (l ≤ (s.size : Int))) { v := .s (s.extract l.toNat s.size) }
  | none, some (.i _ h) => under (decide (0 ≤ h) && decide (h ≤ (s.size : Int))) { v := .s (s.extract 0 h.toNat) }
  | some (.i _ l), some (.i _ h) => under (decide (0 ≤ l) && (decide (l ≤ h) && decide (h ≤ (s.size : Int)))) { v := .s (s.extract l.toNat h.toNat) }
  | _, _ => none
def cutRows (r : List (List Dat)) (l h : Int) : List (List Dat) := (r.drop l.toNat).take (h - l).toNat
/-- a slice cut from l to h, where 0 ≤ l ≤ h ≤ len -/
def opCut (x : AV) (l h : Int) : AV :=
  match x with
  | .own o => .vw o l (h - l)
  | .vw o l0 _ => .vw o (l0 + l) (h - l)
  | .ro e al r => .ro e al (cutRows r l h)
  | .nest o ver row col e _ r => .nest o ver row col e false (cutRows r l h)
  | _ => .dead
def opSlice (look : Look) (e : TypeId) (x : AV) (lo hi : Option AV) : Option OpRes :=
  match slOf look x with
  | some (some e', rows) => bif Nat.beq e e' then
      match lo, hi with
      | none, none => val (opCut x 0 rows.length)
      | some (.i _ l), none => under (decide (0 ≤ l) && decide (l ≤ (rows.length : Int))) { v := opCut x l rows.length }
      | none, some (.i _ h) => under (decide (0 ≤ h) && decide (h ≤ (rows.length : Int))) { v := opCut x 0 h }
      | some (.i _ l), some (.i _ h) => under (decide (0 ≤ l) && (decide (l ≤ h) && decide (h ≤ (rows.length : Int)))) { v := opCut x l h }
      | _, _ => none
    else none
  | _ => none

def keys : List (Id × Obj) → List Id
  | [] => []
  | (o, _) :: r => o :: keys r

def disjI : List Id → List Id → Bool
  | [], _ => true
  | x :: r, l => !(memId x l) && disjI r l
/-- the first argument of append: its elements' type, its rows, the object that goes, does it own its inside, the hole that it leaves -/
structure Dst where
  rows : List (List Dat)
  ids : List Id
  deep : Bool
  up : List (Id × Obj)
def dstOf (look : Look) (e : TypeId) : AV → Option Dst
  | .nil => some ⟨[], [], true, []⟩
  | .own o => match look o with
    | some (.row e' rows deep _ []) => bif Nat.beq e e' then some ⟨rows, [o], deep, []⟩ else none
    | _ => none
  | .vw o lo n => match look o with
    | some (.row e' rows deep _ []) => bif Nat.beq e e' then some ⟨(rows.drop lo.toNat).take n.toNat, [o], deep, []⟩ else none
    | _ => none
  | .nest o ver row col e' _ r => match look o with
    | some (.row eo rows deep ver' holes) => bif Nat.beq e e' && (Nat.beq ver ver' && (deep && !colIn col 1 holes)) then
        some ⟨r, [], true, [(o, .row eo rows deep ver ((row, col) :: holes))]⟩ else none
    | _ => none
  | _ => none
def maxBytes : Nat := 70368744177664
def opAppend (E : Env) (look : Look) (t : Nat) (e : TypeId) (s x : AV) : Option OpRes :=
  match E.T e with
  | none => none
  | some te => match dstOf look e s with
    | none => none
    | some d => match (bif hasSl te.ls then give look (.sl e) x else (toDat look (.sl e) x).map fun d => (⟨d, [], true⟩ : Given)) with
      | none => none
      | some g => bif !nodupId (d.ids ++ g.ids) || ((!g.deep && !d.up.isEmpty) || !disjI (keys d.up) g.ids) then none else
        under (decide ((d.rows.length + g.d.rows.length) * te.by_ ≤ maxBytes))
          { v := .own (t, 0), nw := [((t, 0), .row e (d.rows ++ g.d.rows) (d.deep && g.deep) 0 [])], up := d.up, dl := d.ids ++ g.ids, nm := !d.up.isEmpty }

def opLen (look : Look) (x : AV) : Option OpRes :=
  match x with
  | .s s => val (.i .i64 s.size)
  | .own o => match look o with
    | some (.row _ rows _ _ _) => val (.i .i64 rows.length)
    | _ => none
  | .vw o _ n => match look o with
    | some (.row _ _ _ _ _) => val (.i .i64 n)
    | _ => none
  | _ => match slOf look x with
    | some (_, r) => val (.i .i64 r.length)
    | none => none

def byteAt (s : ByteArray) (i : Int) : Int := if h : i.toNat < s.size then ((s[i.toNat]'h).toNat : Int) else 0
def strOf (rows : List (List Dat)) : ByteArray := ⟨(rows.map fun r => UInt8.ofNat (r.headD default).n.toNat).toArray⟩

def avEq : List AV → List AV → Option Bool
  | [], [] => some true
  | .i k a :: r, .i k' b :: q => bif ikEq k k' then (avEq r q).map fun t => (a == b) && t else none
  | .b a :: r, .b b :: q => (avEq r q).map fun t => (a == b) && t
  | .s a :: r, .s b :: q => (avEq r q).map fun t => (a.toList == b.toList) && t
  | _, _ => none

def avFits : List Leaf → List AV → Bool
  | [], [] => true
  | .int _ :: ls, .i _ _ :: r => avFits ls r
  | .bool :: ls, .b _ :: r => avFits ls r
  | .str :: ls, .s _ :: r => avFits ls r
  | _, _ => false
def opBin (E : Env) (op : BinOp) (t : TypeId) (x y : AV) : Option OpRes :=
  match x, y with
  | .i k a, .i k' b => match op with
    | .shl => under (decide (0 ≤ b)) { v := .i k (k.wrap (a * 2 ^ (min b.toNat k.bits))) }
    | .shr => under (decide (0 ≤ b)) { v := .i k (a / 2 ^ (min b.toNat k.bits)) }
    | _ => bif !ikEq k k' then none else match op with
      | .add => val (.i k (k.wrap (a + b)))
      | .sub => val (.i k (k.wrap (a - b)))
      | .mul => val (.i k (k.wrap (a * b)))
      | .quo => under (!decide (b = 0)) { v := .i k (k.wrap (a.tdiv b)) }
      | .rem => under (!decide (b = 0)) { v := .i k (a.tmod b) }
      | .eql => val (.b (a == b))
      | .neq => val (.b (!(a == b)))
      | .lss => val (.b (decide (a < b)))
      | .leq => val (.b (decide (a ≤ b)))
      | .gtr => val (.b (decide (b < a)))
      | .geq => val (.b (decide (b ≤ a)))
      | .and => val (.i k (Go.bits .and k a b))
      | .or => val (.i k (Go.bits .or k a b))
      | .xor => val (.i k (Go.bits .xor k a b))
      | .andNot => val (.i k (Go.bits .andNot k a b))
      | _ => none
  | .s a, .s b => match op with
    | .add => under (decide (a.size + b.size ≤ 9223372036854775807)) { v := .s (a ++ b) }
    | .eql => val (.b (a.toList == b.toList))
    | .neq => val (.b (!(a.toList == b.toList)))
    | _ => none
  | .b a, .b b => match E.T t with
    | some ⟨[.bool], _, false, _⟩ => match op with
      | .eql => val (.b (a == b))
      | .neq => val (.b (!(a == b)))
      | _ => none
    | _ => none
  | .agg a, .agg b => match E.T t with
    | some ti => bif !(E.eqT t && (avFits ti.ls a && avFits ti.ls b)) then none else match op with
      | .eql => match avEq a b with
        | some r => val (.b r)
        | none => none
      | .neq => match avEq a b with
        | some r => val (.b (!r))
        | none => none
      | _ => none
    | none => none
  | _, _ => none

def opPick (c a b : AV) : Option OpRes :=
  match c with
  | .b t => match a, b with
    | .b x, .b y => val (.b (bif t then x else y))
    | .dead, v => under (!t) { v := v }
    | v, .dead => under t { v := v }
    | .tup [], v => under (!t) { v := v }
    | v, .tup [] => under t { v := v }
    | .i k x, .i k' y => bif ikEq k k' then val (.i k (bif t then x else y)) else none
    | .s x, .s y => val (.s (bif t then x else y))
    | _, _ => none
  | _ => none

def slIds (v : AV) : List Id := match v with
  | .own o => [o]
  | .vw o _ _ => [o]
  | _ => []
def resAVs (t : Nat) : Nat → List Leaf → List Dat → List AV
  | _, [], _ => []
  | c, .sl _ :: ls, ds => .own (t, c) :: resAVs t (c + 1) ls ds.tail
  | c, l :: ls, ds => datAV false l (ds.headD default) :: resAVs t (c + 1) ls ds.tail
def resObjs (t : Nat) : Nat → List Leaf → List Dat → List (Id × Obj)
  | _, [], _ => []
  | c, .sl e :: ls, ds => ((t, c), .row e (ds.headD default).rows true 0 []) :: resObjs t (c + 1) ls ds.tail
  | c, _ :: ls, ds => resObjs t (c + 1) ls ds.tail
def lsOf (E : Env) : List TypeId → Option (List TI)
  | [] => some []
  | t :: r => match E.T t with
    | some ti => match lsOf E r with
      | some q => some (ti :: q)
      | none => none
    | none => none
def joinLs : List TI → List Leaf
  | [] => []
  | ti :: r => ti.ls ++ joinLs r
def packAll : List TI → List AV → List AV
  | [], _ => []
  | ti :: r, vs => pack ti.agg (vs.take ti.ls.length) :: packAll r (vs.drop ti.ls.length)
def oneOr (vs : List AV) : AV := match vs with
  | [v] => v
  | _ => .tup vs
def flats : List AV → List AV
  | [] => []
  | v :: r => flat v ++ flats r

/-- the slices that a writing call gets: each an object of its own, or a part of one -/
structure MutArg where
  o : Id
  sub : Option (Int × Nat)
def mutArgs (look : Look) : List Leaf → List AV → Option (List MutArg)
  | [], [] => some []
  | .sl e :: ls, .own o :: vs => match look o with
    | some (.row e' _ true _ []) => bif Nat.beq e e' then (mutArgs look ls vs).map (⟨o, none⟩ :: ·) else none
    | _ => none
  | .sl e :: ls, .nest o ver row col e' true _ :: vs => match look o with
    | some (.row _ _ true ver' []) => bif Nat.beq e e' && Nat.beq ver ver' then (mutArgs look ls vs).map (⟨o, some (row, col)⟩ :: ·) else none
    | _ => none
  | .sl _ :: _, _ => none
  | _ :: ls, _ :: vs => mutArgs look ls vs
  | _, _ => none
def mutUps (look : Look) : List MutArg → List Dat → List (Id × Obj)
  | [], _ => []
  | ⟨o, none⟩ :: r, ds => (match look o with
    | some (.row e _ deep ver h) => [(o, Obj.row e (ds.headD default).rows deep ver h)]
    | _ => []) ++ mutUps look r ds.tail
  | ⟨o, some (row, col)⟩ :: r, ds => (match look o with
    | some (.row e rows deep ver h) => [(o, Obj.row e (rows.set row.toNat ((rows.getD row.toNat []).set col (ds.headD default))) deep ver h)]
    | _ => []) ++ mutUps look r ds.tail
def mutIds : List MutArg → List Id
  | [] => []
  | m :: r => m.o :: mutIds r

def allOld : List AV → Bool
  | [] => true
  | .own _ :: _ => false
  | .vw _ _ _ :: _ => false
  | .nest _ _ _ _ _ _ _ :: _ => false
  | .ro _ al _ :: r => !al && allOld r
  | _ :: r => allOld r
def argFit (ti : TI) : AV → Bool
  | .agg cs => ti.agg && Nat.beq cs.length ti.ls.length
  | _ => !ti.agg && Nat.beq 1 ti.ls.length
def argsFit : List TI → List AV → Bool
  | [], [] => true
  | ti :: r, v :: vs => argFit ti v && argsFit r vs
  | _, _ => false
def opCall (E : Env) (call : FuncId → List Dat → Option (List Dat)) (look : Look) (t : Nat) (f : FuncId) (vs : List AV) : Option OpRes :=
  match E.F f with
  | none => none
  | some fn => match E.mode f with
    | .plain => match lsOf E fn.params.toList, lsOf E fn.resultTypes.toList with
      | some ps, some rs => match toDats look (joinLs ps) (flats vs) with
        | none => none
        | some ds => bif !argsFit ps vs then none else some ⟨true, call f ds, fun r => { v := oneOr (packAll rs (resAVs t 0 (joinLs rs) r)), nw := resObjs t 0 (joinLs rs) r }⟩
      | _, _ => none
    | .muts => match lsOf E fn.params.toList, lsOf E fn.resultTypes.toList with
      | some ps, some rs => match toDats look (joinLs ps) (flats vs), mutArgs look (joinLs ps) (flats vs) with
        | some ds, some ms => bif nodupId (mutIds ms) && argsFit ps vs then
            some ⟨true, call f ds, fun r => { v := oneOr (packAll rs (resAVs t 0 (joinLs rs) r)), nw := resObjs t 0 (joinLs rs) r, up := mutUps look ms (r.drop (joinLs rs).length), nm := true }⟩
          else none
        | _, _ => none
      | _, _ => none
    | .cur pt => match vs, E.T pt, lsOf E (fn.params.toList.drop 1), lsOf E fn.resultTypes.toList with
      | .ptr o 0 0 :: us, some ti, some ps, some rs => match look o with
        | some (.box _ cells) => match toDats look ti.ls cells, toDats look (joinLs ps) (flats us) with
          | some cs, some ds => bif argsFit ps us && (allOld cells && allOld (flats us)) then some ⟨true, call f (cs ++ ds), fun r => { v := oneOr (packAll rs (resAVs t 0 (joinLs rs) r)), nw := resObjs t 0 (joinLs rs) r, up := [(o, .box pt (datAVs false ti.ls (r.drop (joinLs rs).length)))] }⟩ else none
          | _, _ => none
        | _ => none
      | _, _, _, _ => none
    | .inout pt => match vs, E.T pt, lsOf E (fn.params.toList.drop 1), lsOf E fn.resultTypes.toList with
      | .ptr o 0 0 :: us, some ti, some ps, some rs => match look o with
        | some (.box _ cells) => match gives look ti.ls cells, toDats look (joinLs ps) (flats us) with
          | some g, some ds => bif g.deep && (nodupId g.ids && argsFit ps us) then
              some ⟨true, call f (g.ds ++ ds), fun r => { v := oneOr (packAll rs (resAVs t 0 (joinLs rs) r)), nw := resObjs t 0 (joinLs rs) r ++ resObjs t 100 ti.ls (r.drop (joinLs rs).length), dl := g.ids, up2 := [(o, .box pt (resAVs t 100 ti.ls (r.drop (joinLs rs).length)))], nm := true }⟩
            else none
          | _, _ => none
        | _ => none
      | _, _, _, _ => none
    | .mk pt => match E.T pt, lsOf E fn.params.toList with
      | some ti, some ps => match toDats look (joinLs ps) (flats vs) with
        | some ds => bif allOld (flats vs) && argsFit ps vs then some ⟨true, call f ds, fun r => { v := .ptr (t, 0) 0 0, nw := [((t, 0), .box pt (datAVs false ti.ls r))] }⟩ else none
        | none => none
      | _, _ => none

/- the objects that a value names -/
mutual
def idsA : AV → List Id
  | .own o => [o]
  | .vw o _ _ => [o]
  | .nest o _ _ _ _ _ _ => [o]
  | .ptr o _ _ => [o]
  | .agg cs => idsL cs
  | .tup cs => idsL cs
  | _ => []
def idsL : List AV → List Id
  | [] => []
  | v :: r => idsA v ++ idsL r
end
def opBuild (E : Env) (t : TypeId) (zs : List AV) : List (Nat × AV) → List AV → Option (List AV)
  | [], cs => some cs
  | (i, v) :: r, cs => match E.T t with
    | none => none
    | some ti => match ti.fs[i]? with
      | none => none
      | some (off, ft) => match E.T ft with
        | none => none
        | some fi => bif Nat.beq (flat v).length fi.ls.length && solid v then opBuild E t zs r (setRange cs off (flat v)) else none
structure Built where
  rows : List (List Dat)
  ids : List Id
  deep : Bool
def opBuildS (look : Look) (ls : List Leaf) : List (Nat × AV) → Built → Option Built
  | [], b => some b
  | (i, v) :: r, b => match gives look ls (flat v) with
    | none => none
    | some g => bif Nat.blt i b.rows.length then opBuildS look ls r ⟨b.rows.set i g.ds, b.ids ++ g.ids, b.deep && g.deep⟩ else none

def evs (tm : List (Nat × AV)) : List Operand → List AV
  | [] => []
  | x :: r => ev tm x :: evs tm r
def evp (tm : List (Nat × AV)) : List (Nat × Operand) → List (Nat × AV)
  | [] => []
  | (i, x) :: r => (i, ev tm x) :: evp tm r
def evpV (tm : List (Nat × AV)) : List (Nat × Operand) → List AV
  | [] => []
  | (_, x) :: r => ev tm x :: evpV tm r
def evo (tm : List (Nat × AV)) : Option Operand → Option AV
  | none => none
  | some x => some (ev tm x)

def iop (E : Env) (call : FuncId → List Dat → Option (List Dat)) (look : Look) (tm : List (Nat × AV)) (o : Oper) : Option OpRes :=
  let t := o.dst.getD 0
  let mv (x : Operand) : Option OpRes := match ev tm x with
    | .nil => match E.T o.type with
      | some ⟨[.sl e], _, false, _⟩ => just { v := .own (t, 0), nw := [((t, 0), .row e [] true 0 [])] }
      | _ => none
    | v => val v
  match o.op with
  | .move x => mv x
  | .assign x => mv x
  | .pick c a b => opPick (ev tm c) (ev tm a) (ev tm b)
  | .alloc e => match E.T e with
    | none => none
    | some ti => just { v := .ptr (t, 0) 0 0, nw := zeroObjs t 1 ti.ls ++ [((t, 0), .box e (zeroAVs t 1 ti.ls))] }
  | .box e x => match E.T e with
    | none => none
    | some ti => bif Nat.beq (flat (ev tm x)).length ti.ls.length && (solid (ev tm x) && !memId (t, 0) (idsL (flat (ev tm x)))) then just { v := .ptr (t, 0) 0 0, nw := [((t, 0), .box e (flat (ev tm x)))] } else none
  | .load ty x => opLoad E look ty (ev tm x)
  | .store ty a x => opStore E look ty (ev tm x) (ev tm a)
  | .nilCheck x => match ev tm x with
    | .ptr o r f => match look o with
      | some _ => val (.ptr o r f)
      | none => none
    | _ => none
  | .fieldAddr s x f => match E.T s with
    | none => none
    | some ti => bif !ti.agg then none else match ti.fs[f]?, ev tm x with
      | some (fo, _), .ptr o r off => match look o with
        | some _ => val (.ptr o r (off + fo))
        | none => none
      | some (fo, _), .pro e al cs off => val (.pro e al cs (off + fo))
      | _, _ => none
  | .field s x f => match E.T s with
    | none => none
    | some ti => bif !ti.agg then none else match ti.fs[f]?, ev tm x with
      | some (fo, ft), .agg cs => match E.T ft with
        | some fi => bif Nat.ble (fo + fi.ls.length) cs.length then val (pack fi.agg ((cs.drop fo).take fi.ls.length)) else none
        | none => none
      | _, _ => none
  | .indexAddr ty x ix => match E.T ty, ev tm ix with
    | some ⟨[.sl e], _, false, _⟩, .i _ n => opIndexAddr look e (ev tm x) n
    | _, _ => none
  | .index ty x ix => match E.T ty, ev tm x, ev tm ix with
    | some ⟨[.str], _, false, _⟩, .s s, .i _ n => under (decide (0 ≤ n) && decide (n < (s.size : Int))) { v := .i .u8 (byteAt s n) }
    | _, _, _ => none
  | .extract x ix => match ev tm x with
    | .tup vs => match vs[ix]? with
      | some v => val v
      | none => none
    | _ => none
  | .slice ty x lo hi none => match E.T ty with
    | some ⟨[.sl e], _, false, _⟩ => opSlice look e (ev tm x) (evo tm lo) (evo tm hi)
    | some ⟨[.str], _, false, _⟩ => match ev tm x with
      | .s s => opSliceS s (evo tm lo) (evo tm hi)
      | _ => none
    | _ => none
  | .unOp op _ x => match op, ev tm x with
    | .not, .b y => val (.b (!y))
    | .neg, .i k n => val (.i k (k.wrap (0 - n)))
    | _, _ => none
  | .binOp op ty x y _ => opBin E op ty (ev tm x) (ev tm y)
  | .convert src dst x => match E.T src, E.T dst, ev tm x with
    | some ⟨[.int _], _, false, _⟩, some ⟨[.int k], _, false, _⟩, .i _ n => val (.i k (k.wrap n))
    | some ⟨[.str], _, false, _⟩, some ⟨[.str], _, false, _⟩, .s s => val (.s s)
    | some ⟨[.sl e], _, false, _⟩, some ⟨[.str], _, false, _⟩, v => match E.T e, slOf look v with
      | some ⟨[.int .u8], _, false, _⟩, some (e', r) => bif eOK e e' then val (.s (strOf r)) else none
      | _, _ => none
    | _, _, _ => none
  | .build ty parts => match E.T ty with
    | none => none
    | some ti => match opBuild E ty [] (evp tm parts.toList) (zeroAVs t 1 ti.ls) with
      | some cs => bif ti.agg && disjI (keys (zeroObjs t 1 ti.ls)) (idsL (evpV tm parts.toList)) then just { v := .agg cs, nw := zeroObjs t 1 ti.ls } else none
      | none => none
  | .buildSlice ty len parts => match E.T ty with
    | some ⟨[.sl e], _, false, _⟩ => match E.T e with
      | none => none
      | some te => match opBuildS look te.ls (evp tm parts.toList) ⟨List.replicate len (te.ls.map zeroDat), [], true⟩ with
        | some b => bif nodupId b.ids && Nat.ble (len * te.ls.length) 16777216 then just { v := .own (t, 0), nw := [((t, 0), .row e b.rows b.deep 0 [])], dl := b.ids } else none
        | none => none
    | _ => none
  | .makeSlice ty l c => match E.T ty, ev tm l, ev tm c with
    | some ⟨[.sl e], _, false, _⟩, .i .i64 n, .i .i64 m => match E.T e with
      | none => none
      | some te => under (decide (0 ≤ n) && (decide (n = m) && decide (n.toNat * te.by_ ≤ maxBytes)))
          { v := .own (t, 0), nw := [((t, 0), .row e (List.replicate n.toNat (te.ls.map zeroDat)) true 0 [])] }
    | _, _, _ => none
  | .call { callee := .builtin b, args, argTypes } => match b, evs tm args.toList with
    | .len, [x] => match (argTypes[0]?).bind E.T, x with
      | some ⟨[.str], _, false, _⟩, .s s => val (.i .i64 s.size)
      | some ⟨[.sl _], _, false, _⟩, .s _ => none
      | some ⟨[.sl _], _, false, _⟩, x => opLen look x
      | _, _ => none
    | .append, [s, x] => match (argTypes[0]?).bind E.T, (argTypes[1]?).bind E.T with
      | some ⟨[.sl e], _, false, _⟩, some ⟨[.sl _], _, false, _⟩ => opAppend E look t e s x
      | _, _ => none
    | .max, [.i k a, .i k' b] => bif ikEq k k' then val (.i k (bif decide (a < b) then b else a)) else none
    | .min, [.i k a, .i k' b] => bif ikEq k k' then val (.i k (bif decide (b < a) then b else a)) else none
    | _, _ => none
  | .call { callee := .value (.func f), args, .. } => opCall E call look t f (evs tm args.toList)
  | _ => none

def tmpsOf : List Operand → List Nat
  | [] => []
  | .tmp t :: r => t :: tmpsOf r
  | _ :: r => tmpsOf r
def boxIds : List Id → List (Id × Obj) → List Id
  | [], _ => []
  | o :: r, ob => (match getO ob o with
    | some (.box _ cs) => idsL cs
    | _ => []) ++ boxIds r ob
def avsOf : List (Nat × AV) → List AV
  | [] => []
  | (_, v) :: r => v :: avsOf r
/-- the ids in the cells of boxes -/
def obIds : List (Id × Obj) → List Id
  | [] => []
  | (_, .box _ cs) :: r => idsL cs ++ obIds r
  | _ :: r => obIds r
/-- what an operation of a region has touched: for the regions whose order is open -/
structure Rec where
  idx : Nat
  dst : Option Nat
  reads : List Nat
  touch : List Id
  writes : List Id
  nws : List Id
  vids : List Id
  nm : Bool

def guarded (ops : List Oper) (j : Nat) : Bool := ops.any fun o => match o.guard with
  | some (i, _) => Nat.beq i j
  | none => false
def guardT (ops : List Oper) (o : Oper) : List Nat := match o.guard with
  | some (i, _) => ((ops[i]?).bind (·.dst)).toList
  | none => []

def inB (nt : Nat) : Option Nat → Bool
  | none => true
  | some d => Nat.blt d nt
def touchOf (st : St) (o : Oper) : List Id := idsL (evs st.tm o.op.operands.toList) ++ boxIds (idsL (evs st.tm o.op.operands.toList)) st.ob
def recOf (ops : List Oper) (j : Nat) (o : Oper) (touch : List Id) (d : Delta) : Rec :=
  ⟨j, o.dst, tmpsOf o.op.operands.toList ++ guardT ops o, touch, keys d.nw ++ (keys d.up ++ (keys d.up2 ++ d.dl)), keys d.nw, idsA d.v ++ (obIds d.nw ++ (obIds d.up ++ obIds d.up2)), d.nm || !disjI (keys d.nw) (obIds d.up)⟩
def runOps (E : Env) (nt : Nat) (call : FuncId → List Dat → Option (List Dat)) (ops : List Oper) (fin : List Rec → St → Option (List Dat)) :
    List Oper → Nat → List Rec → St → Option (List Dat)
  | [], _, rs, st => fin rs st
  | o :: rest, j, rs, st =>
    let exec : Option (List Dat) :=
      let touch := touchOf st o
      let look : Look := fun i => bif memId i touch then getO st.ob i else none
      match iop E call look st.tm o with
      | none => none
      | some r => bif inB nt o.dst && r.g then r.o.bind fun ds =>
          let d := r.f ds
          let st' := applyD st o.dst d
          let rc : Rec := recOf ops j o touch d
          bif guarded ops j then match d.v, o.dst with
            | .b t, some dt => bif t then runOps E nt call ops fin rest (j + 1) (rc :: rs) { st' with tm := putT st'.tm dt (.b true) }
                else runOps E nt call ops fin rest (j + 1) (rc :: rs) { st' with tm := putT st'.tm dt (.b false) }
            | _, _ => none
          else runOps E nt call ops fin rest (j + 1) (rc :: rs) st'
        else none
    let pass : Option (List Dat) := bif !inB nt o.dst then none else runOps E nt call ops fin rest (j + 1) (⟨j, o.dst, guardT ops o, [], [], [], [], false⟩ :: rs) (applyD st o.dst { v := .tup [] })
    match o.guard with
    | none => exec
    | some (i, want) => match (ops[i]?).bind (·.dst) with
      | none => none
      | some ti => match getT st.tm ti with
        | .b x => bif x == want then exec else pass
        | .tup [] => pass
        | _ => none

/-! ## The whole -/
def keysR : List (Id × Obj) → List Id := keys
def dedup : List Id → List Id → List Id
  | [], acc => acc
  | o :: r, acc => bif memId o acc then dedup r acc else dedup r (acc ++ [o])
def fresh : Obj → Obj
  | .row e rows deep _ h => .row e rows deep 0 h
  | .box t cs => .box t cs
mutual
def strip : AV → AV
  | .nest _ _ _ _ e _ rows => .ro e true rows
  | .agg cs => .agg (stripL cs)
  | .tup cs => .tup (stripL cs)
  | v => v
def stripL : List AV → List AV
  | [] => []
  | v :: r => strip v :: stripL r
end
def freshO : Obj → Obj
  | .row e rows deep _ h => .row e rows deep 0 h
  | .box t cs => .box t (stripL cs)
def pickObs (ob : List (Id × Obj)) : List Id → List (Id × Obj)
  | [] => []
  | o :: r => (match getO ob o with
    | some x => [(o, freshO x)]
    | none => []) ++ pickObs ob r
def pickTm (tm : List (Nat × AV)) : List Nat → List (Nat × AV)
  | [] => []
  | t :: r => (t, strip (getT tm t)) :: pickTm tm r
/- ids at a loop's head: told anew, in order -/
def isPar (o : Id) : Bool := Nat.ble 1000000 o.1
def renum : Nat → List Id → List (Id × Id)
  | _, [] => []
  | n, o :: r => (o, bif isPar o then o else (500000 + n, 0)) :: renum (n + 1) r
def newId : List (Id × Id) → Id → Option Id
  | [], _ => none
  | (k, v) :: r, o => bif idEq k o then some v else newId r o
mutual
def renA (ρ : List (Id × Id)) : AV → AV
  | .own o => match newId ρ o with
    | some o' => .own o'
    | none => .dead
  | .vw o lo n => match newId ρ o with
    | some o' => .vw o' lo n
    | none => .dead
  | .ptr o r f => match newId ρ o with
    | some o' => .ptr o' r f
    | none => .dead
  | .nest _ _ _ _ e _ rows => .ro e true rows
  | .agg cs => .agg (renL ρ cs)
  | .tup cs => .tup (renL ρ cs)
  | v => v
def renL (ρ : List (Id × Id)) : List AV → List AV
  | [] => []
  | v :: r => renA ρ v :: renL ρ r
end
def renTm (ρ : List (Id × Id)) (tm : List (Nat × AV)) : List Nat → List (Nat × AV)
  | [] => []
  | t :: r => (t, renA ρ (getT tm t)) :: renTm ρ tm r
def renObj (ρ : List (Id × Id)) : Obj → Obj
  | .row e rows deep _ h => .row e rows deep 0 h
  | .box t cs => .box t (renL ρ cs)
def renOb (ρ : List (Id × Id)) (ob : List (Id × Obj)) : List (Id × Id) → List (Id × Obj)
  | [] => []
  | (o, o') :: r => match getO ob o with
    | some x => (o', renObj ρ x) :: renOb ρ ob r
    | none => renOb ρ ob r
def fsts : List (Id × Id) → List Id
  | [] => []
  | (o, _) :: r => o :: fsts r
def snds : List (Id × Id) → List Id
  | [] => []
  | (_, o) :: r => o :: snds r
/-- a parameter's object stays what it is, and nothing else becomes one -/
def parOk : List (Id × Id) → Bool
  | [] => true
  | (o, o') :: r => (idEq o o' || (!isPar o && !isPar o')) && parOk r
def keepIds (keep : List Nat) (st : St) : List Id :=
  let a := dedup (idsL (avsOf (pickTm st.tm keep))) []
  dedup (a ++ boxIds a st.ob) []
/-- At a loop's head: the named temporaries alone, the objects that they come to, and these told anew. -/
def clean2 (keep : List Nat) (st : St) : St :=
  let ρ := renum 0 (keepIds keep st)
  bif nodupId (fsts ρ) && (nodupId (snds ρ) && parOk ρ) then { tm := renTm ρ st.tm keep, ob := renOb ρ st.ob ρ } else { tm := [], ob := [] }

/-- At a loop's head: the named temporaries alone, and the objects that they come to. -/
def clean (keep : List Nat) (st : St) : St :=
  let tm := pickTm st.tm keep
  let a := dedup (idsL (avsOf tm)) []
  { tm := tm, ob := pickObs st.ob (dedup (a ++ boxIds a st.ob) []) }

def firstRegion : Code → Nat
  | .region id _ _ => id
  | .seq a _ => firstRegion a
  | .block _ c => firstRegion c
  | .loop c => firstRegion c
  | .cond _ _ _ => 1000
  | _ => 1001

/-- are two operations of a region whose order is open apart? -/
def disjN : List Nat → List Nat → Bool
  | [], _ => true
  | x :: r, l => !(l.any (Nat.beq x)) && disjN r l
def apart (x y : Rec) : Bool :=
  (match x.dst with
   | some d => !(y.reads.any (Nat.beq d)) && (match y.dst with
     | some d' => !(Nat.beq d d')
     | none => true)
   | none => true) &&
  ((match y.dst with
   | some d => !(x.reads.any (Nat.beq d))
   | none => true) &&
  (disjI x.writes (y.touch ++ y.writes) && (disjI y.writes x.touch && disjI y.nws x.vids)))
def after1 (acc : List (List Nat)) (o : Oper) : List Nat := o.after.toList.foldl (fun s e => bif Region.binds .any e then e.on :: (acc.getD e.on [] ++ s) else s) []
def befores : List Oper → List (List Nat) → List (List Nat)
  | [], acc => acc
  | o :: r, acc => befores r (acc ++ [after1 acc o])
def edgesOk : List Oper → Nat → Bool
  | [], _ => true
  | o :: r, j => o.after.toList.all (fun e => !Region.binds .any e || Nat.blt e.on j) && edgesOk r (j + 1)
def indepAll (bs : List (List Nat)) : List Rec → Bool
  | [] => true
  | x :: r => (r.all fun y => disjI x.nws (y.vids ++ y.writes) && ((bs.getD x.idx []).any (Nat.beq y.idx) || apart x y)) && indepAll bs r
/-- may the operations of this region come in any order? -/
def orderOk (ops : List Oper) (st : St) (rs : List Rec) : Bool :=
  edgesOk ops 0 && (rs.all (fun r => !r.nm && disjI r.nws (idsL (avsOf st.tm) ++ (obIds st.ob ++ keys st.ob))) && indepAll (befores ops []) rs)

def outDats (look : Look) : List Leaf → List AV → Option Givens
  | ls, vs => match gives look ls vs with
    | some g => bif g.deep && (nodupId g.ids && !(g.ids.any isPar)) then some g else none
    | none => none
def parDats (look : Look) (j : Nat) : Nat → List Leaf → Option (List Dat)
  | _, [] => some []
  | c, .sl e :: ls => match look (1000000 + j, c) with
    | some (.row e' rows true _ []) => bif Nat.beq e e' then (parDats look j (c + 1) ls).map (Dat.sl rows :: ·) else none
    | _ => none
  | c, _ :: ls => parDats look j (c + 1) ls
def resVal (E : Env) (st : St) : List ResultVar → Option (List AV)
  | [] => some []
  | .tmp t :: r => (resVal E st r).map (getT st.tm t :: ·)
  | .cell a ty :: r => match E.T ty, getT st.tm a with
    | some ti, .ptr o _ 0 => match getO st.ob o with
      | some (.box _ cs) => bif Nat.beq cs.length ti.ls.length then (resVal E st r).map (pack ti.agg cs :: ·) else none
      | _ => none
    | _, _ => none
def allSolid : List AV → Bool
  | [] => true
  | v :: r => solid v && allSolid r
def mkDats : List Leaf → List AV → Option (List Dat)
  | [], [] => some []
  | .sl e :: ls, .ro e' false r :: vs => bif Nat.beq e e' then (mkDats ls vs).map (Dat.sl r :: ·) else none
  | .sl _ :: _, _ => none
  | l :: ls, v :: vs => match toDat (fun _ => none) l v, mkDats ls vs with
    | some d, some ds => some (d :: ds)
    | _, _ => none
  | _, _ => none
def finish (E : Env) (f : FuncId) (fn : Func) (st : St) : Option (List Dat) :=
  match E.mode f with
  | .mk pt => match resVal E st fn.results.toList, E.T pt with
    | some [.ptr o 0 0], some ti => match getO st.ob o with
      | some (.box _ cells) => mkDats ti.ls cells
      | _ => none
    | _, _ => none
  | m => match lsOf E fn.resultTypes.toList, resVal E st fn.results.toList with
    | some rs, some vs => bif argsFit rs vs && allSolid vs then match m with
      | .inout pt => match E.T pt, getO st.ob (2000000, 0) with
        | some ti, some (.box _ cells) => match gives (getO st.ob) (joinLs rs ++ ti.ls) (flats vs ++ cells), outDats (getO st.ob) (joinLs rs) (flats vs) with
          | some g, some _ => bif g.deep && nodupId g.ids then some g.ds else none
          | _, _ => none
        | _, _ => none
      | .cur pt => match outDats (getO st.ob) (joinLs rs) (flats vs), E.T pt, getO st.ob (1000000, 0) with
        | some g, some ti, some (.box _ cells) => (mkDats ti.ls cells).map (g.ds ++ ·)
        | _, _, _ => none
      | .muts => match outDats (getO st.ob) (joinLs rs) (flats vs), lsOf E fn.params.toList with
        | some g, some ps => (parDats (getO st.ob) 0 0 (joinLs ps)).map (g.ds ++ ·)
        | _, _ => none
      | _ => match outDats (getO st.ob) (joinLs rs) (flats vs) with
        | some g => some g.ds
        | none => none
      else none
    | _, _ => none

def parAVs : Nat → List Leaf → List AV
  | _, [] => []
  | c, .sl _ :: ls => .own (1000000, c) :: parAVs (c + 1) ls
  | c, _ :: ls => .dead :: parAVs (c + 1) ls
def mutInit : Nat → List Leaf → List Dat → List AV
  | _, [], _ => []
  | c, .sl _ :: ls, ds => .own (1000000, c) :: mutInit (c + 1) ls ds.tail
  | c, l :: ls, ds => datAV false l (ds.headD default) :: mutInit (c + 1) ls ds.tail
def mutObjs : Nat → List Leaf → List Dat → List (Id × Obj)
  | _, [], _ => []
  | c, .sl e :: ls, ds => ((1000000, c), .row e (ds.headD default).rows true 0 []) :: mutObjs (c + 1) ls ds.tail
  | c, _ :: ls, ds => mutObjs (c + 1) ls ds.tail
def numbered : Nat → List AV → List (Nat × AV)
  | _, [] => []
  | i, v :: r => (i, v) :: numbered (i + 1) r
def init (E : Env) (f : FuncId) (fn : Func) (ds : List Dat) : Option St :=
  match E.mode f with
  | .muts => match lsOf E fn.params.toList with
    | some ps => some { tm := numbered 0 (packAll ps (mutInit 0 (joinLs ps) ds)), ob := mutObjs 0 (joinLs ps) ds }
    | none => none
  | .cur pt => match E.T pt, lsOf E (fn.params.toList.drop 1) with
    | some ti, some ps => some { tm := (0, .ptr (1000000, 0) 0 0) :: numbered 1 (packAll ps (datAVs false (joinLs ps) (ds.drop ti.ls.length))), ob := [((1000000, 0), .box pt (datAVs false ti.ls ds))] }
    | _, _ => none
  | .inout pt => match E.T pt, lsOf E (fn.params.toList.drop 1) with
    | some ti, some ps => some { tm := (0, .ptr (2000000, 0) 0 0) :: numbered 1 (packAll ps (datAVs false (joinLs ps) (ds.drop ti.ls.length))), ob := ((2000000, 0), .box pt (mutInit 0 ti.ls ds)) :: mutObjs 0 ti.ls ds }
    | _, _ => none
  | _ => match lsOf E fn.params.toList with
    | some ps => some { tm := numbered 0 (packAll ps (datAVs false (joinLs ps) ds)), ob := [] }
    | none => none

def runN (E : Env) (f : FuncId) (fn : Func) (again : List Item → St → Option (List Dat)) (call : FuncId → List Dat → Option (List Dat)) :
    Nat → List Item → St → Option (List Dat)
  | 0, _, _ => none
  | n + 1, items, st => match items with
    | [] => finish E f fn st
    | .code .ret :: _ => finish E f fn st
    | .code .skip :: r => runN E f fn again call n r st
    | .inBlock _ :: r => runN E f fn again call n r st
    | .code (.seq a b) :: r => runN E f fn again call n (.code a :: .code b :: r) st
    | .code (.cond c x y) :: r => match ev st.tm c with
      | .b t => bif t then runN E f fn again call n (.code x :: r) st else runN E f fn again call n (.code y :: r) st
      | _ => none
    | .code (.block id c) :: r => runN E f fn again call n (.code c :: .inBlock id :: r) st
    | .code (.loop c) :: r => again (.inLoop c :: r) (clean2 (E.keep f (firstRegion c)) st)
    | .inLoop c :: r => again (.inLoop c :: r) (clean2 (E.keep f (firstRegion c)) st)
    | .code (.exit id) :: r => match exitTo id r with
      | some r' => runN E f fn again call n r' st
      | none => none
    | .code (.region _ ops draw) :: r => runOps E fn.ntmps call ops.toList (fun rs st' => bif !draw || orderOk ops.toList st rs then runN E f fn again call n r st' else none) ops.toList 0 [] st
    | _ => none

def budget : Nat := 1000000
def level (E : Env) : Nat → (FuncId → List Dat → Option (List Dat)) × (FuncId → List Item → St → Option (List Dat))
  | 0 => (fun _ _ => none, fun _ _ _ => none)
  | k + 1 =>
    (fun f ds => match E.X f with
      | some g => g ds
      | none => match E.F f with
        | none => none
        | some fn => match fn.body, init E f fn ds with
          | some c, some st => runN E f fn ((level E k).2 f) (level E k).1 budget [.code c] st
          | _, _ => none,
     fun f items st => match E.F f, items with
      | some fn, .inLoop c :: r => runN E f fn ((level E k).2 f) (level E k).1 budget (.code c :: .inLoop c :: r) st
      | _, _ => none)
/-- A function's answer, with k rounds. -/
def icall (E : Env) (k : Nat) (f : FuncId) (ds : List Dat) : Option (List Dat) := (level E k).1 f ds
/-- A loop's answer, from its head on to the function's end. -/
def iloop (E : Env) (k : Nat) (f : FuncId) (items : List Item) (st : St) : Option (List Dat) := (level E k).2 f items st

end Go.Proofs.Ythjkpphjlmmkdaa.Vai
