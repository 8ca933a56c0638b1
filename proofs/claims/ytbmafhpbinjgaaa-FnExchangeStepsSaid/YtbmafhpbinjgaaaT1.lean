/- Named data: rows, pairs, groups, clients, tasks, sorters and the like, their cells, sizes and marks; no condition. -/
import Derived.Test.YtbmafhpbinjgaaaT0
namespace Go.Proofs.Ytbmafhpbinjgaaa.Vai
open Go
set_option linter.unusedSimpArgs false
set_option linter.unusedVariables false
set_option linter.unnecessarySimpa false
def intE (n : Int) : List Dat := [.int n]
def boE (b : Bool) : List Dat := [.bool b]
def stE (s : ByteArray) : List Dat := [.str s]
def c1 {α : Type} (_ : α) : Nat := 1
def mkI (_ : Int) (k : Int) : Int := k
def mkB (_ : Bool) (k : Int) : Bool := eqI (Int.tmod k 3) 0
structure Rw where
  k : Int
  v : Int
  w : Int
  deriving DecidableEq
def Rw.e (x : Rw) : List Dat := [.int x.k, .int x.v, .int x.w]
def Rw.bd (x : Rw) : Prop := I64 x.k ∧ I64 x.v ∧ I64 x.w
def Rw.mkm (_x : Rw) (k : Int) : Rw := ⟨k, k + 1, k + 1 + 1⟩
def Rw.ct (_x : Rw) : Nat := 1 + 1 + 1
def rsB (l : List Rw) : Prop := BdL Rw.bd l
def rsE (l : List Rw) : List Dat := [.sl (l.map Rw.e)]
structure Pr where
  l : Rw
  r : Rw
  m : Bool
  deriving DecidableEq
def Pr.e (x : Pr) : List Dat := [.int x.l.k, .int x.l.v, .int x.l.w, .int x.r.k, .int x.r.v, .int x.r.w, .bool x.m]
def Pr.bd (x : Pr) : Prop := Rw.bd x.l ∧ Rw.bd x.r ∧ BdT x.m
def Pr.mkm (_x : Pr) (k : Int) : Pr := ⟨⟨k, k + 1, k + 1 + 1⟩, ⟨k + 1 + 1 + 1, k + 1 + 1 + 1 + 1, k + 1 + 1 + 1 + 1 + 1⟩, eqI (Int.tmod (k + 1 + 1 + 1 + 1 + 1 + 1) 3) 0⟩
def Pr.ct (_x : Pr) : Nat := 1 + 1 + 1 + 1 + 1 + 1 + 1
structure Gr where
  key : Int
  cnt : Int
  sum : Int
  lo : Int
  hi : Int
  deriving DecidableEq
def Gr.e (x : Gr) : List Dat := [.int x.key, .int x.cnt, .int x.sum, .int x.lo, .int x.hi]
def Gr.bd (x : Gr) : Prop := I64 x.key ∧ I64 x.cnt ∧ I64 x.sum ∧ I64 x.lo ∧ I64 x.hi
def Gr.mkm (_x : Gr) (k : Int) : Gr := ⟨k, k + 1, k + 1 + 1, k + 1 + 1 + 1, k + 1 + 1 + 1 + 1⟩
def Gr.ct (_x : Gr) : Nat := 1 + 1 + 1 + 1 + 1
structure Cl where
  id : Int
  req : Int
  prio : Int
  deriving DecidableEq
def Cl.e (x : Cl) : List Dat := [.int x.id, .int x.req, .int x.prio]
def Cl.bd (x : Cl) : Prop := I64 x.id ∧ I64 x.req ∧ I64 x.prio
def Cl.mkm (_x : Cl) (k : Int) : Cl := ⟨k, k + 1, k + 1 + 1⟩
def Cl.ct (_x : Cl) : Nat := 1 + 1 + 1
structure Tk where
  kind : Int
  left : List Rw
  right : List Rw
  mat : List Bool
  level : Int
  deriving DecidableEq
def Tk.e (x : Tk) : List Dat := [.int x.kind, .sl (x.left.map Rw.e), .sl (x.right.map Rw.e), .sl (x.mat.map boE), .int x.level]
def Tk.sz (x : Tk) : Nat := x.left.length + (x.right.length + (x.mat.length))
def Tk.bd (x : Tk) : Prop := I64 x.kind ∧ BdL Rw.bd x.left ∧ BdL Rw.bd x.right ∧ BdL BdT x.mat ∧ I64 x.level
def Tk.mkm (x : Tk) (k : Int) : Tk := ⟨k, mkL Rw.mkm Rw.ct x.left (k + 1), mkL Rw.mkm Rw.ct x.right (k + 1 + (cntL Rw.ct x.left : Nat)), mkL mkB c1 x.mat (k + 1 + (cntL Rw.ct x.left : Nat) + (cntL Rw.ct x.right : Nat)), k + 1 + (cntL Rw.ct x.left : Nat) + (cntL Rw.ct x.right : Nat) + (cntL c1 x.mat : Nat)⟩
def Tk.ct (x : Tk) : Nat := 1 + cntL Rw.ct x.left + cntL Rw.ct x.right + cntL c1 x.mat + 1
structure Gt where
  rows : List Rw
  level : Int
  deriving DecidableEq
def Gt.e (x : Gt) : List Dat := [.sl (x.rows.map Rw.e), .int x.level]
def Gt.sz (x : Gt) : Nat := x.rows.length
def Gt.bd (x : Gt) : Prop := BdL Rw.bd x.rows ∧ I64 x.level
def Gt.mkm (x : Gt) (k : Int) : Gt := ⟨mkL Rw.mkm Rw.ct x.rows k, k + (cntL Rw.ct x.rows : Nat)⟩
def Gt.ct (x : Gt) : Nat := cntL Rw.ct x.rows + 1
structure So where
  inp : List Rw
  pos : Int
  heap : List Rw
  dfd : List Rw
  out : List Rw
  runs : List (List Rw)
  lp : Int
  rp : Int
  ph : Int
  wr : Int
  deriving DecidableEq
def So.e (x : So) : List Dat := [.sl (x.inp.map Rw.e), .int x.pos, .sl (x.heap.map Rw.e), .sl (x.dfd.map Rw.e), .sl (x.out.map Rw.e), .sl (x.runs.map rsE), .int x.lp, .int x.rp, .int x.ph, .int x.wr]
def So.sz (x : So) : Nat := x.inp.length + (x.heap.length + (x.dfd.length + (x.out.length + (szL List.length x.runs))))
def So.bd (x : So) : Prop := BdL Rw.bd x.inp ∧ I64 x.pos ∧ BdL Rw.bd x.heap ∧ BdL Rw.bd x.dfd ∧ BdL Rw.bd x.out ∧ BdL rsB x.runs ∧ I64 x.lp ∧ I64 x.rp ∧ I64 x.ph ∧ I64 x.wr
structure Jn where
  pend : List Tk
  wr : Int
  parts : Int
  deriving DecidableEq
def Jn.e (x : Jn) : List Dat := [.sl (x.pend.map Tk.e), .int x.wr, .int x.parts]
def Jn.sz (x : Jn) : Nat := szL Tk.sz x.pend
def Jn.bd (x : Jn) : Prop := BdL Tk.bd x.pend ∧ I64 x.wr ∧ I64 x.parts
structure Ag where
  pend : List Gt
  wr : Int
  early : Bool
  deriving DecidableEq
def Ag.e (x : Ag) : List Dat := [.sl (x.pend.map Gt.e), .int x.wr, .bool x.early]
def Ag.sz (x : Ag) : Nat := szL Gt.sz x.pend
def Ag.bd (x : Ag) : Prop := BdL Gt.bd x.pend ∧ I64 x.wr ∧ BdT x.early
structure Opr where
  kind : Int
  so : So
  jn : Jn
  ag : Ag
  deriving DecidableEq
def Opr.e (x : Opr) : List Dat := [.int x.kind, .sl (x.so.inp.map Rw.e), .int x.so.pos, .sl (x.so.heap.map Rw.e), .sl (x.so.dfd.map Rw.e), .sl (x.so.out.map Rw.e), .sl (x.so.runs.map rsE), .int x.so.lp, .int x.so.rp, .int x.so.ph, .int x.so.wr, .sl (x.jn.pend.map Tk.e), .int x.jn.wr, .int x.jn.parts, .sl (x.ag.pend.map Gt.e), .int x.ag.wr, .bool x.ag.early]
def Opr.sz (x : Opr) : Nat := So.sz x.so + (Jn.sz x.jn + (Ag.sz x.ag))
def Opr.bd (x : Opr) : Prop := I64 x.kind ∧ So.bd x.so ∧ Jn.bd x.jn ∧ Ag.bd x.ag
structure Ou where
  rows : List Rw
  pairs : List Pr
  groups : List Gr
  deriving DecidableEq
def Ou.e (x : Ou) : List Dat := [.sl (x.rows.map Rw.e), .sl (x.pairs.map Pr.e), .sl (x.groups.map Gr.e)]
def Ou.sz (x : Ou) : Nat := x.rows.length + (x.pairs.length + (x.groups.length))
def Ou.bd (x : Ou) : Prop := BdL Rw.bd x.rows ∧ BdL Pr.bd x.pairs ∧ BdL Gr.bd x.groups
structure Sl where
  id : Int
  op : Opr
  out : Ou
  done : Bool
  deriving DecidableEq
def Sl.e (x : Sl) : List Dat := [.int x.id, .int x.op.kind, .sl (x.op.so.inp.map Rw.e), .int x.op.so.pos, .sl (x.op.so.heap.map Rw.e), .sl (x.op.so.dfd.map Rw.e), .sl (x.op.so.out.map Rw.e), .sl (x.op.so.runs.map rsE), .int x.op.so.lp, .int x.op.so.rp, .int x.op.so.ph, .int x.op.so.wr, .sl (x.op.jn.pend.map Tk.e), .int x.op.jn.wr, .int x.op.jn.parts, .sl (x.op.ag.pend.map Gt.e), .int x.op.ag.wr, .bool x.op.ag.early, .sl (x.out.rows.map Rw.e), .sl (x.out.pairs.map Pr.e), .sl (x.out.groups.map Gr.e), .bool x.done]
def Sl.sz (x : Sl) : Nat := Opr.sz x.op + (Ou.sz x.out)
def Sl.bd (x : Sl) : Prop := I64 x.id ∧ Opr.bd x.op ∧ Ou.bd x.out ∧ BdT x.done
def Sl.mkm (x : Sl) (k : Int) : Sl := ⟨k, ⟨k + 1, ⟨mkL Rw.mkm Rw.ct x.op.so.inp (k + 1 + 1), k + 1 + 1 + (cntL Rw.ct x.op.so.inp : Nat), mkL Rw.mkm Rw.ct x.op.so.heap (k + 1 + 1 + (cntL Rw.ct x.op.so.inp : Nat) + 1), mkL Rw.mkm Rw.ct x.op.so.dfd (k + 1 + 1 + (cntL Rw.ct x.op.so.inp : Nat) + 1 + (cntL Rw.ct x.op.so.heap : Nat)), mkL Rw.mkm Rw.ct x.op.so.out (k + 1 + 1 + (cntL Rw.ct x.op.so.inp : Nat) + 1 + (cntL Rw.ct x.op.so.heap : Nat) + (cntL Rw.ct x.op.so.dfd : Nat)), mkL (mkL Rw.mkm Rw.ct) (cntL Rw.ct) x.op.so.runs (k + 1 + 1 + (cntL Rw.ct x.op.so.inp : Nat) + 1 + (cntL Rw.ct x.op.so.heap : Nat) + (cntL Rw.ct x.op.so.dfd : Nat) + (cntL Rw.ct x.op.so.out : Nat)), k + 1 + 1 + (cntL Rw.ct x.op.so.inp : Nat) + 1 + (cntL Rw.ct x.op.so.heap : Nat) + (cntL Rw.ct x.op.so.dfd : Nat) + (cntL Rw.ct x.op.so.out : Nat) + (cntL (cntL Rw.ct) x.op.so.runs : Nat), k + 1 + 1 + (cntL Rw.ct x.op.so.inp : Nat) + 1 + (cntL Rw.ct x.op.so.heap : Nat) + (cntL Rw.ct x.op.so.dfd : Nat) + (cntL Rw.ct x.op.so.out : Nat) + (cntL (cntL Rw.ct) x.op.so.runs : Nat) + 1, k + 1 + 1 + (cntL Rw.ct x.op.so.inp : Nat) + 1 + (cntL Rw.ct x.op.so.heap : Nat) + (cntL Rw.ct x.op.so.dfd : Nat) + (cntL Rw.ct x.op.so.out : Nat) + (cntL (cntL Rw.ct) x.op.so.runs : Nat) + 1 + 1, k + 1 + 1 + (cntL Rw.ct x.op.so.inp : Nat) + 1 + (cntL Rw.ct x.op.so.heap : Nat) + (cntL Rw.ct x.op.so.dfd : Nat) + (cntL Rw.ct x.op.so.out : Nat) + (cntL (cntL Rw.ct) x.op.so.runs : Nat) + 1 + 1 + 1⟩, ⟨mkL Tk.mkm Tk.ct x.op.jn.pend (k + 1 + 1 + (cntL Rw.ct x.op.so.inp : Nat) + 1 + (cntL Rw.ct x.op.so.heap : Nat) + (cntL Rw.ct x.op.so.dfd : Nat) + (cntL Rw.ct x.op.so.out : Nat) + (cntL (cntL Rw.ct) x.op.so.runs : Nat) + 1 + 1 + 1 + 1), k + 1 + 1 + (cntL Rw.ct x.op.so.inp : Nat) + 1 + (cntL Rw.ct x.op.so.heap : Nat) + (cntL Rw.ct x.op.so.dfd : Nat) + (cntL Rw.ct x.op.so.out : Nat) + (cntL (cntL Rw.ct) x.op.so.runs : Nat) + 1 + 1 + 1 + 1 + (cntL Tk.ct x.op.jn.pend : Nat), k + 1 + 1 + (cntL Rw.ct x.op.so.inp : Nat) + 1 + (cntL Rw.ct x.op.so.heap : Nat) + (cntL Rw.ct x.op.so.dfd : Nat) + (cntL Rw.ct x.op.so.out : Nat) + (cntL (cntL Rw.ct) x.op.so.runs : Nat) + 1 + 1 + 1 + 1 + (cntL Tk.ct x.op.jn.pend : Nat) + 1⟩, ⟨mkL Gt.mkm Gt.ct x.op.ag.pend (k + 1 + 1 + (cntL Rw.ct x.op.so.inp : Nat) + 1 + (cntL Rw.ct x.op.so.heap : Nat) + (cntL Rw.ct x.op.so.dfd : Nat) + (cntL Rw.ct x.op.so.out : Nat) + (cntL (cntL Rw.ct) x.op.so.runs : Nat) + 1 + 1 + 1 + 1 + (cntL Tk.ct x.op.jn.pend : Nat) + 1 + 1), k + 1 + 1 + (cntL Rw.ct x.op.so.inp : Nat) + 1 + (cntL Rw.ct x.op.so.heap : Nat) + (cntL Rw.ct x.op.so.dfd : Nat) + (cntL Rw.ct x.op.so.out : Nat) + (cntL (cntL Rw.ct) x.op.so.runs : Nat) + 1 + 1 + 1 + 1 + (cntL Tk.ct x.op.jn.pend : Nat) + 1 + 1 + (cntL Gt.ct x.op.ag.pend : Nat), eqI (Int.tmod (k + 1 + 1 + (cntL Rw.ct x.op.so.inp : Nat) + 1 + (cntL Rw.ct x.op.so.heap : Nat) + (cntL Rw.ct x.op.so.dfd : Nat) + (cntL Rw.ct x.op.so.out : Nat) + (cntL (cntL Rw.ct) x.op.so.runs : Nat) + 1 + 1 + 1 + 1 + (cntL Tk.ct x.op.jn.pend : Nat) + 1 + 1 + (cntL Gt.ct x.op.ag.pend : Nat) + 1) 3) 0⟩⟩, ⟨mkL Rw.mkm Rw.ct x.out.rows (k + 1 + 1 + (cntL Rw.ct x.op.so.inp : Nat) + 1 + (cntL Rw.ct x.op.so.heap : Nat) + (cntL Rw.ct x.op.so.dfd : Nat) + (cntL Rw.ct x.op.so.out : Nat) + (cntL (cntL Rw.ct) x.op.so.runs : Nat) + 1 + 1 + 1 + 1 + (cntL Tk.ct x.op.jn.pend : Nat) + 1 + 1 + (cntL Gt.ct x.op.ag.pend : Nat) + 1 + 1), mkL Pr.mkm Pr.ct x.out.pairs (k + 1 + 1 + (cntL Rw.ct x.op.so.inp : Nat) + 1 + (cntL Rw.ct x.op.so.heap : Nat) + (cntL Rw.ct x.op.so.dfd : Nat) + (cntL Rw.ct x.op.so.out : Nat) + (cntL (cntL Rw.ct) x.op.so.runs : Nat) + 1 + 1 + 1 + 1 + (cntL Tk.ct x.op.jn.pend : Nat) + 1 + 1 + (cntL Gt.ct x.op.ag.pend : Nat) + 1 + 1 + (cntL Rw.ct x.out.rows : Nat)), mkL Gr.mkm Gr.ct x.out.groups (k + 1 + 1 + (cntL Rw.ct x.op.so.inp : Nat) + 1 + (cntL Rw.ct x.op.so.heap : Nat) + (cntL Rw.ct x.op.so.dfd : Nat) + (cntL Rw.ct x.op.so.out : Nat) + (cntL (cntL Rw.ct) x.op.so.runs : Nat) + 1 + 1 + 1 + 1 + (cntL Tk.ct x.op.jn.pend : Nat) + 1 + 1 + (cntL Gt.ct x.op.ag.pend : Nat) + 1 + 1 + (cntL Rw.ct x.out.rows : Nat) + (cntL Pr.ct x.out.pairs : Nat))⟩, eqI (Int.tmod (k + 1 + 1 + (cntL Rw.ct x.op.so.inp : Nat) + 1 + (cntL Rw.ct x.op.so.heap : Nat) + (cntL Rw.ct x.op.so.dfd : Nat) + (cntL Rw.ct x.op.so.out : Nat) + (cntL (cntL Rw.ct) x.op.so.runs : Nat) + 1 + 1 + 1 + 1 + (cntL Tk.ct x.op.jn.pend : Nat) + 1 + 1 + (cntL Gt.ct x.op.ag.pend : Nat) + 1 + 1 + (cntL Rw.ct x.out.rows : Nat) + (cntL Pr.ct x.out.pairs : Nat) + (cntL Gr.ct x.out.groups : Nat)) 3) 0⟩
def Sl.ct (x : Sl) : Nat := 1 + 1 + cntL Rw.ct x.op.so.inp + 1 + cntL Rw.ct x.op.so.heap + cntL Rw.ct x.op.so.dfd + cntL Rw.ct x.op.so.out + cntL (cntL Rw.ct) x.op.so.runs + 1 + 1 + 1 + 1 + cntL Tk.ct x.op.jn.pend + 1 + 1 + cntL Gt.ct x.op.ag.pend + 1 + 1 + cntL Rw.ct x.out.rows + cntL Pr.ct x.out.pairs + cntL Gr.ct x.out.groups + 1
structure Br where
  pool : Int
  next : Int
  act : List Cl
  wait : List Cl
  deriving DecidableEq
def Br.e (x : Br) : List Dat := [.int x.pool, .int x.next, .sl (x.act.map Cl.e), .sl (x.wait.map Cl.e)]
def Br.sz (x : Br) : Nat := x.act.length + (x.wait.length)
def Br.bd (x : Br) : Prop := I64 x.pool ∧ I64 x.next ∧ BdL Cl.bd x.act ∧ BdL Cl.bd x.wait
structure Sy where
  br : Br
  slots : List Sl
  round : Int
  deriving DecidableEq
def Sy.e (x : Sy) : List Dat := [.int x.br.pool, .int x.br.next, .sl (x.br.act.map Cl.e), .sl (x.br.wait.map Cl.e), .sl (x.slots.map Sl.e), .int x.round]
def Sy.sz (x : Sy) : Nat := Br.sz x.br + (szL Sl.sz x.slots)
def Sy.bd (x : Sy) : Prop := Br.bd x.br ∧ BdL Sl.bd x.slots ∧ I64 x.round
structure Xc where
  pend : List (List Rw)
  que : List (List Rw)
  got : List (List Rw)
  cap : Int
  deriving DecidableEq
def Xc.e (x : Xc) : List Dat := [.sl (x.pend.map rsE), .sl (x.que.map rsE), .sl (x.got.map rsE), .int x.cap]
def Xc.sz (x : Xc) : Nat := szL List.length x.pend + (szL List.length x.que + (szL List.length x.got))
def Xc.bd (x : Xc) : Prop := BdL rsB x.pend ∧ BdL rsB x.que ∧ BdL rsB x.got ∧ I64 x.cap
structure Ck where
  so : So
  em : List Rw
  deriving DecidableEq
def Ck.e (x : Ck) : List Dat := [.sl (x.so.inp.map Rw.e), .int x.so.pos, .sl (x.so.heap.map Rw.e), .sl (x.so.dfd.map Rw.e), .sl (x.so.out.map Rw.e), .sl (x.so.runs.map rsE), .int x.so.lp, .int x.so.rp, .int x.so.ph, .int x.so.wr, .sl (x.em.map Rw.e)]
def Ck.sz (x : Ck) : Nat := So.sz x.so + (x.em.length)
def Ck.bd (x : Ck) : Prop := So.bd x.so ∧ BdL Rw.bd x.em
theorem Rw.ct_le (a : Rw) : Rw.ct a ≤ 64 * (1 + 0) := by simp [Rw.ct]
end Go.Proofs.Ytbmafhpbinjgaaa.Vai
