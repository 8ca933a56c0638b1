/- What the interpreter's data say of the machine's memory: reading, owning; and what keeps it; no condition. -/
import Derived.Test.YthjkpphjlmmkdaaVaiDef
namespace Go.Proofs.Ythjkpphjlmmkdaa.Vai
open Go

/-! ## The table of types fits the program -/
def zeroV : Leaf → Value
  | .int k => .int k 0
  | .bool => .bool false
  | .str => .string ⟨#[]⟩
  | .sl _ => .slice none 0 0
def descOf : Leaf → TypeDesc
  | .int k => .int k
  | .bool => .bool
  | .str => .string
  | .sl e => .slice e
structure TOk (P : Program) (E : Env) (t : TypeId) (ti : TI) : Prop where
  info : ∃ i, P.info? t = some i ∧ i.size = ti.ls.length ∧ i.bytes = ti.by_ ∧
    i.zero = some (if ti.agg then .agg (ti.ls.map zeroV).toArray else zeroV (ti.ls.headD .bool))
  desc : if ti.agg then ∃ fields : Array Field, P.underlying t = some (.struct fields) ∧ fields.toList.map (fun f => (f.offset, f.type)) = ti.fs
    else ∃ l, ti.ls = [l] ∧ P.underlying t = some (descOf l)
  pos : 0 < ti.ls.length ∧ 0 < ti.by_
  elem : ∀ e, Leaf.sl e ∈ ti.ls → ∃ te, E.T e = some te
  fld : ∀ (f fo : Nat) (ft : TypeId), ti.fs[f]? = some (fo, ft) → ∃ fi, E.T ft = some fi ∧ fo + fi.ls.length ≤ ti.ls.length

/-! ## Lists of blocks -/
def flatB (bs : Nat → Nat → List Nat) (n sz : Nat) : List Nat := (List.range n).flatMap fun j => (List.range sz).flatMap fun i => bs j i
theorem mem_flatB {bs : Nat → Nat → List Nat} {n sz b : Nat} : b ∈ flatB bs n sz ↔ ∃ j i, j < n ∧ i < sz ∧ b ∈ bs j i := by
  simp only [flatB, List.mem_flatMap, List.mem_range]
  constructor
  · rintro ⟨j, hj, i, hi, h⟩; exact ⟨j, i, hj, hi, h⟩
  · rintro ⟨j, i, hj, hi, h⟩; exact ⟨j, hj, i, hi, h⟩

/-! ## Reading -/
inductive RD (E : Env) (w : World) (S : Nat → Prop) : Leaf → Dat → Value → Prop
  | int (k : IntKind) (d : Dat) : RD E w S (.int k) d (.int k d.n)
  | bool (d : Dat) : RD E w S .bool d (.bool d.b)
  | str (d : Dat) : RD E w S .str d (.string d.s)
  | sl (e : TypeId) (te : TI) (d : Dat) (A : Option Addr) (c : Nat) (u : Nat → Nat → Value) (ht : E.T e = some te) (hc : d.rows.length ≤ c)
      (hl : ∀ (j : Nat) (r : List Dat), d.rows[j]? = some r → r.length = te.ls.length)
      (hm : ∀ j i : Nat, j < d.rows.length → i < te.ls.length → ∃ ad : Addr, A = some ad ∧ ad.spot = none ∧ S ad.block ∧
        w.cell? ⟨ad.block, ad.off + (j * te.ls.length + i), none⟩ = some (u j i))
      (hr : ∀ (j i : Nat) (r : List Dat) (l : Leaf), d.rows[j]? = some r → te.ls[i]? = some l → RD E w S l (r.getD i default) (u j i)) :
      RD E w S (.sl e) d (.slice A d.rows.length c)

theorem cell_same {w w' : World} {a : Addr} (h : w'.heap[a.block]? = w.heap[a.block]?) : w'.cell? a = w.cell? a := by
  unfold World.cell?
  rw [h]
theorem frozen_same {w w' : World} {a : Addr} (h : w'.heap[a.block]? = w.heap[a.block]?) : w'.frozen? a = w.frozen? a := by
  unfold World.frozen?
  rw [h]

theorem RD.frame {E : Env} {w w' : World} {S S' : Nat → Prop} {l : Leaf} {d : Dat} {v : Value} (h : RD E w S l d v)
    (hw : ∀ b, S b → w'.heap[b]? = w.heap[b]?) (hS : ∀ b, S b → S' b) : RD E w' S' l d v := by
  induction h with
  | int k d => exact .int k d
  | bool d => exact .bool d
  | str d => exact .str d
  | sl e te d A c u ht hc hl hm hr ih =>
    refine .sl e te d A c u ht hc hl (fun j i hj hi => ?_) (fun j i r l h1 h2 => ih j i r l h1 h2)
    obtain ⟨ad, h1, h2, h3, h4⟩ := hm j i hj hi
    exact ⟨ad, h1, h2, hS _ h3, (cell_same (a := ⟨ad.block, ad.off + (j * te.ls.length + i), none⟩) (hw _ h3)).trans h4⟩
theorem RD.mono {E : Env} {w : World} {S S' : Nat → Prop} {l : Leaf} {d : Dat} {v : Value} (h : RD E w S l d v) (hS : ∀ b, S b → S' b) : RD E w S' l d v :=
  h.frame (fun _ _ => rfl) hS

/-- A value of one cell. -/
def oneV (v : Value) : Prop := (∀ cs, v ≠ .agg cs) ∧ ∀ vs, v ≠ .tuple vs
theorem one_cells {v : Value} (h : oneV v) : v.cells = #[v] := by
  cases v <;> first | rfl | exact absurd rfl (h.1 _)
theorem RD.one {E : Env} {w : World} {S : Nat → Prop} {l : Leaf} {d : Dat} {v : Value} (h : RD E w S l d v) : oneV v := by
  cases h <;> exact ⟨(fun _ h => by cases h), (fun _ h => by cases h)⟩
/-- Only the rows' data count. -/
theorem RD.sl_dat {E : Env} {w : World} {S : Nat → Prop} {e : TypeId} {d d' : Dat} {v : Value} (h : RD E w S (.sl e) d v) (hd : d'.rows = d.rows) : RD E w S (.sl e) d' v := by
  cases h with
  | sl _ te _ A c u ht hc hl hm hr => rw [← hd]; exact .sl e te d' A c u ht (hd ▸ hc) (hd ▸ hl) (hd ▸ hm) (hd ▸ hr)
theorem RD.dat {E : Env} {w : World} {S : Nat → Prop} {l : Leaf} {d d' : Dat} {v : Value} (h : RD E w S l d v)
    (hd : d'.n = d.n ∧ d'.b = d.b ∧ d'.s = d.s ∧ d'.rows = d.rows) : RD E w S l d' v := by
  obtain ⟨h1, h2, h3, h4⟩ := hd
  cases h with
  | int k d => rw [← h1]; exact .int k d'
  | bool d => rw [← h2]; exact .bool d'
  | str d => rw [← h3]; exact .str d'
  | sl e te _ A c u ht hc hl hm hr => exact RD.sl_dat (.sl e te _ A c u ht hc hl hm hr) h4

/-! ## Owning -/
inductive OT (E : Env) (w : World) : Leaf → Dat → Value → List Nat → Prop
  | int (k : IntKind) (d : Dat) : OT E w (.int k) d (.int k d.n) []
  | bool (d : Dat) : OT E w .bool d (.bool d.b) []
  | str (d : Dat) : OT E w .str d (.string d.s) []
  | nil (e : TypeId) (te : TI) (d : Dat) (ht : E.T e = some te) (h : d.rows = []) : OT E w (.sl e) d (.slice none 0 0) []
  | row (e : TypeId) (te : TI) (d : Dat) (g off c : Nat) (arr : Array Value) (u : Nat → Nat → Value) (bs : Nat → Nat → List Nat) (ht : E.T e = some te)
      (hb : w.heap[g]? = some (.cells arr e (0, 0))) (hc : d.rows.length ≤ c) (hs : off + c * te.ls.length ≤ arr.size)
      (hl : ∀ (j : Nat) (r : List Dat), d.rows[j]? = some r → r.length = te.ls.length)
      (hm : ∀ j i : Nat, j < d.rows.length → i < te.ls.length → arr[off + (j * te.ls.length + i)]? = some (u j i))
      (hr : ∀ (j i : Nat) (r : List Dat) (l : Leaf), d.rows[j]? = some r → te.ls[i]? = some l → OT E w l (r.getD i default) (u j i) (bs j i)) :
      OT E w (.sl e) d (.slice (some ⟨g, off, none⟩) d.rows.length c) (g :: flatB bs d.rows.length te.ls.length)

theorem OT.frame {E : Env} {w w' : World} {l : Leaf} {d : Dat} {v : Value} {bs : List Nat} (h : OT E w l d v bs)
    (hw : ∀ b ∈ bs, w'.heap[b]? = w.heap[b]?) : OT E w' l d v bs := by
  induction h with
  | int k d => exact .int k d
  | bool d => exact .bool d
  | str d => exact .str d
  | nil e te d ht h => exact .nil e te d ht h
  | row e te d g off c arr u bs ht hb hc hs hl hm hr ih =>
    refine .row e te d g off c arr u bs ht ((hw g (by simp)).trans hb) hc hs hl hm (fun j i r l h1 h2 => ih j i r l h1 h2 (fun b hb' => hw b ?_))
    have hj : j < d.rows.length := (List.getElem?_eq_some_iff.mp h1).1
    have hi : i < te.ls.length := (List.getElem?_eq_some_iff.mp h2).1
    exact List.mem_cons_of_mem _ (mem_flatB.mpr ⟨j, i, hj, hi, hb'⟩)
theorem OT.rd {E : Env} {w : World} {S : Nat → Prop} {l : Leaf} {d : Dat} {v : Value} {bs : List Nat} (h : OT E w l d v bs) (hS : ∀ b ∈ bs, S b) : RD E w S l d v := by
  induction h with
  | int k d => exact .int k d
  | bool d => exact .bool d
  | str d => exact .str d
  | nil e te d ht h =>
    have hn : (0 : Nat) = d.rows.length := by rw [h]; rfl
    have := RD.sl (E := E) (w := w) (S := S) e te d none 0 (fun _ _ => undef) ht (by omega) (by rw [h]; intro j r hj; simp at hj) (fun j i hj => by omega) (by rw [h]; intro j i r l hj; simp at hj)
    rw [← hn] at this
    exact this
  | row e te d g off c arr u bs ht hb hc hs hl hm hr ih =>
    refine .sl e te d _ c u ht hc hl (fun j i hj hi => ⟨⟨g, off, none⟩, rfl, rfl, hS g (by simp), ?_⟩) (fun j i r l h1 h2 => ih j i r l h1 h2 (fun b hb' => hS b ?_))
    · simp only [World.cell?, hb]
      simpa using hm j i hj hi
    · exact List.mem_cons_of_mem _ (mem_flatB.mpr ⟨j, i, (List.getElem?_eq_some_iff.mp h1).1, (List.getElem?_eq_some_iff.mp h2).1, hb'⟩)
theorem OT.lt {E : Env} {w : World} {l : Leaf} {d : Dat} {v : Value} {bs : List Nat} (h : OT E w l d v bs) : ∀ b ∈ bs, b < w.heap.size := by
  induction h with
  | int k d => intro b hb; cases hb
  | bool d => intro b hb; cases hb
  | str d => intro b hb; cases hb
  | nil e te d ht h => intro b hb; cases hb
  | row e te d g off c arr u bs ht hb hc hs hl hm hr ih =>
    intro b hb'
    rcases List.mem_cons.mp hb' with rfl | hb'
    · exact (Array.getElem?_eq_some_iff.mp hb).1
    · obtain ⟨j, i, hj, hi, hm'⟩ := mem_flatB.mp hb'
      exact ih j i _ _ (List.getElem?_eq_getElem hj) (List.getElem?_eq_getElem hi) b hm'
theorem OT.one {E : Env} {w : World} {l : Leaf} {d : Dat} {v : Value} {bs : List Nat} (h : OT E w l d v bs) : oneV v := by
  cases h <;> exact ⟨(fun _ h => by cases h), (fun _ h => by cases h)⟩
theorem OT.sl_dat {E : Env} {w : World} {e : TypeId} {d d' : Dat} {v : Value} {bs : List Nat} (h : OT E w (.sl e) d v bs) (h4 : d'.rows = d.rows) : OT E w (.sl e) d' v bs := by
  cases h with
  | nil _ te d ht h => exact .nil e te d' ht (h4.trans h)
  | row _ te d g off c arr u bs ht hb hc hs hl hm hr =>
    rw [← h4]
    exact .row e te d' g off c arr u bs ht hb (h4 ▸ hc) hs (h4 ▸ hl) (h4 ▸ hm) (h4 ▸ hr)
theorem OT.dat {E : Env} {w : World} {l : Leaf} {d d' : Dat} {v : Value} {bs : List Nat} (h : OT E w l d v bs)
    (hd : d'.n = d.n ∧ d'.b = d.b ∧ d'.s = d.s ∧ d'.rows = d.rows) : OT E w l d' v bs := by
  obtain ⟨h1, h2, h3, h4⟩ := hd
  cases h with
  | int k d => rw [← h1]; exact .int k d'
  | bool d => rw [← h2]; exact .bool d'
  | str d => rw [← h3]; exact .str d'
  | nil e te d ht h => exact .nil e te d' ht (h4.trans h)
  | row e te d g off c arr u bs ht hb hc hs hl hm hr =>
    rw [← h4]
    exact .row e te d' g off c arr u bs ht hb (h4 ▸ hc) hs (h4 ▸ hl) (h4 ▸ hm) (h4 ▸ hr)

end Go.Proofs.Ythjkpphjlmmkdaa.Vai
