/- The relation between a state of the interpreter and the machine; what keeps it; no condition. -/
import Derived.Test.YthjkpphjlmmkdaaVaiRel
namespace Go.Proofs.Ythjkpphjlmmkdaa.Vai
open Go

structure Gh where
  root : Id → Value
  top : Id → List Nat
  ins : Id → List Nat
  F : List Nat

/-- v is the window of n rows from row lo on of a slice of m rows whose value is root. -/
def Win (sz m : Nat) (root : Value) (lo n : Int) (v : Value) : Prop :=
  0 ≤ lo ∧ 0 ≤ n ∧ lo + n ≤ (m : Int) ∧ ∃ A' c', v = .slice A' n.toNat c' ∧ match root with
    | .slice none _ _ => A' = none ∧ c' = 0 ∧ m = 0
    | .slice (some ad) _ c => ∃ off', A' = some ⟨ad.block, off', none⟩ ∧ lo.toNat + c' = c ∧ n.toNat ≤ c' ∧ (c' = 0 ∨ off' = ad.off + lo.toNat * sz) ∧ off' + c' * sz ≤ ad.off + c * sz
    | _ => False

def isHole (holes : List (Int × Nat)) (j i : Nat) : Prop := ∃ r : Int, (r, i) ∈ holes ∧ r.toNat = j

/-- what holds of a pointer into object o -/
def PtrR (E : Env) (G : Gh) (ob : List (Id × Obj)) (o : Id) (row : Int) (off : Nat) (v : Value) : Prop :=
  (∀ t cells, getO ob o = some (.box t cells) → row = 0 ∧ ∃ g, G.root o = .pointer (some ⟨g, 0, none⟩) ∧ v = .pointer (some ⟨g, off, none⟩)) ∧
  (∀ e rows dp vr h te, getO ob o = some (.row e rows dp vr h) → E.T e = some te → 0 ≤ row ∧ row.toNat < rows.length ∧
    ∃ g o0 n c, G.root o = .slice (some ⟨g, o0, none⟩) n c ∧ v = .pointer (some ⟨g, o0 + (row.toNat * te.ls.length + off), none⟩))
/-- what holds of an alias of a part of a row -/
def NestR (E : Env) (w : World) (G : Gh) (ob : List (Id × Obj)) (o : Id) (ver : Nat) (row : Int) (col : Nat) (e : TypeId) (whole : Bool) (v : Value) : Prop :=
  (∀ eo rows dp vr h, getO ob o = some (.row eo rows dp vr h) → ver ≤ vr) ∧ ∀ eo rows vr h te, getO ob o = some (.row eo rows true vr h) → vr = ver → (∀ r, (r, col) ∉ h) → E.T eo = some te →
    0 ≤ row ∧ te.ls[col]? = some (.sl e) ∧ ∃ r g o0 n c x, rows[row.toNat]? = some r ∧ G.root o = .slice (some ⟨g, o0, none⟩) n c ∧
      w.cell? ⟨g, o0 + (row.toNat * te.ls.length + col), none⟩ = some x ∧
      (whole = true → v = x) ∧ ∃ lo n' te', E.T e = some te' ∧ Win te'.ls.length (r.getD col default).rows.length x lo n' v

inductive VR (E : Env) (w : World) (S0 : Nat → Prop) (G : Gh) (ob : List (Id × Obj)) : AV → Value → Prop
  | dead (v : Value) : VR E w S0 G ob .dead v
  | i (k : IntKind) (n : Int) : VR E w S0 G ob (.i k n) (.int k n)
  | b (x : Bool) : VR E w S0 G ob (.b x) (.bool x)
  | s (x : ByteArray) : VR E w S0 G ob (.s x) (.string x)
  | nil : VR E w S0 G ob .nil (.slice none 0 0)
  | agg (cs : List AV) (arr : Array Value) (hl : cs.length = arr.size) (h : ∀ (i : Nat) (v : AV) (x : Value), cs[i]? = some v → arr[i]? = some x → VR E w S0 G ob v x)
      (h1 : ∀ (i : Nat) (x : Value), arr[i]? = some x → oneV x) : VR E w S0 G ob (.agg cs) (.agg arr)
  | tup (vs : List AV) (arr : Array Value) (hl : vs.length = arr.size) (h : ∀ (i : Nat) (v : AV) (x : Value), vs[i]? = some v → arr[i]? = some x → VR E w S0 G ob v x) :
      VR E w S0 G ob (.tup vs) (.tuple arr)
  | ro (e : TypeId) (al : Bool) (rows : List (List Dat)) (v : Value) (h : RD E w (fun b => S0 b ∨ (al = true ∧ b ∈ G.F)) (.sl e) (.sl rows) v) : VR E w S0 G ob (.ro e al rows) v
  | own (o : Id) (v : Value) (h : ∀ e rows dp vr h, getO ob o = some (.row e rows dp vr h) → v = G.root o) (h1 : oneV v) : VR E w S0 G ob (.own o) v
  | vw (o : Id) (lo n : Int) (v : Value) (h : ∀ e rows dp vr h te, getO ob o = some (.row e rows dp vr h) → E.T e = some te → Win te.ls.length rows.length (G.root o) lo n v) (h1 : oneV v) :
      VR E w S0 G ob (.vw o lo n) v
  | nest (o : Id) (ver : Nat) (row : Int) (col : Nat) (e : TypeId) (whole : Bool) (rows : List (List Dat)) (v : Value)
      (h : RD E w (fun b => S0 b ∨ b ∈ G.F) (.sl e) (.sl rows) v) (hn : NestR E w G ob o ver row col e whole v) : VR E w S0 G ob (.nest o ver row col e whole rows) v
  | ptr (o : Id) (row : Int) (off : Nat) (v : Value) (h : PtrR E G ob o row off v) (h1 : oneV v) : VR E w S0 G ob (.ptr o row off) v
  | pro (e : TypeId) (te : TI) (al : Bool) (cells : List Dat) (off g o0 : Nat) (u : Nat → Value) (ht : E.T e = some te) (hl : cells.length = te.ls.length)
      (hm : ∀ i, i < te.ls.length → (S0 g ∨ (al = true ∧ g ∈ G.F)) ∧ w.cell? ⟨g, o0 + i, none⟩ = some (u i))
      (hr : ∀ (i : Nat) (l : Leaf), te.ls[i]? = some l → RD E w (fun b => S0 b ∨ (al = true ∧ b ∈ G.F)) l (cells.getD i default) (u i)) :
      VR E w S0 G ob (.pro e al cells off) (.pointer (some ⟨g, o0 + off, none⟩))

/-- what an object is in memory -/
def RowR (E : Env) (w : World) (S : Nat → Prop) (e : TypeId) (rows : List (List Dat)) (deep : Bool) (holes : List (Int × Nat)) (root : Value) (top ins : List Nat) : Prop :=
  ∃ te, E.T e = some te ∧ (∀ (j : Nat) (r : List Dat), rows[j]? = some r → r.length = te.ls.length) ∧
    ((root = .slice none 0 0 ∧ rows = [] ∧ top = [] ∧ ins = []) ∨
     ∃ (g off c : Nat) (arr : Array Value) (u : Nat → Nat → Value) (bs : Nat → Nat → List Nat),
      root = .slice (some ⟨g, off, none⟩) rows.length c ∧ top = [g] ∧ w.heap[g]? = some (.cells arr e (0, 0)) ∧ rows.length ≤ c ∧ off + c * te.ls.length ≤ arr.size ∧
      (∀ j i : Nat, j < rows.length → i < te.ls.length → arr[off + (j * te.ls.length + i)]? = some (u j i) ∧ oneV (u j i)) ∧
      (∀ (j i : Nat) (r : List Dat) (l : Leaf), rows[j]? = some r → te.ls[i]? = some l → ¬ isHole holes j i →
        if deep then OT E w l (r.getD i default) (u j i) (bs j i) else RD E w S l (r.getD i default) (u j i)) ∧
      (deep = true → ins = flatB bs rows.length te.ls.length) ∧ (deep = false → ins = []) ∧ (∀ j i, isHole holes j i → bs j i = []))
def BoxR (E : Env) (w : World) (S0 : Nat → Prop) (G : Gh) (ob : List (Id × Obj)) (cells : List AV) (root : Value) (top ins : List Nat) : Prop :=
  ∃ (g : Nat) (arr : Array Value) (et : TypeId), root = .pointer (some ⟨g, 0, none⟩) ∧ top = [g] ∧ ins = [] ∧ w.heap[g]? = some (.cells arr et (0, 0)) ∧ arr.size = cells.length ∧
    ∀ (i : Nat) (v : AV) (x : Value), cells[i]? = some v → arr[i]? = some x → VR E w S0 G ob v x ∧ oneV x
def ObjR (E : Env) (w : World) (S0 : Nat → Prop) (G : Gh) (ob : List (Id × Obj)) (o : Id) : Obj → Prop
  | .row e rows deep _ holes => RowR E w (fun b => S0 b ∨ b ∈ G.F) e rows deep holes (G.root o) (G.top o) (G.ins o)
  | .box _ cells => BoxR E w S0 G ob cells (G.root o) (G.top o) (G.ins o)

/-- what the machine's world keeps since the call began -/
structure Kept (base : Nat) (M : List Nat) (w0 w : World) : Prop where
  size : base ≤ w.heap.size
  heap : ∀ b, b < base → b ∉ M → w.heap[b]? = w0.heap[b]?
  os : w.os = w0.os
  tape : w.tape = w0.tape
  output : w.output = w0.output

structure RelG (E : Env) (base : Nat) (M : List Nat) (S0 : Nat → Prop) (R0 : Id → Value) (w0 : World) (nt : Nat) (G : Gh) (st : St) (a : Act) (w : World) : Prop where
  kept : Kept base M w0 w
  old : ∀ b, S0 b → b < base ∧ b ∉ M
  objs : ∀ o x, getO st.ob o = some x → ObjR E w S0 G st.ob o x
  tops : ∀ o x, getO st.ob o = some x → ∀ b ∈ G.top o, ¬ S0 b ∧ b ∉ G.F ∧ (base ≤ b ∨ b ∈ M)
  tops2 : ∀ o x o' x', getO st.ob o = some x → getO st.ob o' = some x' → o ≠ o' → ∀ b ∈ G.top o, b ∉ G.top o'
  ins : ∀ o x, getO st.ob o = some x → (∀ b ∈ G.ins o, b ∈ G.F) ∧ (G.ins o).Nodup
  ins2 : ∀ o x o' x', getO st.ob o = some x → getO st.ob o' = some x' → o ≠ o' → ∀ b ∈ G.ins o, b ∉ G.ins o'
  F : ∀ b ∈ G.F, ¬ S0 b ∧ (base ≤ b ∨ b ∈ M) ∧ b < w.heap.size
  tmps : ∀ t, VR E w S0 G st.ob (getT st.tm t) (a.tmps.getD t undef)
  defers : a.defers = []
  size : a.tmps.size = nt
  par : ∀ o x, isPar o = true → getO st.ob o = some x → G.root o = R0 o
def Rel (E : Env) (base : Nat) (M : List Nat) (S0 : Nat → Prop) (R0 : Id → Value) (w0 : World) (nt : Nat) (st : St) (a : Act) (w : World) : Prop := ∃ G, RelG E base M S0 R0 w0 nt G st a w

/-! ## finding in lists -/
theorem beqF {a b : Nat} (h : ¬ a = b) : Nat.beq a b = false := by
  cases hb : Nat.beq a b with
  | false => rfl
  | true => exact absurd (Nat.eq_of_beq_eq_true hb) h
theorem beqT {a b : Nat} (h : Nat.beq a b = true) : a = b := Nat.eq_of_beq_eq_true h
theorem idEq_iff {a b : Id} : idEq a b = true ↔ a = b := by
  obtain ⟨a1, a2⟩ := a
  obtain ⟨b1, b2⟩ := b
  simp [idEq, Nat.beq_eq]
theorem idEq_false {a b : Id} : idEq a b = false ↔ a ≠ b := by rw [← Bool.not_eq_true, idEq_iff]
theorem getT_putT (l : List (Nat × AV)) (t t' : Nat) (v : AV) : getT (putT l t v) t' = if t' = t then v else getT l t' := by
  induction l with
  | nil =>
    simp only [putT, getT]
    by_cases h : t' = t
    · subst h; simp [Nat.beq_refl]
    · have : Nat.beq t t' = false := beqF fun e => h e.symm
      simp [this, h]
  | cons p l ih =>
    obtain ⟨k, u⟩ := p
    simp only [putT]
    by_cases hk : Nat.beq k t = true
    · have hk' := Nat.eq_of_beq_eq_true hk
      subst hk'
      simp only [hk, cond_true, getT]
      by_cases h : t' = k
      · subst h; simp [Nat.beq_refl]
      · have : Nat.beq k t' = false := beqF fun e => h e.symm
        simp [this, h]
    · have hk0 : Nat.beq k t = false := (Bool.not_eq_true _).mp hk
      simp only [hk0, cond_false, getT]
      by_cases h : Nat.beq k t' = true
      · have h' := Nat.eq_of_beq_eq_true h
        subst h'
        have hne : ¬ k = t := by simpa using hk
        simp [hne]
      · have h0 : Nat.beq k t' = false := (Bool.not_eq_true _).mp h
        simp only [h0, cond_false]
        exact ih
theorem getO_delO (l : List (Id × Obj)) (o o' : Id) : getO (delO l o) o' = if o' = o then none else getO l o' := by
  induction l with
  | nil => simp [delO, getO]
  | cons p l ih =>
    obtain ⟨k, u⟩ := p
    simp only [delO]
    by_cases hk : idEq k o = true
    · have hk' := idEq_iff.mp hk
      subst hk'
      simp only [hk, cond_true, ih, getO]
      by_cases h : o' = k
      · simp [h]
      · have : idEq k o' = false := idEq_false.mpr fun e => h e.symm
        simp [h, this]
    · have hk0 : idEq k o = false := by simpa using hk
      simp only [hk0, cond_false, getO]
      by_cases h : idEq k o' = true
      · have h' := idEq_iff.mp h
        subst h'
        have hne : ¬ k = o := by rw [← idEq_iff]; exact hk
        simp [h, hne]
      · have h0 : idEq k o' = false := by simpa using h
        simp only [h0, cond_false]
        exact ih
theorem getO_setO (l : List (Id × Obj)) (o o' : Id) (x : Obj) : getO (setO l o x) o' = if o' = o then some x else getO l o' := by
  induction l with
  | nil =>
    simp only [setO, getO]
    by_cases h : o' = o
    · subst h; simp [idEq_iff.mpr rfl]
    · have : idEq o o' = false := idEq_false.mpr fun e => h e.symm
      simp [h, this]
  | cons p l ih =>
    obtain ⟨k, u⟩ := p
    simp only [setO]
    by_cases hk : idEq k o = true
    · have hk' := idEq_iff.mp hk
      subst hk'
      simp only [hk, cond_true, getO]
      by_cases h : o' = k
      · subst h; simp [idEq_iff.mpr rfl]
      · have : idEq k o' = false := idEq_false.mpr fun e => h e.symm
        simp [h, this]
    · have hk0 : idEq k o = false := by simpa using hk
      simp only [hk0, cond_false, getO]
      by_cases h : idEq k o' = true
      · have h' := idEq_iff.mp h
        subst h'
        have hne : ¬ k = o := by rw [← idEq_iff]; exact hk
        simp [h, hne]
      · have h0 : idEq k o' = false := by simpa using h
        simp only [h0, cond_false]
        exact ih

end Go.Proofs.Ythjkpphjlmmkdaa.Vai
