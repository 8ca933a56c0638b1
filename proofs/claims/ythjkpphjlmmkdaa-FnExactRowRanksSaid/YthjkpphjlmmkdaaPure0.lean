/- Words for the proofs about loops and data; no condition. -/
import Derived.Test.YthjkpphjlmmkdaaVaiD
namespace Go.Proofs.Ythjkpphjlmmkdaa.Vai
open Go

theorem rows_sl (r : List (List Dat)) : Dat.rows (.sl r) = r := rfl
theorem n_int (n : Int) : Dat.n (.int n) = n := rfl
theorem b_bool (b : Bool) : Dat.b (.bool b) = b := rfl
theorem s_str (s : ByteArray) : Dat.s (.str s) = s := rfl
abbrev Rows := List (List Dat)
noncomputable def eqD {α : Type} (a b : α) : Bool := @decide (a = b) (Classical.propDecidable _)
theorem eqD_self {α : Type} (a : α) : eqD a a = true := by simp [eqD]
theorem eqD_iff {α : Type} {a b : α} : eqD a b = true ↔ a = b := by simp [eqD]
theorem eqD_false {α : Type} {a b : α} : eqD a b = false ↔ a ≠ b := by simp [eqD]
theorem wrapS {i : Nat} (h : i < 9223372036854775807) : IntKind.wrap .i64 ((i : Int) + 1) = ((i + 1 : Nat) : Int) := by
  rw [wrap64]
  · omega
  · constructor <;> omega
theorem lt_t {i n : Nat} (h : i < n) : ltI (i : Int) (n : Int) = true := by simpa [ltI] using h
theorem lt_f {i n : Nat} (h : n ≤ i) : ltI (i : Int) (n : Int) = false := by simpa [ltI] using h
theorem ge0 (i : Nat) : leI (0 : Int) (i : Int) = true := by simp [leI]
theorem ltT {a b : Int} (h : a < b) : ltI a b = true := by simpa [ltI] using h
theorem ltF {a b : Int} (h : b ≤ a) : ltI a b = false := by simpa [ltI] using h
theorem leT {a b : Int} (h : a ≤ b) : leI a b = true := by simpa [leI] using h
theorem leF {a b : Int} (h : b < a) : leI a b = false := by simpa [leI] using h
theorem eqT {a b : Int} (h : a = b) : eqI a b = true := by simpa [eqI] using h
theorem eqF {a b : Int} (h : a ≠ b) : eqI a b = false := by simpa [eqI] using h
theorem eqI_self (a : Int) : eqI a a = true := by simp [eqI]
theorem eqBo_self (a : Bool) : eqBo a a = true := by simp [eqBo]
theorem leNT {a b : Nat} (h : a ≤ b) : leN a b = true := by simpa [leN] using h
theorem all_loop {L : Int → Option (List Dat)} {n : Nat} {p : Nat → Bool} {no yes : Option (List Dat)} (hs : ∀ i : Nat, i < n → L i = bif p i then L (i + 1 : Nat) else no) (he : L n = yes) :
    ∀ (k i : Nat), i + k = n → L i = bif (List.range' i k).all p then yes else no
  | 0, i, h => by
    have : i = n := h
    subst this
    simpa using he
  | k + 1, i, h => by
    rw [hs i (by omega), all_loop hs he k (i + 1) (by omega)]
    simp only [List.range'_succ, List.all_cons]
    cases p i <;> rfl
theorem all_loop0 {L : Int → Option (List Dat)} {n : Nat} {p : Nat → Bool} {no yes : Option (List Dat)} (hs : ∀ i : Nat, i < n → L i = bif p i then L (i + 1 : Nat) else no) (he : L n = yes) :
    L 0 = bif (List.range n).all p then yes else no := by
  have := all_loop hs he n 0 (by omega)
  rw [List.range_eq_range']
  exact this
theorem list_eqD {α : Type} {a b : List α} (d : α) (h : a.length = b.length) : (List.range a.length).all (fun i => eqD (a.getD i d) (b.getD i d)) = eqD a b := by
  cases hb : eqD a b with
  | true =>
    rw [eqD_iff] at hb
    subst hb
    simp [eqD_self]
  | false =>
    rw [eqD_false] at hb
    rw [← Bool.not_eq_true]
    intro hh
    refine hb (List.ext_getElem h fun i h1 h2 => ?_)
    have := List.all_eq_true.mp hh i (by simpa using h1)
    rw [eqD_iff] at this
    simpa [List.getD_eq_getElem?_getD, h1, h2] using this
/-- a round that goes on with a state -/
theorem fold_loop {σ : Type} {L : Int → σ → Option (List Dat)} {n : Nat} {f : Nat → σ → σ} {I : Nat → σ → Prop} {out : σ → Option (List Dat)} (hs : ∀ (i : Nat) (s : σ), i < n → I i s → I (i + 1) (f i s) ∧ L i s = L (i + 1 : Nat) (f i s)) (he : ∀ s, I n s → L n s = out s) :
    ∀ (k i : Nat) (s : σ), i + k = n → I i s → I n ((List.range' i k).foldl (fun s i => f i s) s) ∧ L i s = out ((List.range' i k).foldl (fun s i => f i s) s)
  | 0, i, s, h, hi => by
    have : i = n := h
    subst this
    exact ⟨hi, he s hi⟩
  | k + 1, i, s, h, hi => by
    obtain ⟨h1, h2⟩ := hs i s (by omega) hi
    rw [h2]
    simp only [List.range'_succ, List.foldl_cons]
    exact fold_loop hs he k (i + 1) (f i s) (by omega) h1
theorem bind_some' {a : List Dat} {f : List Dat → Option (List Dat)} : (some a).bind f = f a := rfl
theorem getD_at {α : Type} {l : List α} {i : Nat} {d : α} (h : i < l.length) : l.getD i d = l[i] := by simp [List.getD_eq_getElem?_getD, h]
theorem getD_mem {α : Type} {l : List α} {i : Nat} {d : α} (h : i < l.length) : l.getD i d ∈ l := by rw [getD_at h]; exact List.getElem_mem h

/-! rows -/
def RowD (r : List Dat) : Prop := ∃ k v w, r = [.int k, .int v, .int w] ∧ I64 k ∧ I64 v ∧ I64 w
def RowsD (l : Rows) : Prop := ∀ r ∈ l, RowD r
def RowsS (r : List Dat) : Prop := ∃ l, r = [.sl l] ∧ RowsD l
def RowsSS (l : Rows) : Prop := ∀ r ∈ l, RowsS r
theorem rowsD_of {E : Env} {e : TypeId} {b : Nat} {g : Bool} {fs : List (Nat × TypeId)} {d : Dat} (h : OkD E (.sl e) d) (ht : E.T e = some ⟨[.int .i64, .int .i64, .int .i64], b, g, fs⟩) : ∃ l, d = .sl l ∧ l.length * b ≤ reachBytes ∧ RowsD l := by
  obtain ⟨l, rfl, h1, h2⟩ := h.sl' ht
  refine ⟨l, rfl, h1, fun r hr => ?_⟩
  have q := h2 r hr
  obtain ⟨_, _, rfl, i0, q0⟩ := q.inv; obtain ⟨x, rfl, hx⟩ := i0.i64
  obtain ⟨_, _, rfl, i1, q1⟩ := q0.inv; obtain ⟨y, rfl, hy⟩ := i1.i64
  obtain ⟨_, _, rfl, i2, q2⟩ := q1.inv; obtain ⟨z, rfl, hz⟩ := i2.i64
  obtain rfl := q2.nil_inv
  exact ⟨x, y, z, rfl, hx, hy, hz⟩
theorem rowsSS_of {E : Env} {e e' : TypeId} {b b' : Nat} {g g' : Bool} {fs fs' : List (Nat × TypeId)} {d : Dat} (h : OkD E (.sl e) d) (ht : E.T e = some ⟨[.sl e'], b', g', fs'⟩) (ht' : E.T e' = some ⟨[.int .i64, .int .i64, .int .i64], b, g, fs⟩) : ∃ l, d = .sl l ∧ l.length * b' ≤ reachBytes ∧ RowsSS l := by
  obtain ⟨l, rfl, h1, h2⟩ := h.sl' ht
  refine ⟨l, rfl, h1, fun r hr => ?_⟩
  have q := h2 r hr
  obtain ⟨_, _, rfl, i0, q0⟩ := q.inv
  obtain ⟨x, rfl, -, hx⟩ := rowsD_of i0 ht'
  obtain rfl := q0.nil_inv
  exact ⟨x, rfl, hx⟩
theorem eqRow3 {k v w k' v' w' : Int} : (eqI k k' && (eqI v v' && eqI w w')) = eqD [Dat.int k, Dat.int v, Dat.int w] [Dat.int k', Dat.int v', Dat.int w'] := by
  cases h : eqD [Dat.int k, Dat.int v, Dat.int w] [Dat.int k', Dat.int v', Dat.int w'] with
  | true => rw [eqD_iff] at h; simp at h; simp [h, eqI]
  | false =>
    rw [eqD_false] at h
    simp at h
    rw [← Bool.not_eq_true]
    simp only [eqI, Bool.and_eq_true, decide_eq_true_eq]
    rintro ⟨h1, h2, h3⟩
    exact h h1 h2 h3
theorem eqSl {a b : Rows} : eqD a b = eqD [Dat.sl a] [Dat.sl b] := by
  cases h : eqD a b with
  | true => rw [eqD_iff] at h; subst h; exact (eqD_self _).symm
  | false =>
    rw [eqD_false] at h
    symm
    rw [eqD_false]
    intro hh
    simp at hh
    exact h hh
/-- setting one after the other -/
theorem take_set_drop {α : Type} {x y : List α} {i : Nat} {r : α} (hi : i < x.length) (hl : x.length = y.length) (hr : y[i]? = some r) : (x.set i r).take (i + 1) ++ y.drop (i + 1) = x.take i ++ y.drop i := by
  have hy : i < y.length := by omega
  have e : y.drop i = y[i] :: y.drop (i + 1) := List.drop_eq_getElem_cons hy
  have e2 : y[i] = r := by rw [List.getElem?_eq_getElem hy] at hr; exact Option.some.inj hr
  rw [e, e2, List.take_add_one, List.take_set_of_le (Nat.le_refl i)]
  simp [hi]
end Go.Proofs.Ythjkpphjlmmkdaa.Vai
