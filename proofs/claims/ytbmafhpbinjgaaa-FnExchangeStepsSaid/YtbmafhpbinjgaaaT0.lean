/- Data with names (rows, tasks, sorters and the like) as cells, and loops over slices; no condition. -/
import Derived.Test.YtbmafhpbinjgaaaVaiD
namespace Go.Proofs.Ytbmafhpbinjgaaa.Vai
open Go
set_option linter.unusedSimpArgs false
set_option linter.unusedVariables false
set_option linter.unnecessarySimpa false

/-! words -/
abbrev Rows := List (List Dat)
theorem gn_c (n : Int) (r : List Dat) : gn (.int n :: r) = n := rfl
theorem gb_c (b : Bool) (r : List Dat) : gb (.bool b :: r) = b := rfl
theorem gs_c (s : ByteArray) (r : List Dat) : gs (.str s :: r) = s := rfl
theorem gl_c (l : Rows) (r : List Dat) : gl (.sl l :: r) = l := rfl
theorem tk_0 (l : List Dat) : tk 0 l = l := rfl
theorem tk_s (k : Nat) (a : Dat) (l : List Dat) : tk (k + 1) (a :: l) = tk k l := rfl
theorem bind_s {α β : Type} (a : α) (f : α → Option β) : (some a).bind f = f a := rfl
theorem ltT {a b : Int} (h : a < b) : ltI a b = true := by simpa [ltI] using h
theorem ltF {a b : Int} (h : b ≤ a) : ltI a b = false := by simpa [ltI] using h
theorem leT {a b : Int} (h : a ≤ b) : leI a b = true := by simpa [leI] using h
theorem leF {a b : Int} (h : b < a) : leI a b = false := by simpa [leI] using h
theorem eqT {a b : Int} (h : a = b) : eqI a b = true := by simpa [eqI] using h
theorem eqF {a b : Int} (h : a ≠ b) : eqI a b = false := by simpa [eqI] using h
theorem eqI_self (a : Int) : eqI a a = true := by simp [eqI]
theorem eqBo_self (a : Bool) : eqBo a a = true := by simp [eqBo]
theorem leNT {a b : Nat} (h : a ≤ b) : leN a b = true := by simpa [leN] using h
theorem fitT {n b : Nat} (h : n * b ≤ 70368744177664) : fitM n b = true := leNT h
theorem inRT {i n : Int} (h : 0 ≤ i) (h2 : i < n) : inR i n = true := by simp [inR, leT h, ltT h2]
theorem in3T {i j n : Int} (h : 0 ≤ i) (h2 : i ≤ j) (h3 : j ≤ n) : in3 i j n = true := by simp [in3, leT h, leT h2, leT h3]
theorem tn_c (i : Nat) : tn (i : Int) = i := rfl
theorem w64_id {n : Int} (h : -9223372036854775808 ≤ n ∧ n ≤ 9223372036854775807) : w64 n = n := wrap64 ⟨h.1, by omega⟩
theorem w64_s {i : Nat} (h : i < 9223372036854775807) : w64 ((i : Int) + 1) = ((i + 1 : Nat) : Int) := by
  rw [w64_id ⟨by omega, by omega⟩]; omega
theorem bifn {α : Type} (b : Bool) (x y : α) : (bif !b then x else y) = bif b then y else x := by cases b <;> rfl

/-! the middle of a slice -/
theorem at_mid (p q : Rows) (r : List Dat) : at' (p ++ r :: q) p.length = r := by
  simp [List.getD_eq_getElem?_getD]
theorem lt_mid (p q : Rows) (r : List Dat) : ltI (p.length : Int) (lenI (p ++ r :: q)) = true := ltT (by show (p.length : Int) < ((p ++ r :: q).length : Int); simp only [List.length_append, List.length_cons]; omega)
theorem in_mid (p q : Rows) (r : List Dat) : inR (p.length : Int) (lenI (p ++ r :: q)) = true := inRT (by omega) (by show (p.length : Int) < ((p ++ r :: q).length : Int); simp only [List.length_append, List.length_cons]; omega)
theorem lt_end (p : Rows) : ltI (p.length : Int) (lenI p) = false := ltF (Int.le_refl _)
theorem upd_mid (p q : Rows) (r : List Dat) (c : Nat) (ds : List Dat) : updR (p ++ r :: q) p.length c ds = p ++ setRange r c ds :: q := by
  unfold updR
  rw [show (p ++ r :: q).getD p.length [] = r from at_mid p q r, List.set_append_right _ _ (Nat.le_refl _)]
  simp
theorem snoc_len (p : Rows) (r : List Dat) : (p ++ [r]).length = p.length + 1 := by simp
/-- a place in the middle, as a number -/
theorem mid_eq {α : Type} (p q : List α) (r : α) : p ++ r :: q = (p ++ [r]) ++ q := by simp

/-! the middle of a slice of named data -/
section
variable {α β : Type} {e : α → List Dat}
theorem at_m (u v : List α) (a : α) : at' ((u ++ a :: v).map e) u.length = e a := by
  simp [List.getD_eq_getElem?_getD]
theorem lt_m (u v : List α) (a : α) : ltI (u.length : Int) (lenI ((u ++ a :: v).map e)) = true := ltT (by show (u.length : Int) < (((u ++ a :: v).map e).length : Int); simp only [List.length_append, List.length_cons, List.length_map]; omega)
theorem in_m (u v : List α) (a : α) : inR (u.length : Int) (lenI ((u ++ a :: v).map e)) = true := inRT (by omega) (by show (u.length : Int) < (((u ++ a :: v).map e).length : Int); simp only [List.length_append, List.length_cons, List.length_map]; omega)
theorem lt_e (l : List α) : ltI (l.length : Int) (lenI (l.map e)) = false := ltF (by simp)
theorem upd_m (u v : List α) (a : α) (c : Nat) (ds : List Dat) : updR ((u ++ a :: v).map e) u.length c ds = u.map e ++ setRange (e a) c ds :: v.map e := by
  have := upd_mid (u.map e) (v.map e) (e a) c ds
  simpa using this

/-! loops over slices -/
theorem zip_loop {σ : Type} {L : σ → Int → Option β} {F : σ → List α → Option β} {I : σ → List α → List α → Prop} {l : List α} (hn : l.length < 9223372036854775807)
    (hs : ∀ (u : List α) (a : α) (v : List α) (s : σ), l = u ++ a :: v → I s u (a :: v) → (∃ s', L s u.length = L s' (w64 (u.length + 1)) ∧ I s' (u ++ [a]) v ∧ F s (a :: v) = F s' v) ∨ L s u.length = F s (a :: v))
    (he : ∀ s, I s l [] → L s l.length = F s []) (s : σ) (h0 : I s [] l) : L s 0 = F s l := by
  have key : ∀ (v u : List α) (s : σ), l = u ++ v → I s u v → L s (u.length : Nat) = F s v := by
    intro v
    induction v with
    | nil =>
      intro u s h hI
      rw [List.append_nil] at h
      subst h
      exact he s hI
    | cons a v ih =>
      intro u s h hI
      have hl : u.length < l.length := by rw [h]; simp
      rcases hs u a v s h hI with ⟨s', h1, h2, h3⟩ | h1
      · rw [h1, w64_s (by omega), h3]
        have := ih (u ++ [a]) s' (by rw [h]; simp) h2
        rw [List.length_append] at this
        exact this
      · exact h1
  exact key l [] s rfl h0
/-- a fold -/
theorem fold_loop {σ : Type} {L : σ → Int → Option β} {f : σ → α → σ} {fin : σ → Option β} {I : σ → List α → Prop} {l : List α} (hn : l.length < 9223372036854775807)
    (hs : ∀ (u : List α) (a : α) (v : List α) (s : σ), l = u ++ a :: v → I s u → L s u.length = L (f s a) (w64 (u.length + 1)) ∧ I (f s a) (u ++ [a]))
    (he : ∀ s, I s l → L s l.length = fin s) (s : σ) (h0 : I s []) : L s 0 = fin (l.foldl f s) :=
  zip_loop (F := fun s v => fin (v.foldl f s)) (I := fun s u _ => I s u) hn (fun u a v s h hI => .inl ⟨f s a, (hs u a v s h hI).1, (hs u a v s h hI).2, rfl⟩) he s h0
/-- a test of all -/
theorem all_loop {L : Int → Option β} {p : α → Bool} {no yes : Option β} {l : List α} (hn : l.length < 9223372036854775807)
    (hs : ∀ (u : List α) (a : α) (v : List α), l = u ++ a :: v → L u.length = bif p a then L (w64 (u.length + 1)) else no) (he : L l.length = yes) : L 0 = bif l.all p then yes else no :=
  zip_loop (σ := Unit) (L := fun _ => L) (F := fun _ v => bif v.all p then yes else no) (I := fun _ _ _ => True) hn (fun u a v _ h _ => by
    have := hs u a v h
    cases hp : p a
    · exact .inr (by rw [this, hp]; simp [hp])
    · exact .inl ⟨(), by rw [this, hp]; rfl, trivial, by simp [hp]⟩) (fun _ _ => by simpa using he) () trivial
end

/-- what is known of a slice that comes in -/
def BdL {α : Type} (p : α → Prop) (l : List α) : Prop := l.length ≤ 1152921504606846976 ∧ ∀ a ∈ l, p a
def BdT (_ : Bool) : Prop := True
def BdS (s : ByteArray) : Prop := s.size ≤ 1152921504606846976
/-! marks -/
def mkL {α : Type} (f : α → Int → α) (c : α → Nat) : List α → Int → List α
  | [], _ => []
  | a :: l, k => f a k :: mkL f c l (k + c a)
def cntL {α : Type} (c : α → Nat) : List α → Nat
  | [] => 0
  | a :: l => c a + cntL c l
def szL {α : Type} (f : α → Nat) : List α → Nat
  | [] => 0
  | a :: l => 1 + f a + szL f l
theorem szL_len {α : Type} (f : α → Nat) : ∀ l : List α, l.length ≤ szL f l
  | [] => Nat.le_refl _
  | a :: l => by have := szL_len f l; simp only [List.length_cons, szL]; omega
theorem szL_flat {α : Type} : ∀ l : List α, szL (fun _ => 0) l = l.length
  | [] => rfl
  | a :: l => by simp only [szL, szL_flat l, List.length_cons]; omega
theorem szL_mem {α : Type} {f : α → Nat} : ∀ {l : List α} {a : α}, a ∈ l → f a ≤ szL f l
  | b :: l, a, h => by
    rcases List.mem_cons.mp h with rfl | h
    · simp only [szL]; omega
    · have := szL_mem (f := f) h; simp only [szL]; omega
theorem cntL_le {α : Type} {c f : α → Nat} {m : Nat} (h : ∀ a, c a ≤ m * (1 + f a)) : ∀ l : List α, cntL c l ≤ m * szL f l
  | [] => Nat.zero_le _
  | a :: l => by
    have h1 := cntL_le h l
    have h2 := h a
    simp only [cntL, szL]
    rw [Nat.mul_add]
    omega
theorem szL_split {α : Type} (f : α → Nat) (u v : List α) : szL f (u ++ v) = szL f u + szL f v := by
  induction u with
  | nil => simp [szL]
  | cons a u ih => simp only [List.cons_append, szL, ih]; omega
section
variable {α : Type} {e : α → List Dat} {f : α → Int → α} {c g : α → Nat}
theorem mark_loop {L : Int → Int → Rows → Option (List Dat)} (hs : ∀ (p q : Rows) (a : α) (k : Int), 0 ≤ k → k + c a < 4611686018427387904 → g a ≤ 1152921504606846976 → p.length < 4611686018427387904 → L k p.length (p ++ e a :: q) = L (k + c a) (w64 (p.length + 1)) (p ++ e (f a k) :: q))
    (he : ∀ p k, L k p.length p = some [.int k, .sl p]) : ∀ (l : List α) (p : Rows) (k : Int), 0 ≤ k → k + cntL c l < 4611686018427387904 → szL g l ≤ 1152921504606846976 → p.length + l.length < 4611686018427387904 →
      L k p.length (p ++ l.map e) = some [.int (k + cntL c l), .sl (p ++ (mkL f c l k).map e)]
  | [], p, k, _, _, _, _ => by simpa [cntL, mkL] using he p k
  | a :: l, p, k, h0, h1, h2, h3 => by
    simp only [cntL, szL, List.length_cons] at h1 h2 h3
    have := hs p (l.map e) a k h0 (by omega) (by omega) (by omega)
    rw [List.map_cons, this, w64_s (by omega), mid_eq]
    have ih := mark_loop hs he l (p ++ [e (f a k)]) (k + c a) (by omega) (by omega) (by omega) (by simp; omega)
    rw [snoc_len] at ih
    rw [ih]
    have e1 : k + (c a : Int) + (cntL c l : Int) = k + ((c a + cntL c l : Nat) : Int) := by omega
    simp only [cntL, mkL, List.map_cons, List.append_assoc, List.singleton_append, e1]
theorem held_loop {L : Rows → Int → Int → Option (List Dat)} (hs : ∀ (p q : Rows) (a : α) (k : Int), 0 ≤ k → k + c a < 4611686018427387904 → g a ≤ 1152921504606846976 → p.length < 4611686018427387904 → L (p ++ e (f a k) :: q) k p.length = L (p ++ e (f a k) :: q) (k + c a) (w64 (p.length + 1)))
    (he : ∀ p k, L p k p.length = some [.int k]) : ∀ (l : List α) (p : Rows) (k : Int), 0 ≤ k → k + cntL c l < 4611686018427387904 → szL g l ≤ 1152921504606846976 → p.length + l.length < 4611686018427387904 →
      L (p ++ (mkL f c l k).map e) k p.length = some [.int (k + cntL c l)]
  | [], p, k, _, _, _, _ => by simpa [cntL, mkL] using he p k
  | a :: l, p, k, h0, h1, h2, h3 => by
    simp only [cntL, szL, List.length_cons] at h1 h2 h3
    have := hs p ((mkL f c l (k + c a)).map e) a k h0 (by omega) (by omega) (by omega)
    simp only [mkL, List.map_cons]
    rw [this, w64_s (by omega), mid_eq]
    have ih := held_loop hs he l (p ++ [e (f a k)]) (k + c a) (by omega) (by omega) (by omega) (by simp; omega)
    rw [snoc_len] at ih
    rw [ih]
    simp only [cntL]
    rw [show k + (c a : Int) + (cntL c l : Int) = k + ((c a + cntL c l : Nat) : Int) by omega]
theorem to_loop {L : Rows → Int → Rows → Option (List Dat)} {z : List Dat} {P : α → Prop} (hs : ∀ (p q p' q' : Rows) (a : α), P a → p.length = p'.length → p.length < 4611686018427387904 → L (p ++ e a :: q) p.length (p' ++ z :: q') = L (p ++ e a :: q) (w64 (p.length + 1)) (p' ++ e a :: q'))
    (he : ∀ p p', p.length = p'.length → L p p.length p' = some [.sl p']) : ∀ (l : List α) (p p' : Rows), p.length = p'.length → (∀ a ∈ l, P a) → p.length + l.length < 4611686018427387904 →
      L (p ++ l.map e) p.length (p' ++ List.replicate l.length z) = some [.sl (p' ++ l.map e)]
  | [], p, p', h, _, _ => by simpa using he p p' h
  | a :: l, p, p', h, hP, h3 => by
    simp only [List.length_cons] at h3
    rw [List.map_cons, List.length_cons, List.replicate_succ, hs p (l.map e) p' (List.replicate l.length z) a (hP a (by simp)) h (by omega), w64_s (by omega), mid_eq, mid_eq p']
    have ih := to_loop hs he l (p ++ [e a]) (p' ++ [e a]) (by simp [h]) (fun b hb => hP b (by simp [hb])) (by simp; omega)
    rw [snoc_len] at ih
    rw [ih]
    simp only [List.append_assoc, List.singleton_append]
theorem eq_loop [DecidableEq α] {L : Rows → Rows → Int → Option (List Dat)} {P : α → Prop} (hs : ∀ (p q p' q' : Rows) (a b : α), P a → p.length = p'.length → p.length < 4611686018427387904 → L (p ++ e a :: q) (p' ++ e b :: q') p.length = bif decide (a = b) then L (p ++ e a :: q) (p' ++ e b :: q') (w64 (p.length + 1)) else some [.bool false])
    (he : ∀ p p', p.length = p'.length → L p p' p.length = some [.bool true]) : ∀ (l l' : List α) (p p' : Rows), p.length = p'.length → l.length = l'.length → (∀ a ∈ l, P a) → p.length + l.length < 4611686018427387904 →
      L (p ++ l.map e) (p' ++ l'.map e) p.length = some [.bool (decide (l = l'))]
  | [], [], p, p', h, _, _, _ => by simpa using he p p' h
  | [], _ :: _, _, _, _, h, _, _ => by simp at h
  | _ :: _, [], _, _, _, h, _, _ => by simp at h
  | a :: l, b :: l', p, p', h, hl, hP, h3 => by
    simp only [List.length_cons] at h3 hl
    rw [List.map_cons, List.map_cons, hs p (l.map e) p' (l'.map e) a b (hP a (by simp)) h (by omega)]
    by_cases hab : a = b
    · rw [decide_eq_true hab, cond_true, w64_s (by omega), mid_eq, mid_eq p']
      have ih := eq_loop hs he l l' (p ++ [e a]) (p' ++ [e b]) (by simp [h]) (by omega) (fun b hb => hP b (by simp [hb])) (by simp; omega)
      rw [snoc_len] at ih
      rw [ih]
      simp [hab]
    · rw [decide_eq_false hab, cond_false]
      simp [hab]
def szv (n : Int) (s : Nat) : Int := if (s : Int) ≤ n then n - s else -1
theorem szv_0 {n : Int} (h : 0 ≤ n) : szv n 0 = n := by simp [szv, h]
theorem sz_chain {n : Int} {a b : Nat} (_hn : 0 ≤ n) {X : Option (List Dat)} (hX : (a : Int) ≤ n → szv n a = n - a → X = some [.int (szv (n - a) b)]) : (bif ltI (szv n a) 0 then some [.int (-1)] else X) = some [.int (szv n (a + b))] := by
  by_cases h : (a : Int) ≤ n
  · have e1 : szv n a = n - a := if_pos h
    rw [ltF (by rw [e1]; omega), cond_false, hX h e1]
    congr 2
    unfold szv
    by_cases h2 : (b : Int) ≤ n - a
    · rw [if_pos h2, if_pos (by omega)]; congr 1; omega
    · rw [if_neg h2, if_neg (by omega)]
  · have e1 : szv n a = -1 := if_neg h
    rw [ltT (by rw [e1]; decide), cond_true]
    unfold szv
    rw [if_neg (by omega)]
theorem sz_last {n : Int} {a : Nat} (hn : 0 ≤ n) : (bif ltI (szv n a) 0 then some [Dat.int (-1)] else some [.int (szv n a)]) = some [.int (szv n a)] := by
  have := sz_chain (b := 0) hn (X := some [.int (szv n a)]) (a := a) (fun h h1 => by rw [h1, szv_0 (by omega)])
  simpa using this
theorem sz_loop {L : Rows → Int → Int → Option (List Dat)} {P : α → Prop} (hs : ∀ (p q : Rows) (a : α) (n : Int), P a → 0 ≤ n → n ≤ 1048576 → p.length < 4611686018427387904 → L (p ++ e a :: q) n p.length = bif ltI (szv n (g a)) 0 then some [.int (-1)] else L (p ++ e a :: q) (szv n (g a)) (w64 (p.length + 1)))
    (he : ∀ p n, L p n p.length = some [.int n]) : ∀ (l : List α) (p : Rows) (n : Int), (∀ a ∈ l, P a) → 0 ≤ n → n ≤ 1048576 → p.length + l.length < 4611686018427387904 →
      L (p ++ l.map e) n p.length = some [.int (szv n (cntL g l))]
  | [], p, n, _, h0, _, _ => by rw [List.map_nil, List.append_nil, he, cntL, szv_0 h0]
  | a :: l, p, n, hP, h0, h1, h3 => by
    simp only [List.length_cons] at h3
    rw [List.map_cons, hs p (l.map e) a n (hP a (by simp)) h0 h1 (by omega)]
    refine sz_chain h0 fun h2 h4 => ?_
    rw [h4, w64_s (by omega), mid_eq]
    have ih := sz_loop hs he l (p ++ [e a]) (n - g a) (fun b hb => hP b (by simp [hb])) (by omega) (by omega) (by simp; omega)
    rw [snoc_len] at ih
    exact ih
theorem szL_cnt (g : α → Nat) : ∀ l : List α, szL g l = l.length + cntL g l
  | [] => rfl
  | a :: l => by simp only [szL, szL_cnt g l, List.length_cons, cntL]; omega
theorem bif_and (p q : Bool) : (bif !p then some [Dat.bool false] else some [.bool q]) = some [.bool (p && q)] := by cases p <;> rfl
end
end Go.Proofs.Ytbmafhpbinjgaaa.Vai
