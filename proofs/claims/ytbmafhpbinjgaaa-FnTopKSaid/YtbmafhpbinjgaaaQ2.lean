/- Rows sorted: order, search, merging; no condition. -/
import Derived.Test.YtbmafhpbinjgaaaQ1
namespace Go.Proofs.Ytbmafhpbinjgaaa.Vai
open Go
set_option linter.unusedSimpArgs false
set_option linter.unusedVariables false
set_option linter.unnecessarySimpa false
set_option maxRecDepth 10000
theorem swap_eq2 {l p s : List Rw} {a b : Rw} {i j : Nat} (h : l = p ++ a :: b :: s) (hi : p.length = i) (hj : j = i + 1) (hl : l.length < 4611686018427387904) {X : Option (List Dat)} {K : Rows → Option (List Dat)} (hK : K ((p ++ b :: a :: s).map Rw.e) = X) :
    (bif inR (i : Int) (lenI (l.map Rw.e)) then (bif inR (j : Int) (lenI (l.map Rw.e)) then (bif inR (j : Int) (lenI (l.map Rw.e)) then
      (bif inR (i : Int) (lenI (updR (l.map Rw.e) (tn (j : Int)) 0 [.int (gn (at' (l.map Rw.e) (tn (i : Int)))), .int (gn (tk 1 (at' (l.map Rw.e) (tn (i : Int))))), .int (gn (tk 2 (at' (l.map Rw.e) (tn (i : Int)))))])) then
        K (updR (updR (l.map Rw.e) (tn (j : Int)) 0 [.int (gn (at' (l.map Rw.e) (tn (i : Int)))), .int (gn (tk 1 (at' (l.map Rw.e) (tn (i : Int))))), .int (gn (tk 2 (at' (l.map Rw.e) (tn (i : Int)))))]) (tn (i : Int)) 0 [.int (gn (at' (l.map Rw.e) (tn (j : Int)))), .int (gn (tk 1 (at' (l.map Rw.e) (tn (j : Int))))), .int (gn (tk 2 (at' (l.map Rw.e) (tn (j : Int)))))])
        else none) else none) else none) else none) = X := by
  have hb : at' (l.map Rw.e) j = b.e := at_i (u := p ++ [a]) (v := s) (by rw [h]; simp) (by simp; omega)
  have ha : at' (l.map Rw.e) i = a.e := at_i h hi
  have hlen : l.length = p.length + 1 + 1 + s.length := by rw [h]; simp; omega
  have h1 : updR (l.map Rw.e) j 0 [.int a.k, .int a.v, .int a.w] = (p ++ a :: a :: s).map Rw.e := by
    rw [upd_i (u := p ++ [a]) (v := s) (a := b) (by rw [h]; simp) (by simp; omega)]
    simp
  have h2 : updR ((p ++ a :: a :: s).map Rw.e) i 0 [.int b.k, .int b.v, .int b.w] = (p ++ b :: a :: s).map Rw.e := upd_i rfl hi
  simp only [tn_c, hb, ha, gk, gv, gw, h1, h2]
  rw [in_i (by omega), in_i (by omega), in_i (by simp; omega)]
  exact hK
theorem half_ok (i j : Nat) (h : i + j < 4611686018427387904) : w64 ((Go.IntKind.wrap .u64 (w64 ((i : Int) + (j : Int)))) / (Int.pow 2 (ite ((tn 1) ≤ (Go.IntKind.bits .u64)) (tn 1) 64))) = (((i + j) / 2 : Nat) : Int) := by
  have e1 : (Int.pow 2 (ite ((tn 1) ≤ (Go.IntKind.bits .u64)) (tn 1) 64)) = 2 := rfl
  have e2 : Go.IntKind.wrap .u64 ((i : Int) + (j : Int)) = (i : Int) + (j : Int) := by
    have e : (2 : Int) ^ 64 = 18446744073709551616 := by decide
    simp only [IntKind.wrap, IntKind.signed, IntKind.bits, Bool.false_and, Bool.false_eq_true, if_false, e]
    omega
  rw [e1, w64_id (n := (i : Int) + (j : Int)) ⟨by omega, by omega⟩, e2, w64_id ⟨by omega, by omega⟩]
  omega
/-! order -/
abbrev Srt (l : List Rw) : Prop := l.Pairwise Rw.le
theorem srt_unique : ∀ {l l' : List Rw}, l.Perm l' → Srt l → Srt l' → l = l'
  | [], l', h, _, _ => by have := h.length_eq; exact (List.length_eq_zero_iff.mp (by simpa using this.symm)).symm
  | a :: l, [], h, _, _ => by have := h.length_eq; simp at this
  | a :: l, b :: l', h, s, s' => by
    have hab : a = b := by
      have h1 : b ∈ a :: l := h.mem_iff.mpr (by simp)
      have h2 : a ∈ b :: l' := h.mem_iff.mp (by simp)
      rcases List.mem_cons.mp h1 with h1 | h1
      · exact h1.symm
      · rcases List.mem_cons.mp h2 with h2 | h2
        · exact h2
        · exact Rw.le_antisymm ((List.pairwise_cons.mp s).1 b h1) ((List.pairwise_cons.mp s').1 a h2)
    subst hab
    rw [srt_unique (h.cons_inv) (List.pairwise_cons.mp s).2 (List.pairwise_cons.mp s').2]
/-- a search by halves -/
theorem bs {β : Type} {L : Nat → Nat → β} {K : Nat → β} {t lo hi : Nat} (hs : ∀ i j, lo ≤ i → i < j → j ≤ hi → L i j = if (i + j) / 2 < t then L ((i + j) / 2 + 1) j else L i ((i + j) / 2)) (he : ∀ i, lo ≤ i → i ≤ hi → L i i = K i) :
    ∀ (n i j : Nat), j - i ≤ n → lo ≤ i → i ≤ t → t ≤ j → j ≤ hi → L i j = K t := by
  intro n
  induction n with
  | zero =>
    intro i j h h1 h2 h3 h4
    have e1 : i = t := by omega
    have e2 : j = t := by omega
    rw [e1, e2]
    exact he t (by omega) (by omega)
  | succ n ih =>
    intro i j h h1 h2 h3 h4
    by_cases hij : i < j
    · rw [hs i j h1 hij h4]
      split
      · exact ih _ _ (by omega) (by omega) (by omega) h3 h4
      · exact ih _ _ (by omega) h1 h2 (by omega) (by omega)
    · have e1 : i = t := by omega
      have e2 : j = t := by omega
      rw [e1, e2]
      exact he t (by omega) (by omega)
theorem split_ex (P : Nat → Prop) [DecidablePred P] (lo : Nat) : ∀ (n : Nat), (∀ c d, lo ≤ c → c ≤ d → d < lo + n → P d → P c) → ∃ t, lo ≤ t ∧ t ≤ lo + n ∧ ∀ c, lo ≤ c → c < lo + n → (P c ↔ c < t)
  | 0, _ => ⟨lo, Nat.le_refl _, Nat.le_refl _, fun c h1 h2 => by omega⟩
  | n + 1, hm => by
    obtain ⟨t, h1, h2, h3⟩ := split_ex P lo n (fun c d a b e => hm c d a b (by omega))
    by_cases hp : P (lo + n)
    · refine ⟨lo + n + 1, by omega, by omega, fun c a b => ⟨fun _ => by omega, fun _ => hm c (lo + n) a (by omega) (by omega) hp⟩⟩
    · refine ⟨t, h1, by omega, fun c a b => ?_⟩
      by_cases hc : c < lo + n
      · exact h3 c a hc
      · have : c = lo + n := by omega
        subst this
        exact ⟨fun h => absurd h hp, fun h => by omega⟩
def nth (x : List Rw) (i : Nat) : Rw := x.getD i ⟨0, 0, 0⟩
theorem at_nth {x : List Rw} {i : Nat} (h : i < x.length) : at' (x.map Rw.e) i = (nth x i).e := by
  obtain ⟨u, a, v, rfl, rfl⟩ : ∃ u a v, x = u ++ a :: v ∧ u.length = i := ⟨x.take i, x[i], x.drop (i + 1), by
    have := List.take_append_drop i x
    rw [List.drop_eq_getElem_cons h] at this
    exact this.symm, by simp; omega⟩
  rw [at_m]
  simp [nth, List.getD_eq_getElem?_getD]
theorem nth_app1 (u v : List Rw) {i : Nat} (h : i < u.length) : nth (u ++ v) i = nth u i := by
  simp [nth, List.getD_eq_getElem?_getD, List.getElem?_append_left h]
theorem nth_app2 (u v : List Rw) {i : Nat} (h : u.length ≤ i) : nth (u ++ v) i = nth v (i - u.length) := by
  simp [nth, List.getD_eq_getElem?_getD, List.getElem?_append_right h]
theorem nth_mem {u : List Rw} {i : Nat} (h : i < u.length) : nth u i ∈ u := by
  simp [nth, List.getD_eq_getElem?_getD, h]
theorem mem_nth {u : List Rw} {a : Rw} (h : a ∈ u) : ∃ i, i < u.length ∧ nth u i = a := by
  obtain ⟨i, hi⟩ := List.getElem?_of_mem h
  obtain ⟨h1, h2⟩ := List.getElem?_eq_some_iff.mp hi
  exact ⟨i, h1, by simp [nth, List.getD_eq_getElem?_getD, hi]⟩
theorem srt_nth {u : List Rw} (h : Srt u) {i j : Nat} (hij : i ≤ j) (hj : j < u.length) : Rw.le (nth u i) (nth u j) := by
  by_cases e : i = j
  · subst e; exact Rw.le_rfl _
  · have := List.pairwise_iff_getElem.mp h i j (by omega) hj (by omega)
    simpa [nth, List.getD_eq_getElem?_getD, hj, show i < u.length by omega] using this
/-- a list cut where a test turns -/
theorem cut_at {u : List Rw} {t : Nat} (h : t ≤ u.length) : ∃ u1 u2, u = u1 ++ u2 ∧ u1.length = t := ⟨u.take t, u.drop t, (List.take_append_drop _ _).symm, by simp; omega⟩
end Go.Proofs.Ytbmafhpbinjgaaa.Vai
