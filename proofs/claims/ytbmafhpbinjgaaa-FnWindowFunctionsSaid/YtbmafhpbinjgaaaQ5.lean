/- Rows sorted by insertion, and the whole sort; no condition. -/
import Derived.Test.YtbmafhpbinjgaaaQ4
namespace Go.Proofs.Ytbmafhpbinjgaaa.Vai
open Go
set_option linter.unusedSimpArgs false
set_option linter.unusedVariables false
set_option linter.unnecessarySimpa false
set_option maxRecDepth 10000
theorem swap_eq3 {l p s : List Rw} {a b : Rw} {i j : Nat} (h : l = p ++ a :: b :: s) (hi : p.length = i) (hj : j = i + 1) (hl : l.length < 4611686018427387904) {X : Option (List Dat)} {K : Rows → Option (List Dat)} (hK : K ((p ++ b :: a :: s).map Rw.e) = X) :
    (bif inR (i : Int) (lenI (updR (l.map Rw.e) (tn (j : Int)) 0 [.int (gn (at' (l.map Rw.e) (tn (i : Int)))), .int (gn (tk 1 (at' (l.map Rw.e) (tn (i : Int))))), .int (gn (tk 2 (at' (l.map Rw.e) (tn (i : Int)))))])) then
        K (updR (updR (l.map Rw.e) (tn (j : Int)) 0 [.int (gn (at' (l.map Rw.e) (tn (i : Int)))), .int (gn (tk 1 (at' (l.map Rw.e) (tn (i : Int))))), .int (gn (tk 2 (at' (l.map Rw.e) (tn (i : Int)))))]) (tn (i : Int)) 0 [.int (gn (at' (l.map Rw.e) (tn (j : Int)))), .int (gn (tk 1 (at' (l.map Rw.e) (tn (j : Int))))), .int (gn (tk 2 (at' (l.map Rw.e) (tn (j : Int)))))])
        else none) = X := by
  have hb : at' (l.map Rw.e) j = b.e := at_i (u := p ++ [a]) (v := s) (by rw [h]; simp) (by simp; omega)
  have ha : at' (l.map Rw.e) i = a.e := at_i h hi
  have hlen : l.length = p.length + 1 + 1 + s.length := by rw [h]; simp; omega
  have h1 : updR (l.map Rw.e) j 0 [.int a.k, .int a.v, .int a.w] = (p ++ a :: a :: s).map Rw.e := by
    rw [upd_i (u := p ++ [a]) (v := s) (a := b) (by rw [h]; simp) (by simp; omega)]
    simp
  have h2 : updR ((p ++ a :: a :: s).map Rw.e) i 0 [.int b.k, .int b.v, .int b.w] = (p ++ b :: a :: s).map Rw.e := upd_i rfl hi
  simp only [tn_c, hb, ha, gk, gv, gw, h1, h2]
  rw [in_i (by simp; omega)]
  exact hK
theorem ins1 (a b i : Nat) : ∀ (n : Nat) (w1 w2 p r : List Rw) (c : Rw) (j : Nat), w1.length = n → Srt (w1 ++ w2) → (∀ y ∈ w2, Rw.lt c y) → (p ++ (w1 ++ c :: (w2 ++ r))).length < 1152921504606846976 → i < 1152921504606846976 → a = p.length → j = a + w1.length →
    ∃ w, w.Perm (w1 ++ c :: w2) ∧ Srt w ∧ L_slices_insertionSortCmpFunc_Row_1 (a : Nat) (b : Nat) (i : Nat) (j : Nat) ((p ++ (w1 ++ c :: (w2 ++ r))).map Rw.e) = L_slices_insertionSortCmpFunc_Row_0 (a : Nat) (b : Nat) ((i + 1 : Nat) : Int) ((p ++ (w ++ r)).map Rw.e) := by
  intro n
  induction n with
  | zero =>
    intro w1 w2 p r c j hn hs hc hl hi ha hj
    have : w1 = [] := List.length_eq_zero_iff.mp hn
    subst this
    refine ⟨c :: w2, List.Perm.refl _, List.pairwise_cons.mpr ⟨fun y hy => Rw.lt_le (hc y hy), by simpa using hs⟩, ?_⟩
    simp only [List.length_nil] at hj
    rw [L_slices_insertionSortCmpFunc_Row_1_eq, ltF (by omega), cond_false, w64_s (by omega)]
    simp
  | succ n ih =>
    intro w1 w2 p r c j hn hs hc hl hi ha hj
    obtain ⟨w1, d, rfl⟩ := snoc_of (n := n) (l := w1) hn
    have hl' := hl
    simp only [List.length_append, List.length_cons, List.length_nil] at hl' hn hj
    have hxl : (p ++ (w1 ++ [d] ++ c :: (w2 ++ r))).length = p.length + w1.length + 2 + w2.length + r.length := by simp; omega
    have hc0 : nth (p ++ (w1 ++ [d] ++ c :: (w2 ++ r))) j = c := by
      rw [nth_app2 p _ (by omega), nth_app2 (w1 ++ [d]) _ (by simp; omega)]
      have : j - p.length - (w1 ++ [d]).length = 0 := by simp; omega
      rw [this]; simp [nth]
    have hd0 : nth (p ++ (w1 ++ [d] ++ c :: (w2 ++ r))) (j - 1) = d := by
      rw [nth_app2 p _ (by omega), nth_app1 (w1 ++ [d]) _ (by simp; omega), nth_app2 w1 _ (by omega)]
      have : j - 1 - p.length - w1.length = 0 := by omega
      rw [this]; simp [nth]
    have i1 : inR (j : Int) (lenI ((p ++ (w1 ++ [d] ++ c :: (w2 ++ r))).map Rw.e)) = true := in_i (by omega)
    have i2 : inR ((j - 1 : Nat) : Int) (lenI ((p ++ (w1 ++ [d] ++ c :: (w2 ++ r))).map Rw.e)) = true := in_i (by omega)
    by_cases hcd : Rw.lt c d
    · have hs' : Srt (w1 ++ d :: w2) := by simpa using hs
      obtain ⟨s1, s2, s3⟩ := List.pairwise_append.mp hs'
      obtain ⟨w, q1, q2, q3⟩ := ih w1 (d :: w2) p r c (j - 1) (by omega) hs' (fun y hy => by
        rcases List.mem_cons.mp hy with rfl | hy
        · exact hcd
        · exact hc y hy) (by simp only [List.length_append, List.length_cons] at *; omega) hi ha (by omega)
      refine ⟨w, q1.trans ?_, q2, ?_⟩
      · rw [List.append_assoc]
        exact List.Perm.append_left w1 (List.Perm.swap d c w2)
      · rw [L_slices_insertionSortCmpFunc_Row_1_eq, ltT (by omega), cond_true, w64_pred (by omega) (by omega), i1, i2, cond_true, cond_true]
        refine cmp_at (i := j) (j := j - 1) (by omega) (by omega) ?_
        rw [gn_c, lt_cmp0, hc0, hd0, decide_eq_true hcd, cond_true, cond_true, cond_true, cond_true]
        refine swap_eq3 (i := j - 1) (j := j) (l := p ++ (w1 ++ [d] ++ c :: (w2 ++ r))) (p := p ++ w1) (s := w2 ++ r) (a := d) (b := c) (by simp) (by simp; omega) (by omega) (by omega) (K := fun X => L_slices_insertionSortCmpFunc_Row_1 (a : Nat) (b : Nat) (i : Nat) ((j - 1 : Nat) : Int) X) ?_
        show L_slices_insertionSortCmpFunc_Row_1 _ _ _ _ _ = _
        rw [← q3]
        simp
    · refine ⟨w1 ++ [d] ++ c :: w2, List.Perm.refl _, ?_, ?_⟩
      · obtain ⟨s1, s2, s3⟩ := List.pairwise_append.mp hs
        refine List.pairwise_append.mpr ⟨s1, List.pairwise_cons.mpr ⟨fun y hy => Rw.lt_le (hc y hy), s2⟩, fun x hx y hy => ?_⟩
        rcases List.mem_cons.mp hy with rfl | hy
        · obtain ⟨t1, t2, t3⟩ := List.pairwise_append.mp s1
          rcases List.mem_append.mp hx with hx | hx
          · exact Rw.le_tr (t3 x hx d (by simp)) hcd
          · simp at hx; subst hx; exact hcd
        · exact s3 x hx y hy
      · rw [L_slices_insertionSortCmpFunc_Row_1_eq, ltT (by omega), cond_true, w64_pred (by omega) (by omega), i1, i2, cond_true, cond_true]
        refine cmp_at (i := j) (j := j - 1) (by omega) (by omega) ?_
        rw [gn_c, lt_cmp0, hc0, hd0, decide_eq_false hcd, cond_false, w64_s (by omega)]
        simp
theorem ins0 (a b : Nat) : ∀ (r w p s : List Rw) (i : Nat), Srt w → (p ++ (w ++ (r ++ s))).length < 1152921504606846976 → a = p.length → i = a + w.length → b = i + r.length →
    ∃ w', w'.Perm (w ++ r) ∧ Srt w' ∧ L_slices_insertionSortCmpFunc_Row_0 (a : Nat) (b : Nat) (i : Nat) ((p ++ (w ++ (r ++ s))).map Rw.e) = some [.sl ((p ++ (w' ++ s)).map Rw.e)]
  | [], w, p, s, i, hs, hl, ha, hi, hb => by
    refine ⟨w, by simp, hs, ?_⟩
    rw [L_slices_insertionSortCmpFunc_Row_0_eq, ltF (by simp at hb; omega), cond_false]
    rfl
  | c :: r, w, p, s, i, hs, hl, ha, hi, hb => by
    have hl' := hl
    simp only [List.length_append, List.length_cons] at hl' hb
    obtain ⟨w2, q1, q2, q3⟩ := ins1 a b i w.length w [] p (r ++ s) c i rfl (by simpa using hs) (fun y hy => by cases hy) (by simp only [List.length_append, List.length_cons, List.length_nil]; omega) (by omega) ha hi
    have hw2 : w2.length = w.length + 1 := by have := q1.length_eq; simpa using this
    obtain ⟨w', r1, r2, r3⟩ := ins0 a b r w2 p s (i + 1) q2 (by simp only [List.length_append]; omega) ha (by omega) (by omega)
    refine ⟨w', r1.trans ?_, r2, ?_⟩
    · refine (List.Perm.append_right r q1).trans ?_
      simp
    · rw [L_slices_insertionSortCmpFunc_Row_0_eq, ltT (by omega), cond_true]
      simp only [List.nil_append] at q3
      rw [show p ++ (w ++ (c :: r ++ s)) = p ++ (w ++ c :: (r ++ s)) by simp, q3]
      exact r3
theorem insSort (r p s : List Rw) (hl : (p ++ (r ++ s)).length < 1152921504606846976) {a b : Nat} (ha : a = p.length) (hb : b = a + r.length) :
    ∃ w, w.Perm r ∧ Srt w ∧ callI tE f_slices_insertionSortCmpFunc_Row [.sl ((p ++ (r ++ s)).map Rw.e), .int (a : Nat), .int (b : Nat)] = some [.sl ((p ++ (w ++ s)).map Rw.e)] := by
  have hl' := hl
  simp only [List.length_append] at hl'
  cases r with
  | nil =>
    refine ⟨[], List.Perm.refl _, List.Pairwise.nil, ?_⟩
    rw [c_slices_insertionSortCmpFunc_Row, w64_s (by omega), L_slices_insertionSortCmpFunc_Row_0_eq, ltF (by simp at hb; omega), cond_false]
  | cons c r =>
    simp only [List.length_cons] at hb hl'
    obtain ⟨w, q1, q2, q3⟩ := ins0 a b r [c] p s (a + 1) (List.pairwise_singleton _ _) (by simp only [List.length_append, List.length_cons, List.length_nil]; omega) ha rfl (by omega)
    refine ⟨w, by simpa using q1, q2, ?_⟩
    rw [c_slices_insertionSortCmpFunc_Row, w64_s (by omega)]
    exact q3
/-! blocks -/
def Blk (k : Nat) (l : List Rw) : Prop := ∀ i j, i ≤ j → j < l.length → i / k = j / k → Rw.le (nth l i) (nth l j)
theorem srt_of {l : List Rw} (h : ∀ i j, i ≤ j → j < l.length → Rw.le (nth l i) (nth l j)) : Srt l := by
  refine List.pairwise_iff_getElem.mpr fun i j hi hj hij => ?_
  have := h i j (by omega) hj
  simpa [nth, List.getD_eq_getElem?_getD, hi, hj] using this
theorem Blk.app {k : Nat} (_hk : 0 < k) {p w : List Rw} (hp : Blk k p) (hd : k ∣ p.length) (hw : Srt w) (hl : w.length ≤ k) : Blk k (p ++ w) := fun i j hij hj he => by
  obtain ⟨m, hm⟩ := hd
  simp only [List.length_append] at hj
  by_cases h1 : j < p.length
  · rw [nth_app1 p w (by omega), nth_app1 p w h1]
    exact hp i j hij h1 he
  · have h2 : p.length ≤ i := by
      by_cases h3 : i < p.length
      · exfalso
        have a1 : i / k < m := by rw [Nat.div_lt_iff_lt_mul _hk, Nat.mul_comm]; omega
        have a2 : m ≤ j / k := by rw [Nat.le_div_iff_mul_le _hk, Nat.mul_comm]; omega
        omega
      · omega
    rw [nth_app2 p w h2, nth_app2 p w (by omega)]
    exact srt_nth hw (by omega) (by omega)
theorem Blk.cut {k : Nat} (hk : 0 < k) {u r : List Rw} (h : Blk k (u ++ r)) (hu : u.length = k) : Srt u ∧ Blk k r := by
  refine ⟨srt_of fun i j hij hj => ?_, fun i j hij hj he => ?_⟩
  · have := h i j hij (by simp; omega) (by rw [Nat.div_eq_of_lt (by omega), Nat.div_eq_of_lt (by omega)])
    rwa [nth_app1 u r (by omega), nth_app1 u r hj] at this
  · have := h (u.length + i) (u.length + j) (by omega) (by simp; omega) (by rw [hu, Nat.add_div_left _ hk, Nat.add_div_left _ hk, he])
    rw [nth_app2 u r (by omega), nth_app2 u r (by omega)] at this
    simpa using this
theorem Blk.srt {k : Nat} {l : List Rw} (h : Blk k l) (hl : l.length ≤ k) : Srt l := srt_of fun i j hij hj => h i j hij hj (by rw [Nat.div_eq_of_lt (by omega), Nat.div_eq_of_lt (by omega)])
end Go.Proofs.Ytbmafhpbinjgaaa.Vai
