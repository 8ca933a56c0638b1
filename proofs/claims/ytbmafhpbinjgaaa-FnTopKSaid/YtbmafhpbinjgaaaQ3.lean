/- Two sorted neighbours merged in place; no condition. -/
import Derived.Test.YtbmafhpbinjgaaaQ2
namespace Go.Proofs.Ytbmafhpbinjgaaa.Vai
open Go
set_option linter.unusedSimpArgs false
set_option linter.unusedVariables false
set_option linter.unnecessarySimpa false
set_option maxRecDepth 10000
theorem cmp_at {x : List Rw} {i j : Nat} (hi : i < x.length) (hj : j < x.length) {X : Option (List Dat)} {K : List Dat → Option (List Dat)} (h : K [.int (cmpR (nth x i) (nth x j))] = X) :
    (callI tE f_impl_CompareRows [.int (gn (at' (x.map Rw.e) (tn (i : Int)))), .int (gn (tk 1 (at' (x.map Rw.e) (tn (i : Int))))), .int (gn (tk 2 (at' (x.map Rw.e) (tn (i : Int))))), .int (gn (at' (x.map Rw.e) (tn (j : Int)))), .int (gn (tk 1 (at' (x.map Rw.e) (tn (j : Int))))), .int (gn (tk 2 (at' (x.map Rw.e) (tn (j : Int)))))]).bind K = X := by
  simp only [tn_c, at_nth hi, at_nth hj, gk, gv, gw]
  rw [iCompare]
  exact h
theorem w64_add (a b : Nat) (h : a + b < 9223372036854775807) : w64 ((a : Int) + (b : Int)) = ((a + b : Nat) : Int) := by rw [w64_id ⟨by omega, by omega⟩]; omega
theorem w64_sub {a b : Nat} (h : b ≤ a) (h2 : a < 9223372036854775807) : w64 ((a : Int) - (b : Int)) = ((a - b : Nat) : Int) := by rw [w64_id ⟨by omega, by omega⟩]; omega
theorem w64_pred {a : Nat} (h : 1 ≤ a) (h2 : a < 9223372036854775807) : w64 ((a : Int) - 1) = ((a - 1 : Nat) : Int) := by rw [w64_id ⟨by omega, by omega⟩]; omega
/-- one row moved up -/
theorem up_ok (a m b : Int) : ∀ (v : List Rw) (c : Rw) (p s : List Rw) (k t : Nat), (p ++ c :: (v ++ s)).length < 1152921504606846976 → k = p.length → t = p.length + 1 + v.length →
    L_slices_symMergeCmpFunc_Row_3 a m b (t : Nat) (k : Nat) ((p ++ c :: (v ++ s)).map Rw.e) = some [.sl ((p ++ (v ++ c :: s)).map Rw.e)]
  | [], c, p, s, k, t, hl, hk, ht => by
    simp only [List.length_nil, List.length_append, List.length_cons] at ht hl
    rw [L_slices_symMergeCmpFunc_Row_3_eq, w64_pred (by omega) (by omega), ltF (by omega), cond_false]
    rfl
  | d :: v, c, p, s, k, t, hl, hk, ht => by
    have hl' := hl
    simp only [List.length_append, List.length_cons] at hl' ht
    rw [L_slices_symMergeCmpFunc_Row_3_eq, w64_pred (by omega) (by omega), ltT (by omega), cond_true, w64_s (by omega)]
    refine swap_eq (l := p ++ c :: (d :: v ++ s)) (p := p) (q := []) (s := v ++ s) (a := c) (b := d) (by simp) hk.symm (by simp; omega) (by omega) (K := fun X => L_slices_symMergeCmpFunc_Row_3 a m b (t : Nat) ((k + 1 : Nat) : Int) X) ?_
    have ih := up_ok a m b v c (p ++ [d]) s (k + 1) t (by simp only [List.length_append, List.length_cons, List.length_nil]; omega) (by simp; omega) (by simp; omega)
    show L_slices_symMergeCmpFunc_Row_3 _ _ _ _ _ _ = _
    rw [show p ++ d :: ([] ++ c :: (v ++ s)) = p ++ [d] ++ c :: (v ++ s) by simp, ih]
    simp
theorem down_ok (a m b : Int) : ∀ (n : Nat) (u : List Rw) (c : Rw) (p s : List Rw) (k t : Nat), u.length = n → (p ++ (u ++ c :: s)).length < 1152921504606846976 → k = p.length + u.length → t = p.length →
    L_slices_symMergeCmpFunc_Row_4 a m b (t : Nat) (k : Nat) ((p ++ (u ++ c :: s)).map Rw.e) = some [.sl ((p ++ c :: (u ++ s)).map Rw.e)] := by
  intro n
  induction n with
  | zero =>
    intro u c p s k t hn hl hk ht
    have : u = [] := List.length_eq_zero_iff.mp hn
    subst this
    simp only [List.length_nil] at hk
    rw [L_slices_symMergeCmpFunc_Row_4_eq, ltF (by omega), cond_false]
    rfl
  | succ n ih =>
    intro u c p s k t hn hl hk ht
    obtain ⟨u', d, rfl⟩ : ∃ u' d, u = u' ++ [d] := by
      obtain ⟨l', x, e⟩ := snoc_of (n := n) (l := u) hn
      exact ⟨l', x, e⟩
    simp only [List.length_append, List.length_cons, List.length_nil] at hl hk hn
    rw [L_slices_symMergeCmpFunc_Row_4_eq, ltT (by omega), cond_true, w64_pred (by omega) (by omega)]
    refine swap_eq2 (l := p ++ (u' ++ [d] ++ c :: s)) (p := p ++ u') (s := s) (a := d) (b := c) (by simp) (by simp; omega) (by omega) (by simp only [List.length_append, List.length_cons, List.length_nil]; omega) (K := fun X => L_slices_symMergeCmpFunc_Row_4 a m b (t : Nat) ((k - 1 : Nat) : Int) X) ?_
    have := ih u' c p (d :: s) (k - 1) t (by omega) (by simp only [List.length_append, List.length_cons]; omega) (by omega) ht
    show L_slices_symMergeCmpFunc_Row_4 _ _ _ _ _ _ = _
    rw [show p ++ u' ++ c :: d :: s = p ++ (u' ++ c :: (d :: s)) by simp, this]
    simp
/-- what merging gives -/
def Mg (u v w : List Rw) : Prop := w.Perm (u ++ v) ∧ Srt w
theorem Rw.le_lt {a b c : Rw} (h : Rw.le a b) (h2 : Rw.lt b c) : Rw.lt a c := by unfold Rw.le Rw.lt at *; omega
theorem Rw.lt_le_tr {a b c : Rw} (h : Rw.lt a b) (h2 : Rw.le b c) : Rw.lt a c := by unfold Rw.le Rw.lt at *; omega
theorem merge1 (c : Rw) (v p s : List Rw) (hv : Srt v) (hl : (p ++ (c :: (v ++ s))).length < 1152921504606846976) {a m b : Nat} (ha : a = p.length) (hm : m = a + 1) (hb : b = m + v.length) :
    ∃ w, Mg [c] v w ∧ L_slices_symMergeCmpFunc_Row_0 (a : Nat) (m : Nat) (b : Nat) (m : Nat) (b : Nat) ((p ++ c :: (v ++ s)).map Rw.e) = some [.sl ((p ++ (w ++ s)).map Rw.e)] := by
  have hl' := hl
  simp only [List.length_append, List.length_cons] at hl'
  have hxv : ∀ k, k < v.length → nth (p ++ c :: (v ++ s)) (m + k) = nth v k := fun k hk => by
    rw [show p ++ c :: (v ++ s) = (p ++ [c]) ++ (v ++ s) by simp, nth_app2 _ _ (by simp; omega), nth_app1 _ _ (by simp; omega)]
    congr 1
    simp; omega
  have hxa : nth (p ++ c :: (v ++ s)) a = c := by rw [nth_app2 _ _ (by omega), ha]; simp [nth]
  have hxl : (p ++ c :: (v ++ s)).length = p.length + 1 + v.length + s.length := by simp; omega
  obtain ⟨t, t1, t2, t3⟩ := split_ex (fun h => Rw.lt (nth (p ++ c :: (v ++ s)) h) c) m v.length (fun i j h1 h2 h3 h4 => by
    have e1 := hxv (i - m) (by omega)
    have e2 := hxv (j - m) (by omega)
    rw [show m + (i - m) = i by omega] at e1
    rw [show m + (j - m) = j by omega] at e2
    rw [e1]
    rw [e2] at h4
    exact Rw.le_lt (srt_nth hv (by omega) (by omega)) h4)
  have hb2 := bs (L := fun i j : Nat => L_slices_symMergeCmpFunc_Row_0 (a : Nat) (m : Nat) (b : Nat) (i : Nat) (j : Nat) ((p ++ c :: (v ++ s)).map Rw.e)) (K := fun t : Nat => L_slices_symMergeCmpFunc_Row_3 (a : Nat) (m : Nat) (b : Nat) (t : Nat) (a : Nat) ((p ++ c :: (v ++ s)).map Rw.e)) (t := t) (lo := m) (hi := b)
    (fun i j h1 h2 h3 => by
      show L_slices_symMergeCmpFunc_Row_0 _ _ _ _ _ _ = _
      rw [L_slices_symMergeCmpFunc_Row_0_eq, ltT (by omega), cond_true, half_ok i j (by omega), in_i (by omega), in_i (by omega), cond_true, cond_true]
      refine cmp_at (by omega) (by omega) ?_
      rw [gn_c, lt_cmp0, hxa]
      have := t3 ((i + j) / 2) (by omega) (by omega)
      by_cases hc : (i + j) / 2 < t
      · rw [if_pos hc, decide_eq_true (this.mpr hc), cond_true, w64_s (by omega)]
      · rw [if_neg hc, decide_eq_false (fun h => hc (this.mp h)), cond_false])
    (fun i h1 h2 => by
      show L_slices_symMergeCmpFunc_Row_0 _ _ _ _ _ _ = _
      rw [L_slices_symMergeCmpFunc_Row_0_eq, ltF (Int.le_refl _), cond_false])
    (b - m) m b (Nat.le_refl _) (Nat.le_refl _) t1 (by omega) (Nat.le_refl _)
  obtain ⟨v1, v2, rfl, hv1⟩ := cut_at (u := v) (t := t - m) (by omega)
  refine ⟨v1 ++ c :: v2, ⟨List.perm_middle, ?_⟩, ?_⟩
  · obtain ⟨s1, s2, s3⟩ := List.pairwise_append.mp hv
    simp only [List.length_append] at *
    refine List.pairwise_append.mpr ⟨s1, List.pairwise_cons.mpr ⟨fun y hy => ?_, s2⟩, fun x hx y hy => ?_⟩
    · obtain ⟨k, hk, rfl⟩ := mem_nth hy
      have h1 := hxv (v1.length + k) (by omega)
      rw [nth_app2 v1 v2 (by omega), show v1.length + k - v1.length = k by omega] at h1
      have h2 := t3 (m + (v1.length + k)) (by omega) (by omega)
      rw [h1] at h2
      exact fun h => by have := h2.mp h; omega
    · rcases List.mem_cons.mp hy with rfl | hy
      · obtain ⟨k, hk, rfl⟩ := mem_nth hx
        have h1 := hxv k (by omega)
        rw [nth_app1 v1 v2 hk] at h1
        have h2 := t3 (m + k) (by omega) (by omega)
        rw [h1] at h2
        exact Rw.lt_le (h2.mpr (by omega))
      · exact s3 x hx y hy
  · refine hb2.trans ?_
    show L_slices_symMergeCmpFunc_Row_3 _ _ _ _ _ _ = _
    simp only [List.length_append] at *
    rw [show p ++ c :: (v1 ++ v2 ++ s) = p ++ c :: (v1 ++ (v2 ++ s)) by simp, up_ok _ _ _ v1 c p (v2 ++ s) a t (by simp only [List.length_append, List.length_cons]; omega) ha (by omega)]
    simp
theorem merge2 (c : Rw) (u p s : List Rw) (hu : Srt u) (hl : (p ++ (u ++ c :: s)).length < 1152921504606846976) {a m b : Nat} (ha : a = p.length) (hm : m = a + u.length) (hb : b = m + 1) :
    ∃ w, Mg u [c] w ∧ L_slices_symMergeCmpFunc_Row_1 (a : Nat) (m : Nat) (b : Nat) (a : Nat) (m : Nat) ((p ++ (u ++ c :: s)).map Rw.e) = some [.sl ((p ++ (w ++ s)).map Rw.e)] := by
  have hl' := hl
  simp only [List.length_append, List.length_cons] at hl'
  have hxu : ∀ k, k < u.length → nth (p ++ (u ++ c :: s)) (a + k) = nth u k := fun k hk => by
    rw [nth_app2 _ _ (by omega), nth_app1 _ _ (by omega)]
    congr 1
    omega
  have hxm : nth (p ++ (u ++ c :: s)) m = c := by rw [nth_app2 _ _ (by omega), nth_app2 _ _ (by omega), show m - p.length - u.length = 0 by omega]; simp [nth]
  have hxl : (p ++ (u ++ c :: s)).length = p.length + u.length + 1 + s.length := by simp; omega
  obtain ⟨t, t1, t2, t3⟩ := split_ex (fun h => Rw.le (nth (p ++ (u ++ c :: s)) h) c) a u.length (fun i j h1 h2 h3 h4 => by
    have e1 := hxu (i - a) (by omega)
    have e2 := hxu (j - a) (by omega)
    rw [show a + (i - a) = i by omega] at e1
    rw [show a + (j - a) = j by omega] at e2
    rw [e1]
    rw [e2] at h4
    exact Rw.le_tr (srt_nth hu (by omega) (by omega)) h4)
  have hb2 := bs (L := fun i j : Nat => L_slices_symMergeCmpFunc_Row_1 (a : Nat) (m : Nat) (b : Nat) (i : Nat) (j : Nat) ((p ++ (u ++ c :: s)).map Rw.e)) (K := fun t : Nat => L_slices_symMergeCmpFunc_Row_4 (a : Nat) (m : Nat) (b : Nat) (t : Nat) (m : Nat) ((p ++ (u ++ c :: s)).map Rw.e)) (t := t) (lo := a) (hi := m)
    (fun i j h1 h2 h3 => by
      show L_slices_symMergeCmpFunc_Row_1 _ _ _ _ _ _ = _
      rw [L_slices_symMergeCmpFunc_Row_1_eq, ltT (by omega), cond_true, half_ok i j (by omega), in_i (by omega), in_i (by omega), cond_true, cond_true]
      refine cmp_at (by omega) (by omega) ?_
      rw [gn_c, lt_cmp0, hxm]
      have := t3 ((i + j) / 2) (by omega) (by omega)
      by_cases hc : (i + j) / 2 < t
      · rw [if_pos hc, decide_eq_false (this.mpr hc), Bool.not_false, cond_true, w64_s (by omega)]
      · rw [if_neg hc, decide_eq_true (Decidable.not_not.mp fun h => hc (this.mp h)), Bool.not_true, cond_false])
    (fun i h1 h2 => by
      show L_slices_symMergeCmpFunc_Row_1 _ _ _ _ _ _ = _
      rw [L_slices_symMergeCmpFunc_Row_1_eq, ltF (Int.le_refl _), cond_false])
    (m - a) a m (Nat.le_refl _) (Nat.le_refl _) t1 (by omega) (Nat.le_refl _)
  obtain ⟨u1, u2, rfl, hu1⟩ := cut_at (u := u) (t := t - a) (by omega)
  refine ⟨u1 ++ c :: u2, ⟨?_, ?_⟩, ?_⟩
  · rw [List.append_assoc]
    exact List.Perm.append_left u1 (by simpa using (List.perm_append_comm (l₁ := [c]) (l₂ := u2)))
  · obtain ⟨s1, s2, s3⟩ := List.pairwise_append.mp hu
    simp only [List.length_append] at *
    refine List.pairwise_append.mpr ⟨s1, List.pairwise_cons.mpr ⟨fun y hy => ?_, s2⟩, fun x hx y hy => ?_⟩
    · obtain ⟨k, hk, rfl⟩ := mem_nth hy
      have h1 := hxu (u1.length + k) (by omega)
      rw [nth_app2 u1 u2 (by omega), show u1.length + k - u1.length = k by omega] at h1
      have h2 := t3 (a + (u1.length + k)) (by omega) (by omega)
      rw [h1] at h2
      exact Rw.lt_le (Decidable.not_not.mp fun h => by have := h2.mp h; omega)
    · rcases List.mem_cons.mp hy with rfl | hy
      · obtain ⟨k, hk, rfl⟩ := mem_nth hx
        have h1 := hxu k (by omega)
        rw [nth_app1 u1 u2 hk] at h1
        have h2 := t3 (a + k) (by omega) (by omega)
        rw [h1] at h2
        exact h2.mpr (by omega)
      · exact s3 x hx y hy
  · refine hb2.trans ?_
    show L_slices_symMergeCmpFunc_Row_4 _ _ _ _ _ _ = _
    simp only [List.length_append] at *
    rw [show p ++ (u1 ++ u2 ++ c :: s) = p ++ u1 ++ (u2 ++ c :: s) by simp, down_ok _ _ _ u2.length u2 c (p ++ u1) s m t rfl (by simp only [List.length_append, List.length_cons]; omega) (by simp; omega) (by simp; omega)]
    simp
end Go.Proofs.Ytbmafhpbinjgaaa.Vai
