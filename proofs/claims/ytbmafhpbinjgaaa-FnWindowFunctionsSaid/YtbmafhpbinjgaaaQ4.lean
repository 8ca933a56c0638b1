/- Two sorted neighbours merged in place, by halves; no condition. -/
import Derived.Test.YtbmafhpbinjgaaaQ3
namespace Go.Proofs.Ytbmafhpbinjgaaa.Vai
open Go
set_option linter.unusedSimpArgs false
set_option linter.unusedVariables false
set_option linter.unnecessarySimpa false
set_option maxRecDepth 10000
noncomputable def mgR (mid e b : Int) (Z : Rows) : Option (List Dat) :=
  bif ltI mid e then (bif ltI e b then ((callI tE f_slices_symMergeCmpFunc_Row [.sl Z, .int mid, .int e, .int b]).bind fun r => some [.sl (gl r)]) else some [.sl Z]) else some [.sl Z]
noncomputable def mgL (a t mid e b : Int) (Z : Rows) : Option (List Dat) :=
  bif ltI a t then (bif ltI t mid then ((callI tE f_slices_symMergeCmpFunc_Row [.sl Z, .int a, .int t, .int mid]).bind fun r => mgR mid e b (gl r)) else mgR mid e b Z) else mgR mid e b Z
theorem exit_eq (a m b mid n t q : Int) (X : Rows) (h : t = t) : L_slices_symMergeCmpFunc_Row_2 a m b mid n t t q X =
    bif ltI t m then (bif ltI m (w64 (n - t)) then ((callI tE f_slices_rotateCmpFunc_Row [.sl X, .int t, .int m, .int (w64 (n - t))]).bind fun r => mgL a t mid (w64 (n - t)) b (gl r)) else mgL a t mid (w64 (n - t)) b X) else mgL a t mid (w64 (n - t)) b X := by
  rw [L_slices_symMergeCmpFunc_Row_2_eq, ltF (Int.le_refl _), cond_false]
  rfl
/-- what is to be shown of merging up to n rows -/
def MgOk (n : Nat) : Prop := ∀ (u v p s : List Rw), u.length + v.length ≤ n → 0 < u.length → 0 < v.length → Srt u → Srt v → (p ++ (u ++ (v ++ s))).length < 1152921504606846976 → ∃ w, Mg u v w ∧
  ∀ (a m b : Int), a = (p.length : Nat) → m = ((p.length + u.length : Nat) : Int) → b = ((p.length + u.length + v.length : Nat) : Int) →
    callI tE f_slices_symMergeCmpFunc_Row [.sl ((p ++ (u ++ (v ++ s))).map Rw.e), .int a, .int m, .int b] = some [.sl ((p ++ (w ++ s)).map Rw.e)]
theorem mg_nil1 {v : List Rw} (h : Srt v) : Mg [] v ([] ++ v) := ⟨List.Perm.refl _, by simpa using h⟩
theorem mg_nil2 {u : List Rw} (h : Srt u) : Mg u [] (u ++ []) := ⟨List.Perm.refl _, by simpa using h⟩
theorem nil_of {α : Type} {l : List α} (h : ¬ 0 < l.length) : l = [] := List.length_eq_zero_iff.mp (by omega)
theorem mgR_ok {n : Nat} (ih : MgOk n) (u v p s : List Rw) (hn : u.length + v.length ≤ n) (hu : Srt u) (hv : Srt v) (hl : (p ++ (u ++ (v ++ s))).length < 1152921504606846976) {mid e b : Int} (h1 : mid = (p.length : Nat)) (h2 : e = ((p.length + u.length : Nat) : Int)) (h3 : b = ((p.length + u.length + v.length : Nat) : Int)) :
    ∃ w, Mg u v w ∧ mgR mid e b ((p ++ (u ++ (v ++ s))).map Rw.e) = some [.sl ((p ++ (w ++ s)).map Rw.e)] := by
  unfold mgR
  by_cases c1 : 0 < u.length
  · by_cases c2 : 0 < v.length
    · obtain ⟨w, w1, w2⟩ := ih u v p s hn c1 c2 hu hv hl
      refine ⟨w, w1, ?_⟩
      rw [ltT (by omega), cond_true, ltT (by omega), cond_true, w2 mid e b h1 h2 h3]
      rfl
    · have := nil_of c2
      subst this
      refine ⟨_, mg_nil2 hu, ?_⟩
      rw [ltT (by omega), cond_true, ltF (by simp at h3; omega), cond_false]
      simp
  · have := nil_of c1
    subst this
    refine ⟨_, mg_nil1 hv, ?_⟩
    rw [ltF (by simp at h2; omega), cond_false]
    simp
theorem mgL_ok {n : Nat} (ih : MgOk n) (u1 v1 u2 v2 p s : List Rw) (hn1 : u1.length + v1.length ≤ n) (hn2 : u2.length + v2.length ≤ n) (hu1 : Srt u1) (hv1 : Srt v1) (hu2 : Srt u2) (hv2 : Srt v2)
    (hl : (p ++ (u1 ++ (v1 ++ (u2 ++ (v2 ++ s))))).length < 1152921504606846976) {a t mid e b : Int} (h0 : a = (p.length : Nat)) (h1 : t = ((p.length + u1.length : Nat) : Int)) (h2 : mid = ((p.length + u1.length + v1.length : Nat) : Int)) (h3 : e = ((p.length + u1.length + v1.length + u2.length : Nat) : Int)) (h4 : b = ((p.length + u1.length + v1.length + u2.length + v2.length : Nat) : Int)) :
    ∃ w1 w2, Mg u1 v1 w1 ∧ Mg u2 v2 w2 ∧ mgL a t mid e b ((p ++ (u1 ++ (v1 ++ (u2 ++ (v2 ++ s))))).map Rw.e) = some [.sl ((p ++ (w1 ++ w2 ++ s)).map Rw.e)] := by
  have hl' := hl
  simp only [List.length_append] at hl'
  -- the left side
  have left : ∃ w1, Mg u1 v1 w1 ∧ mgL a t mid e b ((p ++ (u1 ++ (v1 ++ (u2 ++ (v2 ++ s))))).map Rw.e) = mgR mid e b ((p ++ (w1 ++ (u2 ++ (v2 ++ s)))).map Rw.e) := by
    unfold mgL
    by_cases c1 : 0 < u1.length
    · by_cases c2 : 0 < v1.length
      · obtain ⟨w, w1, w2⟩ := ih u1 v1 p (u2 ++ (v2 ++ s)) hn1 c1 c2 hu1 hv1 hl
        refine ⟨w, w1, ?_⟩
        rw [ltT (by omega), cond_true, ltT (by omega), cond_true, w2 a t mid h0 h1 h2]
        rfl
      · have := nil_of c2
        subst this
        refine ⟨_, mg_nil2 hu1, ?_⟩
        rw [ltT (by omega), cond_true, ltF (by simp at h2; omega), cond_false]
        simp
    · have := nil_of c1
      subst this
      refine ⟨_, mg_nil1 hv1, ?_⟩
      rw [ltF (by simp at h1; omega), cond_false]
      simp
  obtain ⟨w1, m1, e1⟩ := left
  have hw1 : w1.length = u1.length + v1.length := by have := m1.1.length_eq; simpa using this
  obtain ⟨w2, m2, e2⟩ := mgR_ok ih u2 v2 (p ++ w1) s hn2 hu2 hv2 (by simp only [List.length_append]; omega) (mid := mid) (e := e) (b := b) (by simp only [List.length_append]; omega) (by simp only [List.length_append]; omega) (by simp only [List.length_append]; omega)
  refine ⟨w1, w2, m1, m2, ?_⟩
  rw [e1, show p ++ (w1 ++ (u2 ++ (v2 ++ s))) = p ++ w1 ++ (u2 ++ (v2 ++ s)) by simp, e2]
  simp
theorem mg_join {u1 u2 v1 v2 w1 w2 : List Rw} (hu : Srt (u1 ++ u2)) (hv : Srt (v1 ++ v2)) (m1 : Mg u1 v1 w1) (m2 : Mg u2 v2 w2) (h1 : ∀ x ∈ u1, ∀ y ∈ v2, Rw.le x y) (h2 : ∀ x ∈ v1, ∀ y ∈ u2, Rw.le x y) : Mg (u1 ++ u2) (v1 ++ v2) (w1 ++ w2) := by
  refine ⟨(m1.1.append m2.1).trans ?_, List.pairwise_append.mpr ⟨m1.2, m2.2, fun x hx y hy => ?_⟩⟩
  · rw [List.append_assoc, List.append_assoc]
    refine List.Perm.append_left u1 ?_
    rw [← List.append_assoc, ← List.append_assoc]
    exact List.Perm.append_right v2 List.perm_append_comm
  · obtain ⟨_, _, a3⟩ := List.pairwise_append.mp hu
    obtain ⟨_, _, b3⟩ := List.pairwise_append.mp hv
    have hx := m1.1.mem_iff.mp hx
    have hy := m2.1.mem_iff.mp hy
    rcases List.mem_append.mp hx with hx | hx <;> rcases List.mem_append.mp hy with hy | hy
    · exact a3 x hx y hy
    · exact h1 x hx y hy
    · exact h2 x hx y hy
    · exact b3 x hx y hy
theorem mg_main {n : Nat} (ih : MgOk n) (u v p s : List Rw) (hn : u.length + v.length ≤ n + 1) (hu0 : 0 < u.length) (hv0 : 0 < v.length) (hu : Srt u) (hv : Srt v) (hl : (p ++ (u ++ (v ++ s))).length < 1152921504606846976) {a m b mid lo hi : Nat} (ha : a = p.length) (hm : m = a + u.length) (hb : b = m + v.length) (hmid : mid = (a + b) / 2)
    (c1 : lo ≤ hi) (c2 : a ≤ lo) (c3 : hi ≤ m) (c4 : mid + m ≤ lo + b) (c5 : hi ≤ mid) (c6 : lo = a ∨ lo + b = mid + m) (c7 : hi = m ∨ hi = mid) :
    ∃ w, Mg u v w ∧ L_slices_symMergeCmpFunc_Row_2 (a : Nat) (m : Nat) (b : Nat) (mid : Nat) ((mid + m : Nat) : Int) (lo : Nat) (hi : Nat) ((mid + m - 1 : Nat) : Int) ((p ++ (u ++ (v ++ s))).map Rw.e) = some [.sl ((p ++ (w ++ s)).map Rw.e)] := by
  have hl' := hl
  simp only [List.length_append] at hl'
  have hxl : (p ++ (u ++ (v ++ s))).length = p.length + u.length + v.length + s.length := by simp only [List.length_append]; omega
  have hxu : ∀ k, k < u.length → nth (p ++ (u ++ (v ++ s))) (a + k) = nth u k := fun k hk => by
    rw [nth_app2 p _ (by omega), nth_app1 u _ (by omega)]
    congr 1
    omega
  have hxv : ∀ k, k < v.length → nth (p ++ (u ++ (v ++ s))) (m + k) = nth v k := fun k hk => by
    rw [nth_app2 p _ (by omega), nth_app2 u _ (by omega), nth_app1 v _ (by omega)]
    congr 1
    omega
  have mu' : ∀ i j, a ≤ i → i ≤ j → j < m → Rw.le (nth (p ++ (u ++ (v ++ s))) i) (nth (p ++ (u ++ (v ++ s))) j) := fun i j h1 h2 h3 => by
    have e1 := hxu (i - a) (by omega)
    have e2 := hxu (j - a) (by omega)
    rw [show a + (i - a) = i by omega] at e1
    rw [show a + (j - a) = j by omega] at e2
    rw [e1, e2]
    exact srt_nth hu (by omega) (by omega)
  have mv' : ∀ i j, m ≤ i → i ≤ j → j < b → Rw.le (nth (p ++ (u ++ (v ++ s))) i) (nth (p ++ (u ++ (v ++ s))) j) := fun i j h1 h2 h3 => by
    have e1 := hxv (i - m) (by omega)
    have e2 := hxv (j - m) (by omega)
    rw [show m + (i - m) = i by omega] at e1
    rw [show m + (j - m) = j by omega] at e2
    rw [e1, e2]
    exact srt_nth hv (by omega) (by omega)
  obtain ⟨t, t1, t2, t3⟩ := split_ex (fun c => Rw.le (nth (p ++ (u ++ (v ++ s))) c) (nth (p ++ (u ++ (v ++ s))) (mid + m - 1 - c))) lo (hi - lo) (fun c d h1 h2 h3 h4 =>
    Rw.le_tr (mu' c d (by omega) h2 (by omega)) (Rw.le_tr h4 (mv' _ _ (by omega) (by omega) (by omega))))
  rw [show lo + (hi - lo) = hi by omega] at t2 t3
  have hb2 := bs (L := fun i j : Nat => L_slices_symMergeCmpFunc_Row_2 (a : Nat) (m : Nat) (b : Nat) (mid : Nat) ((mid + m : Nat) : Int) (i : Nat) (j : Nat) ((mid + m - 1 : Nat) : Int) ((p ++ (u ++ (v ++ s))).map Rw.e))
    (K := fun t : Nat => L_slices_symMergeCmpFunc_Row_2 (a : Nat) (m : Nat) (b : Nat) (mid : Nat) ((mid + m : Nat) : Int) (t : Nat) (t : Nat) ((mid + m - 1 : Nat) : Int) ((p ++ (u ++ (v ++ s))).map Rw.e)) (t := t) (lo := lo) (hi := hi)
    (fun i j h1 h2 h3 => by
      show L_slices_symMergeCmpFunc_Row_2 _ _ _ _ _ _ _ _ _ = _
      rw [L_slices_symMergeCmpFunc_Row_2_eq, ltT (by omega), cond_true, half_ok i j (by omega), w64_sub (a := mid + m - 1) (b := (i + j) / 2) (by omega) (by omega), in_i (by omega), in_i (by omega), cond_true, cond_true]
      refine cmp_at (by omega) (by omega) ?_
      rw [gn_c, lt_cmp0]
      have := t3 ((i + j) / 2) (by omega) (by omega)
      by_cases hc : (i + j) / 2 < t
      · rw [if_pos hc, decide_eq_false (this.mpr hc), Bool.not_false, cond_true, w64_s (by omega)]
      · rw [if_neg hc, decide_eq_true (Decidable.not_not.mp fun h => hc (this.mp h)), Bool.not_true, cond_false])
    (fun i h1 h2 => rfl) (hi - lo) lo hi (Nat.le_refl _) (Nat.le_refl _) t1 t2 (Nat.le_refl _)
  obtain ⟨u1, u2, rfl, hu1⟩ := cut_at (u := u) (t := t - a) (by omega)
  obtain ⟨v1, v2, rfl, hv1⟩ := cut_at (u := v) (t := mid - t) (by omega)
  simp only [List.length_append] at hn hu0 hv0 hl' hm hb hxu hxv
  have x1 : ∀ x ∈ u1, ∀ y ∈ v2, Rw.le x y := fun x hx y hy => by
    obtain ⟨i, hi1, rfl⟩ := mem_nth hx
    obtain ⟨j, hj1, rfl⟩ := mem_nth hy
    have e1 := hxu i (by omega)
    have e2 := hxv (v1.length + j) (by omega)
    rw [nth_app1 u1 u2 hi1] at e1
    rw [nth_app2 v1 v2 (by omega), show v1.length + j - v1.length = j by omega] at e2
    rw [← e1, ← e2]
    have hp := (t3 (t - 1) (by omega) (by omega)).mpr (by omega)
    exact Rw.le_tr (mu' _ (t - 1) (by omega) (by omega) (by omega)) (Rw.le_tr hp (mv' _ _ (by omega) (by omega) (by omega)))
  have x2 : ∀ x ∈ v1, ∀ y ∈ u2, Rw.le x y := fun x hx y hy => by
    obtain ⟨i, hi1, rfl⟩ := mem_nth hx
    obtain ⟨j, hj1, rfl⟩ := mem_nth hy
    have e1 := hxv i (by omega)
    have e2 := hxu (u1.length + j) (by omega)
    rw [nth_app1 v1 v2 hi1] at e1
    rw [nth_app2 u1 u2 (by omega), show u1.length + j - u1.length = j by omega] at e2
    rw [← e1, ← e2]
    have hp : ¬ Rw.le _ _ := fun h => by have := (t3 t (by omega) (by omega)).mp h; omega
    exact Rw.le_tr (mv' _ (mid + m - 1 - t) (by omega) (by omega) (by omega)) (Rw.le_tr (Rw.lt_le (Decidable.not_not.mp hp)) (mu' t _ (by omega) (by omega) (by omega)))
  obtain ⟨su1, su2, _⟩ := List.pairwise_append.mp hu
  obtain ⟨sv1, sv2, _⟩ := List.pairwise_append.mp hv
  obtain ⟨w1, w2, m1, m2, hw⟩ := mgL_ok ih u1 v1 u2 v2 p s (by omega) (by omega) su1 sv1 su2 sv2 (by simp only [List.length_append]; omega) (a := (a : Nat)) (t := (t : Nat)) (mid := (mid : Nat)) (e := ((mid + m - t : Nat) : Int)) (b := (b : Nat)) (by omega) (by omega) (by omega) (by omega) (by omega)
  refine ⟨w1 ++ w2, mg_join hu hv m1 m2 x1 x2, hb2.trans ?_⟩
  show L_slices_symMergeCmpFunc_Row_2 _ _ _ _ _ _ _ _ _ = _
  rw [exit_eq _ _ _ _ _ _ _ _ rfl, w64_sub (by omega) (by omega)]
  by_cases d1 : 0 < u2.length
  · by_cases d2 : 0 < v1.length
    · have := rotate (p ++ u1) u2 v1 (v2 ++ s) d1 d2 (by simp only [List.length_append]; omega) (a := (t : Nat)) (m := (m : Nat)) (b := ((mid + m - t : Nat) : Int)) (by simp only [List.length_append]; omega) (by simp only [List.length_append]; omega) (by simp only [List.length_append]; omega)
      rw [ltT (by omega), cond_true, ltT (by omega), cond_true, show p ++ (u1 ++ u2 ++ (v1 ++ v2 ++ s)) = p ++ u1 ++ (u2 ++ (v1 ++ (v2 ++ s))) by simp, this]
      simp only [gn_c, gb_c, gs_c, gl_c, tk_s, tk_0, List.drop_succ_cons, List.drop_zero, List.headD_cons, List.getD_cons_zero, List.getD_cons_succ, bind_s]
      rw [show p ++ u1 ++ (v1 ++ (u2 ++ (v2 ++ s))) = p ++ (u1 ++ (v1 ++ (u2 ++ (v2 ++ s)))) by simp]
      exact hw
    · have := nil_of d2
      subst this
      rw [ltT (by omega), cond_true, ltF (by simp at hv1; omega), cond_false]
      simpa using hw
  · have := nil_of d1
    subst this
    rw [ltF (by simp at hm; omega), cond_false]
    simpa using hw
theorem mg_ok : ∀ n, MgOk n
  | 0 => fun u v p s h h1 => by omega
  | n + 1 => fun u v p s h hu0 hv0 hu hv hl => by
    have ih := mg_ok n
    have hl' := hl
    simp only [List.length_append] at hl'
    by_cases c1 : u.length = 1
    · obtain ⟨c, rfl⟩ := List.length_eq_one_iff.mp c1
      obtain ⟨w, w1, w2⟩ := merge1 c v p s hv hl (a := p.length) (m := p.length + 1) (b := p.length + 1 + v.length) rfl rfl rfl
      refine ⟨w, w1, fun a m b ha hm hb => ?_⟩
      subst ha; subst hm; subst hb
      rw [c_slices_symMergeCmpFunc_Row, w64_sub (by omega) (by omega), eqT (by simp), cond_true]
      exact w2
    · by_cases c2 : v.length = 1
      · obtain ⟨c, rfl⟩ := List.length_eq_one_iff.mp c2
        obtain ⟨w, w1, w2⟩ := merge2 c u p s hu hl (a := p.length) (m := p.length + u.length) (b := p.length + u.length + 1) rfl rfl rfl
        refine ⟨w, w1, fun a m b ha hm hb => ?_⟩
        subst ha; subst hm; subst hb
        rw [c_slices_symMergeCmpFunc_Row, w64_sub (by omega) (by omega), eqF (by omega), cond_false, w64_sub (by omega) (by omega), eqT (by simp), cond_true]
        exact w2
      · by_cases c3 : (p.length + (p.length + u.length + v.length)) / 2 < p.length + u.length
        · obtain ⟨w, w1, w2⟩ := mg_main ih u v p s h hu0 hv0 hu hv hl (a := p.length) (m := p.length + u.length) (b := p.length + u.length + v.length) (mid := (p.length + (p.length + u.length + v.length)) / 2) (lo := (p.length + (p.length + u.length + v.length)) / 2 + (p.length + u.length) - (p.length + u.length + v.length)) (hi := (p.length + (p.length + u.length + v.length)) / 2) rfl rfl rfl rfl (by omega) (by omega) (by omega) (by omega) (by omega) (by omega) (.inr rfl)
          refine ⟨w, w1, fun a m b ha hm hb => ?_⟩
          subst ha; subst hm; subst hb
          rw [c_slices_symMergeCmpFunc_Row, w64_sub (by omega) (by omega), eqF (by omega), cond_false, w64_sub (by omega) (by omega), eqF (by omega), cond_false, half_ok _ _ (by omega), ltT (by omega), cond_true, w64_add _ _ (by omega), w64_sub (by omega) (by omega), w64_pred (by omega) (by omega)]
          exact w2
        · obtain ⟨w, w1, w2⟩ := mg_main ih u v p s h hu0 hv0 hu hv hl (a := p.length) (m := p.length + u.length) (b := p.length + u.length + v.length) (mid := (p.length + (p.length + u.length + v.length)) / 2) (lo := p.length) (hi := p.length + u.length) rfl rfl rfl rfl (by omega) (by omega) (by omega) (by omega) (by omega) (.inl rfl) (.inl rfl)
          refine ⟨w, w1, fun a m b ha hm hb => ?_⟩
          subst ha; subst hm; subst hb
          rw [c_slices_symMergeCmpFunc_Row, w64_sub (by omega) (by omega), eqF (by omega), cond_false, w64_sub (by omega) (by omega), eqF (by omega), cond_false, half_ok _ _ (by omega), ltF (by omega), cond_false, w64_add _ _ (by omega), w64_pred (by omega) (by omega)]
          exact w2
end Go.Proofs.Ytbmafhpbinjgaaa.Vai
