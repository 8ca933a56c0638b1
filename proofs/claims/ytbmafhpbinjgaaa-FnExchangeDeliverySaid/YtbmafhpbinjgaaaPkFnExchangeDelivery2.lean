/- What the law of this claim leans on; no condition. -/
import Derived.Test.YtbmafhpbinjgaaaPkFnExchangeDelivery1
namespace Go.Proofs.Ytbmafhpbinjgaaa.Vai
open Go
set_option linter.unusedSimpArgs false
set_option linter.unusedVariables false
set_option linter.unnecessarySimpa false
set_option maxRecDepth 10000
noncomputable def mgR (mid e b : Int) (Z : Rows) : Option (List Dat) :=
  bif ltI mid e then (bif ltI e b then ((callI tE f_slices_symMergeCmpFunc_Row [.sl Z, .int mid, .int e, .int b]).bind fun r => some [.sl (gl r)]) else some [.sl Z]) else some [.sl Z]
noncomputable def mgL (a t mid e b : Int) (Z : Rows) : Option (List Dat) :=
  bif ltI a t then (bif ltI t mid then ((callI tE f_slices_symMergeCmpFunc_Row [.sl Z, .int a, .int t, .int mid]).bind fun r => mgR mid e b (gl r)) else mgR mid e b Z) else mgR mid e b Z
theorem exit_eq (a m b mid n t q : Int) (X : Rows) (h : t = t) : L_slices_symMergeCmpFunc_Row_2 a m b mid n t t q X =
    bif ltI t m then (bif ltI m (w64 (n - t)) then ((callI tE f_slices_rotateCmpFunc_Row [.sl X, .int t, .int m, .int (w64 (n - t))]).bind fun r => mgL a t mid (w64 (n - t)) b (gl r)) else mgL a t mid (w64 (n - t)) b X) else mgL a t mid (w64 (n - t)) b X := by
  rw [L_slices_symMergeCmpFunc_Row_2_eq, ltF (Int.le_refl _), cond_false]
  rfl
def MgOk (n : Nat) : Prop := ∀ (u v p s : List Rw), u.length + v.length ≤ n → 0 < u.length → 0 < v.length → Srt u → Srt v → (p ++ (u ++ (v ++ s))).length < 1152921504606846976 → ∃ w, Mg u v w ∧
  ∀ (a m b : Int), a = (p.length : Nat) → m = ((p.length + u.length : Nat) : Int) → b = ((p.length + u.length + v.length : Nat) : Int) →
    callI tE f_slices_symMergeCmpFunc_Row [.sl ((p ++ (u ++ (v ++ s))).map Rw.e), .int a, .int m, .int b] = some [.sl ((p ++ (w ++ s)).map Rw.e)]
theorem mg_nil1 {v : List Rw} (h : Srt v) : Mg [] v ([] ++ v) := ⟨List.Perm.refl _, by simpa using h⟩
theorem mg_nil2 {u : List Rw} (h : Srt u) : Mg u [] (u ++ []) := ⟨List.Perm.refl _, by simpa using h⟩
theorem nil_of {α : Type} {l : List α} (h : ¬ 0 < l.length) : l = [] := List.length_eq_zero_iff.mp (by omega)
theorem mgR_ok {n : Nat} (ih : MgOk n) (u v p s : List Rw) (hn : u.length + v.length ≤ n) (hu : Srt u) (hv : Srt v) (hl : (p ++ (u ++ (v ++ s))).length < 1152921504606846976) {mid e b : Int} (h1 : mid = (p.length : Nat)) (h2 : e = ((p.length + u.length : Nat) : Int)) (h3 : b = ((p.length + u.length + v.length : Nat) : Int)) :
    ∃ w, Mg u v w ∧ mgR mid e b ((p ++ (u ++ (v ++ s))).map Rw.e) = some [.sl ((p ++ (w ++ s)).map Rw.e)] := by
  unfold mgR
  by_cases c1 : 0 < u.length
  · by_cases c2 : 0 < v.length
    · obtain ⟨w, w1, w2⟩ := ih u v p s hn c1 c2 hu hv hl
      refine ⟨w, w1, ?_⟩
      rw [ltT (by omega), cond_true, ltT (by omega), cond_true, w2 mid e b h1 h2 h3]
      rfl
    · have := nil_of c2
      subst this
      refine ⟨_, mg_nil2 hu, ?_⟩
      rw [ltT (by omega), cond_true, ltF (by simp at h3; omega), cond_false]
      simp
  · have := nil_of c1
    subst this
    refine ⟨_, mg_nil1 hv, ?_⟩
    rw [ltF (by simp at h2; omega), cond_false]
    simp
theorem mgL_ok {n : Nat} (ih : MgOk n) (u1 v1 u2 v2 p s : List Rw) (hn1 : u1.length + v1.length ≤ n) (hn2 : u2.length + v2.length ≤ n) (hu1 : Srt u1) (hv1 : Srt v1) (hu2 : Srt u2) (hv2 : Srt v2)
    (hl : (p ++ (u1 ++ (v1 ++ (u2 ++ (v2 ++ s))))).length < 1152921504606846976) {a t mid e b : Int} (h0 : a = (p.length : Nat)) (h1 : t = ((p.length + u1.length : Nat) : Int)) (h2 : mid = ((p.length + u1.length + v1.length : Nat) : Int)) (h3 : e = ((p.length + u1.length + v1.length + u2.length : Nat) : Int)) (h4 : b = ((p.length + u1.length + v1.length + u2.length + v2.length : Nat) : Int)) :
    ∃ w1 w2, Mg u1 v1 w1 ∧ Mg u2 v2 w2 ∧ mgL a t mid e b ((p ++ (u1 ++ (v1 ++ (u2 ++ (v2 ++ s))))).map Rw.e) = some [.sl ((p ++ (w1 ++ w2 ++ s)).map Rw.e)] := by
  have hl' := hl
  simp only [List.length_append] at hl'
  -- the left side
  have left : ∃ w1, Mg u1 v1 w1 ∧ mgL a t mid e b ((p ++ (u1 ++ (v1 ++ (u2 ++ (v2 ++ s))))).map Rw.e) = mgR mid e b ((p ++ (w1 ++ (u2 ++ (v2 ++ s)))).map Rw.e) := by
    unfold mgL
    by_cases c1 : 0 < u1.length
    · by_cases c2 : 0 < v1.length
      · obtain ⟨w, w1, w2⟩ := ih u1 v1 p (u2 ++ (v2 ++ s)) hn1 c1 c2 hu1 hv1 hl
        refine ⟨w, w1, ?_⟩
        rw [ltT (by omega), cond_true, ltT (by omega), cond_true, w2 a t mid h0 h1 h2]
        rfl
      · have := nil_of c2
        subst this
        refine ⟨_, mg_nil2 hu1, ?_⟩
        rw [ltT (by omega), cond_true, ltF (by simp at h2; omega), cond_false]
        simp
    · have := nil_of c1
      subst this
      refine ⟨_, mg_nil1 hv1, ?_⟩
      rw [ltF (by simp at h1; omega), cond_false]
      simp
  obtain ⟨w1, m1, e1⟩ := left
  have hw1 : w1.length = u1.length + v1.length := by have := m1.1.length_eq; simpa using this
  obtain ⟨w2, m2, e2⟩ := mgR_ok ih u2 v2 (p ++ w1) s hn2 hu2 hv2 (by simp only [List.length_append]; omega) (mid := mid) (e := e) (b := b) (by simp only [List.length_append]; omega) (by simp only [List.length_append]; omega) (by simp only [List.length_append]; omega)
  refine ⟨w1, w2, m1, m2, ?_⟩
  rw [e1, show p ++ (w1 ++ (u2 ++ (v2 ++ s))) = p ++ w1 ++ (u2 ++ (v2 ++ s)) by simp, e2]
  simp
theorem mg_join {u1 u2 v1 v2 w1 w2 : List Rw} (hu : Srt (u1 ++ u2)) (hv : Srt (v1 ++ v2)) (m1 : Mg u1 v1 w1) (m2 : Mg u2 v2 w2) (h1 : ∀ x ∈ u1, ∀ y ∈ v2, Rw.le x y) (h2 : ∀ x ∈ v1, ∀ y ∈ u2, Rw.le x y) : Mg (u1 ++ u2) (v1 ++ v2) (w1 ++ w2) := by
  refine ⟨(m1.1.append m2.1).trans ?_, List.pairwise_append.mpr ⟨m1.2, m2.2, fun x hx y hy => ?_⟩⟩
  · rw [List.append_assoc, List.append_assoc]
    refine List.Perm.append_left u1 ?_
    rw [← List.append_assoc, ← List.append_assoc]
    exact List.Perm.append_right v2 List.perm_append_comm
  · obtain ⟨_, _, a3⟩ := List.pairwise_append.mp hu
    obtain ⟨_, _, b3⟩ := List.pairwise_append.mp hv
    have hx := m1.1.mem_iff.mp hx
    have hy := m2.1.mem_iff.mp hy
    rcases List.mem_append.mp hx with hx | hx <;> rcases List.mem_append.mp hy with hy | hy
    · exact a3 x hx y hy
    · exact h1 x hx y hy
    · exact h2 x hx y hy
    · exact b3 x hx y hy
theorem mg_main {n : Nat} (ih : MgOk n) (u v p s : List Rw) (hn : u.length + v.length ≤ n + 1) (hu0 : 0 < u.length) (hv0 : 0 < v.length) (hu : Srt u) (hv : Srt v) (hl : (p ++ (u ++ (v ++ s))).length < 1152921504606846976) {a m b mid lo hi : Nat} (ha : a = p.length) (hm : m = a + u.length) (hb : b = m + v.length) (hmid : mid = (a + b) / 2)
    (c1 : lo ≤ hi) (c2 : a ≤ lo) (c3 : hi ≤ m) (c4 : mid + m ≤ lo + b) (c5 : hi ≤ mid) (c6 : lo = a ∨ lo + b = mid + m) (c7 : hi = m ∨ hi = mid) :
    ∃ w, Mg u v w ∧ L_slices_symMergeCmpFunc_Row_2 (a : Nat) (m : Nat) (b : Nat) (mid : Nat) ((mid + m : Nat) : Int) (lo : Nat) (hi : Nat) ((mid + m - 1 : Nat) : Int) ((p ++ (u ++ (v ++ s))).map Rw.e) = some [.sl ((p ++ (w ++ s)).map Rw.e)] := by
  have hl' := hl
  simp only [List.length_append] at hl'
  have hxl : (p ++ (u ++ (v ++ s))).length = p.length + u.length + v.length + s.length := by simp only [List.length_append]; omega
  have hxu : ∀ k, k < u.length → nth (p ++ (u ++ (v ++ s))) (a + k) = nth u k := fun k hk => by
    rw [nth_app2 p _ (by omega), nth_app1 u _ (by omega)]
    congr 1
    omega
  have hxv : ∀ k, k < v.length → nth (p ++ (u ++ (v ++ s))) (m + k) = nth v k := fun k hk => by
    rw [nth_app2 p _ (by omega), nth_app2 u _ (by omega), nth_app1 v _ (by omega)]
    congr 1
    omega
  have mu' : ∀ i j, a ≤ i → i ≤ j → j < m → Rw.le (nth (p ++ (u ++ (v ++ s))) i) (nth (p ++ (u ++ (v ++ s))) j) := fun i j h1 h2 h3 => by
    have e1 := hxu (i - a) (by omega)
    have e2 := hxu (j - a) (by omega)
    rw [show a + (i - a) = i by omega] at e1
    rw [show a + (j - a) = j by omega] at e2
    rw [e1, e2]
    exact srt_nth hu (by omega) (by omega)
  have mv' : ∀ i j, m ≤ i → i ≤ j → j < b → Rw.le (nth (p ++ (u ++ (v ++ s))) i) (nth (p ++ (u ++ (v ++ s))) j) := fun i j h1 h2 h3 => by
    have e1 := hxv (i - m) (by omega)
    have e2 := hxv (j - m) (by omega)
    rw [show m + (i - m) = i by omega] at e1
    rw [show m + (j - m) = j by omega] at e2
    rw [e1, e2]
    exact srt_nth hv (by omega) (by omega)
  obtain ⟨t, t1, t2, t3⟩ := split_ex (fun c => Rw.le (nth (p ++ (u ++ (v ++ s))) c) (nth (p ++ (u ++ (v ++ s))) (mid + m - 1 - c))) lo (hi - lo) (fun c d h1 h2 h3 h4 =>
    Rw.le_tr (mu' c d (by omega) h2 (by omega)) (Rw.le_tr h4 (mv' _ _ (by omega) (by omega) (by omega))))
  rw [show lo + (hi - lo) = hi by omega] at t2 t3
  have hb2 := bs (L := fun i j : Nat => L_slices_symMergeCmpFunc_Row_2 (a : Nat) (m : Nat) (b : Nat) (mid : Nat) ((mid + m : Nat) : Int) (i : Nat) (j : Nat) ((mid + m - 1 : Nat) : Int) ((p ++ (u ++ (v ++ s))).map Rw.e))
    (K := fun t : Nat => L_slices_symMergeCmpFunc_Row_2 (a : Nat) (m : Nat) (b : Nat) (mid : Nat) ((mid + m : Nat) : Int) (t : Nat) (t : Nat) ((mid + m - 1 : Nat) : Int) ((p ++ (u ++ (v ++ s))).map Rw.e)) (t := t) (lo := lo) (hi := hi)
    (fun i j h1 h2 h3 => by
      show L_slices_symMergeCmpFunc_Row_2 _ _ _ _ _ _ _ _ _ = _
      rw [L_slices_symMergeCmpFunc_Row_2_eq, ltT (by omega), cond_true, half_ok i j (by omega), w64_sub (a := mid + m - 1) (b := (i + j) / 2) (by omega) (by omega), in_i (by omega), in_i (by omega), cond_true, cond_true]
      refine cmp_at (by omega) (by omega) ?_
      rw [gn_c, lt_cmp0]
      have := t3 ((i + j) / 2) (by omega) (by omega)
      by_cases hc : (i + j) / 2 < t
      · rw [if_pos hc, decide_eq_false (this.mpr hc), Bool.not_false, cond_true, w64_s (by omega)]
      · rw [if_neg hc, decide_eq_true (Decidable.not_not.mp fun h => hc (this.mp h)), Bool.not_true, cond_false])
    (fun i h1 h2 => rfl) (hi - lo) lo hi (Nat.le_refl _) (Nat.le_refl _) t1 t2 (Nat.le_refl _)
  obtain ⟨u1, u2, rfl, hu1⟩ := cut_at (u := u) (t := t - a) (by omega)
  obtain ⟨v1, v2, rfl, hv1⟩ := cut_at (u := v) (t := mid - t) (by omega)
  simp only [List.length_append] at hn hu0 hv0 hl' hm hb hxu hxv
  have x1 : ∀ x ∈ u1, ∀ y ∈ v2, Rw.le x y := fun x hx y hy => by
    obtain ⟨i, hi1, rfl⟩ := mem_nth hx
    obtain ⟨j, hj1, rfl⟩ := mem_nth hy
    have e1 := hxu i (by omega)
    have e2 := hxv (v1.length + j) (by omega)
    rw [nth_app1 u1 u2 hi1] at e1
    rw [nth_app2 v1 v2 (by omega), show v1.length + j - v1.length = j by omega] at e2
    rw [← e1, ← e2]
    have hp := (t3 (t - 1) (by omega) (by omega)).mpr (by omega)
    exact Rw.le_tr (mu' _ (t - 1) (by omega) (by omega) (by omega)) (Rw.le_tr hp (mv' _ _ (by omega) (by omega) (by omega)))
  have x2 : ∀ x ∈ v1, ∀ y ∈ u2, Rw.le x y := fun x hx y hy => by
    obtain ⟨i, hi1, rfl⟩ := mem_nth hx
    obtain ⟨j, hj1, rfl⟩ := mem_nth hy
    have e1 := hxv i (by omega)
    have e2 := hxu (u1.length + j) (by omega)
    rw [nth_app1 v1 v2 hi1] at e1
    rw [nth_app2 u1 u2 (by omega), show u1.length + j - u1.length = j by omega] at e2
    rw [← e1, ← e2]
    have hp : ¬ Rw.le _ _ := fun h => by have := (t3 t (by omega) (by omega)).mp h; omega
    exact Rw.le_tr (mv' _ (mid + m - 1 - t) (by omega) (by omega) (by omega)) (Rw.le_tr (Rw.lt_le (Decidable.not_not.mp hp)) (mu' t _ (by omega) (by omega) (by omega)))
  obtain ⟨su1, su2, _⟩ := List.pairwise_append.mp hu
  obtain ⟨sv1, sv2, _⟩ := List.pairwise_append.mp hv
  obtain ⟨w1, w2, m1, m2, hw⟩ := mgL_ok ih u1 v1 u2 v2 p s (by omega) (by omega) su1 sv1 su2 sv2 (by simp only [List.length_append]; omega) (a := (a : Nat)) (t := (t : Nat)) (mid := (mid : Nat)) (e := ((mid + m - t : Nat) : Int)) (b := (b : Nat)) (by omega) (by omega) (by omega) (by omega) (by omega)
  refine ⟨w1 ++ w2, mg_join hu hv m1 m2 x1 x2, hb2.trans ?_⟩
  show L_slices_symMergeCmpFunc_Row_2 _ _ _ _ _ _ _ _ _ = _
  rw [exit_eq _ _ _ _ _ _ _ _ rfl, w64_sub (by omega) (by omega)]
  by_cases d1 : 0 < u2.length
  · by_cases d2 : 0 < v1.length
    · have := rotate (p ++ u1) u2 v1 (v2 ++ s) d1 d2 (by simp only [List.length_append]; omega) (a := (t : Nat)) (m := (m : Nat)) (b := ((mid + m - t : Nat) : Int)) (by simp only [List.length_append]; omega) (by simp only [List.length_append]; omega) (by simp only [List.length_append]; omega)
      rw [ltT (by omega), cond_true, ltT (by omega), cond_true, show p ++ (u1 ++ u2 ++ (v1 ++ v2 ++ s)) = p ++ u1 ++ (u2 ++ (v1 ++ (v2 ++ s))) by simp, this]
      simp only [gn_c, gb_c, gs_c, gl_c, tk_s, tk_0, List.drop_succ_cons, List.drop_zero, List.headD_cons, List.getD_cons_zero, List.getD_cons_succ, bind_s]
      rw [show p ++ u1 ++ (v1 ++ (u2 ++ (v2 ++ s))) = p ++ (u1 ++ (v1 ++ (u2 ++ (v2 ++ s)))) by simp]
      exact hw
    · have := nil_of d2
      subst this
      rw [ltT (by omega), cond_true, ltF (by simp at hv1; omega), cond_false]
      simpa using hw
  · have := nil_of d1
    subst this
    rw [ltF (by simp at hm; omega), cond_false]
    simpa using hw
theorem mg_ok : ∀ n, MgOk n
  | 0 => fun u v p s h h1 => by omega
  | n + 1 => fun u v p s h hu0 hv0 hu hv hl => by
    have ih := mg_ok n
    have hl' := hl
    simp only [List.length_append] at hl'
    by_cases c1 : u.length = 1
    · obtain ⟨c, rfl⟩ := List.length_eq_one_iff.mp c1
      obtain ⟨w, w1, w2⟩ := merge1 c v p s hv hl (a := p.length) (m := p.length + 1) (b := p.length + 1 + v.length) rfl rfl rfl
      refine ⟨w, w1, fun a m b ha hm hb => ?_⟩
      subst ha; subst hm; subst hb
      rw [c_slices_symMergeCmpFunc_Row, w64_sub (by omega) (by omega), eqT (by simp), cond_true]
      exact w2
    · by_cases c2 : v.length = 1
      · obtain ⟨c, rfl⟩ := List.length_eq_one_iff.mp c2
        obtain ⟨w, w1, w2⟩ := merge2 c u p s hu hl (a := p.length) (m := p.length + u.length) (b := p.length + u.length + 1) rfl rfl rfl
        refine ⟨w, w1, fun a m b ha hm hb => ?_⟩
        subst ha; subst hm; subst hb
        rw [c_slices_symMergeCmpFunc_Row, w64_sub (by omega) (by omega), eqF (by omega), cond_false, w64_sub (by omega) (by omega), eqT (by simp), cond_true]
        exact w2
      · by_cases c3 : (p.length + (p.length + u.length + v.length)) / 2 < p.length + u.length
        · obtain ⟨w, w1, w2⟩ := mg_main ih u v p s h hu0 hv0 hu hv hl (a := p.length) (m := p.length + u.length) (b := p.length + u.length + v.length) (mid := (p.length + (p.length + u.length + v.length)) / 2) (lo := (p.length + (p.length + u.length + v.length)) / 2 + (p.length + u.length) - (p.length + u.length + v.length)) (hi := (p.length + (p.length + u.length + v.length)) / 2) rfl rfl rfl rfl (by omega) (by omega) (by omega) (by omega) (by omega) (by omega) (.inr rfl)
          refine ⟨w, w1, fun a m b ha hm hb => ?_⟩
          subst ha; subst hm; subst hb
          rw [c_slices_symMergeCmpFunc_Row, w64_sub (by omega) (by omega), eqF (by omega), cond_false, w64_sub (by omega) (by omega), eqF (by omega), cond_false, half_ok _ _ (by omega), ltT (by omega), cond_true, w64_add _ _ (by omega), w64_sub (by omega) (by omega), w64_pred (by omega) (by omega)]
          exact w2
        · obtain ⟨w, w1, w2⟩ := mg_main ih u v p s h hu0 hv0 hu hv hl (a := p.length) (m := p.length + u.length) (b := p.length + u.length + v.length) (mid := (p.length + (p.length + u.length + v.length)) / 2) (lo := p.length) (hi := p.length + u.length) rfl rfl rfl rfl (by omega) (by omega) (by omega) (by omega) (by omega) (.inl rfl) (.inl rfl)
          refine ⟨w, w1, fun a m b ha hm hb => ?_⟩
          subst ha; subst hm; subst hb
          rw [c_slices_symMergeCmpFunc_Row, w64_sub (by omega) (by omega), eqF (by omega), cond_false, w64_sub (by omega) (by omega), eqF (by omega), cond_false, half_ok _ _ (by omega), ltF (by omega), cond_false, w64_add _ _ (by omega), w64_pred (by omega) (by omega)]
          exact w2
end Go.Proofs.Ytbmafhpbinjgaaa.Vai
namespace Go.Proofs.Ytbmafhpbinjgaaa.Vai
open Go
set_option linter.unusedSimpArgs false
set_option linter.unusedVariables false
set_option linter.unnecessarySimpa false
set_option maxRecDepth 10000
theorem swap_eq3 {l p s : List Rw} {a b : Rw} {i j : Nat} (h : l = p ++ a :: b :: s) (hi : p.length = i) (hj : j = i + 1) (hl : l.length < 4611686018427387904) {X : Option (List Dat)} {K : Rows → Option (List Dat)} (hK : K ((p ++ b :: a :: s).map Rw.e) = X) :
    (bif inR (i : Int) (lenI (updR (l.map Rw.e) (tn (j : Int)) 0 [.int (gn (at' (l.map Rw.e) (tn (i : Int)))), .int (gn (tk 1 (at' (l.map Rw.e) (tn (i : Int))))), .int (gn (tk 2 (at' (l.map Rw.e) (tn (i : Int)))))])) then
        K (updR (updR (l.map Rw.e) (tn (j : Int)) 0 [.int (gn (at' (l.map Rw.e) (tn (i : Int)))), .int (gn (tk 1 (at' (l.map Rw.e) (tn (i : Int))))), .int (gn (tk 2 (at' (l.map Rw.e) (tn (i : Int)))))]) (tn (i : Int)) 0 [.int (gn (at' (l.map Rw.e) (tn (j : Int)))), .int (gn (tk 1 (at' (l.map Rw.e) (tn (j : Int))))), .int (gn (tk 2 (at' (l.map Rw.e) (tn (j : Int)))))])
        else none) = X := by
  have hb : at' (l.map Rw.e) j = b.e := at_i (u := p ++ [a]) (v := s) (by rw [h]; simp) (by simp; omega)
  have ha : at' (l.map Rw.e) i = a.e := at_i h hi
  have hlen : l.length = p.length + 1 + 1 + s.length := by rw [h]; simp; omega
  have h1 : updR (l.map Rw.e) j 0 [.int a.k, .int a.v, .int a.w] = (p ++ a :: a :: s).map Rw.e := by
    rw [upd_i (u := p ++ [a]) (v := s) (a := b) (by rw [h]; simp) (by simp; omega)]
    simp
  have h2 : updR ((p ++ a :: a :: s).map Rw.e) i 0 [.int b.k, .int b.v, .int b.w] = (p ++ b :: a :: s).map Rw.e := upd_i rfl hi
  simp only [tn_c, hb, ha, gk, gv, gw, h1, h2]
  rw [in_i (by simp; omega)]
  exact hK
theorem ins1 (a b i : Nat) : ∀ (n : Nat) (w1 w2 p r : List Rw) (c : Rw) (j : Nat), w1.length = n → Srt (w1 ++ w2) → (∀ y ∈ w2, Rw.lt c y) → (p ++ (w1 ++ c :: (w2 ++ r))).length < 1152921504606846976 → i < 1152921504606846976 → a = p.length → j = a + w1.length →
    ∃ w, w.Perm (w1 ++ c :: w2) ∧ Srt w ∧ L_slices_insertionSortCmpFunc_Row_1 (a : Nat) (b : Nat) (i : Nat) (j : Nat) ((p ++ (w1 ++ c :: (w2 ++ r))).map Rw.e) = L_slices_insertionSortCmpFunc_Row_0 (a : Nat) (b : Nat) ((i + 1 : Nat) : Int) ((p ++ (w ++ r)).map Rw.e) := by
  intro n
  induction n with
  | zero =>
    intro w1 w2 p r c j hn hs hc hl hi ha hj
    have : w1 = [] := List.length_eq_zero_iff.mp hn
    subst this
    refine ⟨c :: w2, List.Perm.refl _, List.pairwise_cons.mpr ⟨fun y hy => Rw.lt_le (hc y hy), by simpa using hs⟩, ?_⟩
    simp only [List.length_nil] at hj
    rw [L_slices_insertionSortCmpFunc_Row_1_eq, ltF (by omega), cond_false, w64_s (by omega)]
    simp
  | succ n ih =>
    intro w1 w2 p r c j hn hs hc hl hi ha hj
    obtain ⟨w1, d, rfl⟩ := snoc_of (n := n) (l := w1) hn
    have hl' := hl
    simp only [List.length_append, List.length_cons, List.length_nil] at hl' hn hj
    have hxl : (p ++ (w1 ++ [d] ++ c :: (w2 ++ r))).length = p.length + w1.length + 2 + w2.length + r.length := by simp; omega
    have hc0 : nth (p ++ (w1 ++ [d] ++ c :: (w2 ++ r))) j = c := by
      rw [nth_app2 p _ (by omega), nth_app2 (w1 ++ [d]) _ (by simp; omega)]
      have : j - p.length - (w1 ++ [d]).length = 0 := by simp; omega
      rw [this]; simp [nth]
    have hd0 : nth (p ++ (w1 ++ [d] ++ c :: (w2 ++ r))) (j - 1) = d := by
      rw [nth_app2 p _ (by omega), nth_app1 (w1 ++ [d]) _ (by simp; omega), nth_app2 w1 _ (by omega)]
      have : j - 1 - p.length - w1.length = 0 := by omega
      rw [this]; simp [nth]
    have i1 : inR (j : Int) (lenI ((p ++ (w1 ++ [d] ++ c :: (w2 ++ r))).map Rw.e)) = true := in_i (by omega)
    have i2 : inR ((j - 1 : Nat) : Int) (lenI ((p ++ (w1 ++ [d] ++ c :: (w2 ++ r))).map Rw.e)) = true := in_i (by omega)
    by_cases hcd : Rw.lt c d
    · have hs' : Srt (w1 ++ d :: w2) := by simpa using hs
      obtain ⟨s1, s2, s3⟩ := List.pairwise_append.mp hs'
      obtain ⟨w, q1, q2, q3⟩ := ih w1 (d :: w2) p r c (j - 1) (by omega) hs' (fun y hy => by
        rcases List.mem_cons.mp hy with rfl | hy
        · exact hcd
        · exact hc y hy) (by simp only [List.length_append, List.length_cons] at *; omega) hi ha (by omega)
      refine ⟨w, q1.trans ?_, q2, ?_⟩
      · rw [List.append_assoc]
        exact List.Perm.append_left w1 (List.Perm.swap d c w2)
      · rw [L_slices_insertionSortCmpFunc_Row_1_eq, ltT (by omega), cond_true, w64_pred (by omega) (by omega), i1, i2, cond_true, cond_true]
        refine cmp_at (i := j) (j := j - 1) (by omega) (by omega) ?_
        rw [gn_c, lt_cmp0, hc0, hd0, decide_eq_true hcd, cond_true, cond_true, cond_true, cond_true]
        refine swap_eq3 (i := j - 1) (j := j) (l := p ++ (w1 ++ [d] ++ c :: (w2 ++ r))) (p := p ++ w1) (s := w2 ++ r) (a := d) (b := c) (by simp) (by simp; omega) (by omega) (by omega) (K := fun X => L_slices_insertionSortCmpFunc_Row_1 (a : Nat) (b : Nat) (i : Nat) ((j - 1 : Nat) : Int) X) ?_
        show L_slices_insertionSortCmpFunc_Row_1 _ _ _ _ _ = _
        rw [← q3]
        simp
    · refine ⟨w1 ++ [d] ++ c :: w2, List.Perm.refl _, ?_, ?_⟩
      · obtain ⟨s1, s2, s3⟩ := List.pairwise_append.mp hs
        refine List.pairwise_append.mpr ⟨s1, List.pairwise_cons.mpr ⟨fun y hy => Rw.lt_le (hc y hy), s2⟩, fun x hx y hy => ?_⟩
        rcases List.mem_cons.mp hy with rfl | hy
        · obtain ⟨t1, t2, t3⟩ := List.pairwise_append.mp s1
          rcases List.mem_append.mp hx with hx | hx
          · exact Rw.le_tr (t3 x hx d (by simp)) hcd
          · simp at hx; subst hx; exact hcd
        · exact s3 x hx y hy
      · rw [L_slices_insertionSortCmpFunc_Row_1_eq, ltT (by omega), cond_true, w64_pred (by omega) (by omega), i1, i2, cond_true, cond_true]
        refine cmp_at (i := j) (j := j - 1) (by omega) (by omega) ?_
        rw [gn_c, lt_cmp0, hc0, hd0, decide_eq_false hcd, cond_false, w64_s (by omega)]
        simp
theorem ins0 (a b : Nat) : ∀ (r w p s : List Rw) (i : Nat), Srt w → (p ++ (w ++ (r ++ s))).length < 1152921504606846976 → a = p.length → i = a + w.length → b = i + r.length →
    ∃ w', w'.Perm (w ++ r) ∧ Srt w' ∧ L_slices_insertionSortCmpFunc_Row_0 (a : Nat) (b : Nat) (i : Nat) ((p ++ (w ++ (r ++ s))).map Rw.e) = some [.sl ((p ++ (w' ++ s)).map Rw.e)]
  | [], w, p, s, i, hs, hl, ha, hi, hb => by
    refine ⟨w, by simp, hs, ?_⟩
    rw [L_slices_insertionSortCmpFunc_Row_0_eq, ltF (by simp at hb; omega), cond_false]
    rfl
  | c :: r, w, p, s, i, hs, hl, ha, hi, hb => by
    have hl' := hl
    simp only [List.length_append, List.length_cons] at hl' hb
    obtain ⟨w2, q1, q2, q3⟩ := ins1 a b i w.length w [] p (r ++ s) c i rfl (by simpa using hs) (fun y hy => by cases hy) (by simp only [List.length_append, List.length_cons, List.length_nil]; omega) (by omega) ha hi
    have hw2 : w2.length = w.length + 1 := by have := q1.length_eq; simpa using this
    obtain ⟨w', r1, r2, r3⟩ := ins0 a b r w2 p s (i + 1) q2 (by simp only [List.length_append]; omega) ha (by omega) (by omega)
    refine ⟨w', r1.trans ?_, r2, ?_⟩
    · refine (List.Perm.append_right r q1).trans ?_
      simp
    · rw [L_slices_insertionSortCmpFunc_Row_0_eq, ltT (by omega), cond_true]
      simp only [List.nil_append] at q3
      rw [show p ++ (w ++ (c :: r ++ s)) = p ++ (w ++ c :: (r ++ s)) by simp, q3]
      exact r3
theorem insSort (r p s : List Rw) (hl : (p ++ (r ++ s)).length < 1152921504606846976) {a b : Nat} (ha : a = p.length) (hb : b = a + r.length) :
    ∃ w, w.Perm r ∧ Srt w ∧ callI tE f_slices_insertionSortCmpFunc_Row [.sl ((p ++ (r ++ s)).map Rw.e), .int (a : Nat), .int (b : Nat)] = some [.sl ((p ++ (w ++ s)).map Rw.e)] := by
  have hl' := hl
  simp only [List.length_append] at hl'
  cases r with
  | nil =>
    refine ⟨[], List.Perm.refl _, List.Pairwise.nil, ?_⟩
    rw [c_slices_insertionSortCmpFunc_Row, w64_s (by omega), L_slices_insertionSortCmpFunc_Row_0_eq, ltF (by simp at hb; omega), cond_false]
  | cons c r =>
    simp only [List.length_cons] at hb hl'
    obtain ⟨w, q1, q2, q3⟩ := ins0 a b r [c] p s (a + 1) (List.pairwise_singleton _ _) (by simp only [List.length_append, List.length_cons, List.length_nil]; omega) ha rfl (by omega)
    refine ⟨w, by simpa using q1, q2, ?_⟩
    rw [c_slices_insertionSortCmpFunc_Row, w64_s (by omega)]
    exact q3
def Blk (k : Nat) (l : List Rw) : Prop := ∀ i j, i ≤ j → j < l.length → i / k = j / k → Rw.le (nth l i) (nth l j)
theorem srt_of {l : List Rw} (h : ∀ i j, i ≤ j → j < l.length → Rw.le (nth l i) (nth l j)) : Srt l := by
  refine List.pairwise_iff_getElem.mpr fun i j hi hj hij => ?_
  have := h i j (by omega) hj
  simpa [nth, List.getD_eq_getElem?_getD, hi, hj] using this
theorem Blk.app {k : Nat} (_hk : 0 < k) {p w : List Rw} (hp : Blk k p) (hd : k ∣ p.length) (hw : Srt w) (hl : w.length ≤ k) : Blk k (p ++ w) := fun i j hij hj he => by
  obtain ⟨m, hm⟩ := hd
  simp only [List.length_append] at hj
  by_cases h1 : j < p.length
  · rw [nth_app1 p w (by omega), nth_app1 p w h1]
    exact hp i j hij h1 he
  · have h2 : p.length ≤ i := by
      by_cases h3 : i < p.length
      · exfalso
        have a1 : i / k < m := by rw [Nat.div_lt_iff_lt_mul _hk, Nat.mul_comm]; omega
        have a2 : m ≤ j / k := by rw [Nat.le_div_iff_mul_le _hk, Nat.mul_comm]; omega
        omega
      · omega
    rw [nth_app2 p w h2, nth_app2 p w (by omega)]
    exact srt_nth hw (by omega) (by omega)
theorem Blk.cut {k : Nat} (hk : 0 < k) {u r : List Rw} (h : Blk k (u ++ r)) (hu : u.length = k) : Srt u ∧ Blk k r := by
  refine ⟨srt_of fun i j hij hj => ?_, fun i j hij hj he => ?_⟩
  · have := h i j hij (by simp; omega) (by rw [Nat.div_eq_of_lt (by omega), Nat.div_eq_of_lt (by omega)])
    rwa [nth_app1 u r (by omega), nth_app1 u r hj] at this
  · have := h (u.length + i) (u.length + j) (by omega) (by simp; omega) (by rw [hu, Nat.add_div_left _ hk, Nat.add_div_left _ hk, he])
    rw [nth_app2 u r (by omega), nth_app2 u r (by omega)] at this
    simpa using this
theorem Blk.srt {k : Nat} {l : List Rw} (h : Blk k l) (hl : l.length ≤ k) : Srt l := srt_of fun i j hij hj => h i j hij hj (by rw [Nat.div_eq_of_lt (by omega), Nat.div_eq_of_lt (by omega)])
end Go.Proofs.Ytbmafhpbinjgaaa.Vai
namespace Go.Proofs.Ytbmafhpbinjgaaa.Vai
open Go
set_option linter.unusedSimpArgs false
set_option linter.unusedVariables false
set_option linter.unnecessarySimpa false
set_option maxRecDepth 10000
theorem st0 (n : Nat) : ∀ (f : Nat) (r p : List Rw), r.length ≤ f → Blk 20 p → 20 ∣ p.length → n = p.length + r.length → n < 1152921504606846976 →
    ∃ x, x.Perm (p ++ r) ∧ Blk 20 x ∧ L_slices_stableCmpFunc_Row_0 (n : Nat) 20 (p.length : Nat) ((p.length + 20 : Nat) : Int) ((p ++ r).map Rw.e) = L_slices_stableCmpFunc_Row_1 (n : Nat) 20 (x.map Rw.e) := by
  intro f
  induction f with
  | zero =>
    intro r p hf hb hd hn hl
    have : r = [] := List.length_eq_zero_iff.mp (by omega)
    subst this
    simp only [List.length_nil] at hn
    obtain ⟨w, w1, w2, w3⟩ := insSort [] p [] (by simp; omega) (a := p.length) (b := n) rfl (by simp; omega)
    have : w = [] := w1.eq_nil
    subst this
    refine ⟨p, by simp, hb, ?_⟩
    simp only [List.append_nil] at w3 ⊢
    rw [L_slices_stableCmpFunc_Row_0_eq, show leI ((p.length + 20 : Nat) : Int) (n : Nat) = false from leF (by omega), cond_false, w3]
    rfl
  | succ f ih =>
    intro r p hf hb hd hn hl
    by_cases hr : 20 ≤ r.length
    · obtain ⟨r1, r2, rfl, hr1⟩ := cut_at (u := r) (t := 20) hr
      simp only [List.length_append] at hn hf hr
      obtain ⟨w, w1, w2, w3⟩ := insSort r1 p r2 (by simp only [List.length_append]; omega) (a := p.length) (b := p.length + 20) rfl (by omega)
      have hw := w1.length_eq
      obtain ⟨x, x1, x2, x3⟩ := ih r2 (p ++ w) (by omega) (hb.app (by omega) hd w2 (by omega)) (by simp only [List.length_append]; omega) (by simp only [List.length_append]; omega) hl
      refine ⟨x, x1.trans ?_, x2, ?_⟩
      · rw [List.append_assoc]
        exact List.Perm.append_left p (List.Perm.append_right r2 w1)
      · rw [L_slices_stableCmpFunc_Row_0_eq, leT (by omega), cond_true, w3]
        simp only [gn_c, gb_c, gs_c, gl_c, tk_s, tk_0, List.drop_succ_cons, List.drop_zero, List.headD_cons, List.getD_cons_zero, List.getD_cons_succ, bind_s]
        rw [show w64 (((p.length + 20 : Nat) : Int) + 20) = ((p.length + 20 + 20 : Nat) : Int) from w64_add _ 20 (by omega)]
        simp only [List.length_append, hw, hr1, List.append_assoc] at x3
        exact x3
    · obtain ⟨w, w1, w2, w3⟩ := insSort r p [] (by simp; omega) (a := p.length) (b := n) rfl (by omega)
      have hw := w1.length_eq
      refine ⟨p ++ w, List.Perm.append_left p w1, hb.app (by omega) hd w2 (by omega), ?_⟩
      simp only [List.append_nil] at w3
      rw [L_slices_stableCmpFunc_Row_0_eq, leF (by omega), cond_false, w3]
      rfl
theorem w64_dbl (k : Nat) (h : k < 1152921504606846976) : w64 (2 * (k : Int)) = ((2 * k : Nat) : Int) ∧ w64 ((k : Int) * 2) = ((2 * k : Nat) : Int) := by
  constructor <;> (rw [w64_id ⟨by omega, by omega⟩]; omega)
theorem st2 (n k : Nat) (hk : 0 < k) (hk2 : k < 1152921504606846976) : ∀ (f : Nat) (r p : List Rw), r.length ≤ f → Blk (2 * k) p → (2 * k) ∣ p.length → Blk k r → n = p.length + r.length → n < 1152921504606846976 →
    ∃ x, x.Perm (p ++ r) ∧ Blk (2 * k) x ∧ L_slices_stableCmpFunc_Row_2 (n : Nat) (k : Nat) (p.length : Nat) ((p.length + 2 * k : Nat) : Int) ((p ++ r).map Rw.e) = L_slices_stableCmpFunc_Row_1 (n : Nat) ((2 * k : Nat) : Int) (x.map Rw.e) := by
  have small : ∀ (r p : List Rw), r.length ≤ k → Blk (2 * k) p → (2 * k) ∣ p.length → Blk k r → n = p.length + r.length → n < 1152921504606846976 →
      ∃ x, x.Perm (p ++ r) ∧ Blk (2 * k) x ∧ L_slices_stableCmpFunc_Row_2 (n : Nat) (k : Nat) (p.length : Nat) ((p.length + 2 * k : Nat) : Int) ((p ++ r).map Rw.e) = L_slices_stableCmpFunc_Row_1 (n : Nat) ((2 * k : Nat) : Int) (x.map Rw.e) := fun r p h1 hb hd hr hn hl => by
    refine ⟨p ++ r, List.Perm.refl _, hb.app (by omega) hd (hr.srt h1) (by omega), ?_⟩
    rw [L_slices_stableCmpFunc_Row_2_eq, leF (by omega), cond_false, w64_add _ _ (by omega), ltF (by omega), cond_false, (w64_dbl k hk2).2]
  intro f
  induction f with
  | zero => exact fun r p hf hb hd hr hn hl => small r p (by omega) hb hd hr hn hl
  | succ f ih =>
    intro r p hf hb hd hr hn hl
    by_cases h1 : r.length ≤ k
    · exact small r p h1 hb hd hr hn hl
    · obtain ⟨u, r', rfl, hu⟩ := cut_at (u := r) (t := k) (by omega)
      obtain ⟨su, hr'⟩ := hr.cut hk hu
      simp only [List.length_append] at hn hf h1
      by_cases h2 : k ≤ r'.length
      · obtain ⟨v, r2, rfl, hv⟩ := cut_at (u := r') (t := k) h2
        obtain ⟨sv, hr2⟩ := hr'.cut hk hv
        simp only [List.length_append] at hn hf h1 h2
        obtain ⟨w, w1, w2⟩ := mg_ok _ u v p r2 (Nat.le_refl _) (by omega) (by omega) su sv (by simp only [List.length_append]; omega)
        have hw := w1.1.length_eq
        simp only [List.length_append] at hw
        obtain ⟨x, x1, x2, x3⟩ := ih r2 (p ++ w) (by omega) (hb.app (by omega) hd w1.2 (by omega)) (by
          simp only [List.length_append]
          rw [hw, hu, hv, ← Nat.two_mul]
          exact Nat.dvd_add hd (Nat.dvd_refl _)) hr2 (by simp only [List.length_append]; omega) hl
        refine ⟨x, x1.trans ?_, x2, ?_⟩
        · rw [List.append_assoc, ← List.append_assoc u]
          exact List.Perm.append_left p (List.Perm.append_right r2 w1.1)
        · rw [L_slices_stableCmpFunc_Row_2_eq, leT (by omega), cond_true, w64_add _ _ (by omega), w2 _ _ _ rfl (by omega) (by omega)]
          simp only [gn_c, gb_c, gs_c, gl_c, tk_s, tk_0, List.drop_succ_cons, List.drop_zero, List.headD_cons, List.getD_cons_zero, List.getD_cons_succ, bind_s]
          rw [(w64_dbl k hk2).1, w64_add _ _ (by omega)]
          simp only [List.length_append, hw, hu, hv, List.append_assoc, ← Nat.two_mul] at x3
          exact x3
      · have sv := hr'.srt (by omega)
        obtain ⟨w, w1, w2⟩ := mg_ok _ u r' p [] (Nat.le_refl _) (by omega) (by omega) su sv (by simp only [List.length_append, List.length_nil]; omega)
        have hw := w1.1.length_eq
        simp only [List.length_append] at hw
        refine ⟨p ++ w, List.Perm.append_left p w1.1, hb.app (by omega) hd w1.2 (by omega), ?_⟩
        have w2 := w2 (p.length : Nat) ((p.length + k : Nat) : Int) (n : Nat) rfl (by omega) (by omega)
        simp only [List.append_nil] at w2
        rw [L_slices_stableCmpFunc_Row_2_eq, leF (by omega), cond_false, w64_add _ _ (by omega), ltT (by omega), cond_true, w2]
        simp only [gn_c, gb_c, gs_c, gl_c, tk_s, tk_0, List.drop_succ_cons, List.drop_zero, List.headD_cons, List.getD_cons_zero, List.getD_cons_succ, bind_s]
        rw [(w64_dbl k hk2).2]
theorem st1 (n : Nat) (hn : n < 1152921504606846976) : ∀ (f k : Nat) (x : List Rw), 0 < k → n ≤ k + f → k < 1152921504606846976 → Blk k x → x.length = n →
    ∃ y, y.Perm x ∧ Srt y ∧ L_slices_stableCmpFunc_Row_1 (n : Nat) (k : Nat) (x.map Rw.e) = some [.sl (y.map Rw.e)] := by
  intro f
  induction f with
  | zero =>
    intro k x hk hf hk2 hb hx
    refine ⟨x, List.Perm.refl _, hb.srt (by omega), ?_⟩
    rw [L_slices_stableCmpFunc_Row_1_eq, ltF (by omega), cond_false]
  | succ f ih =>
    intro k x hk hf hk2 hb hx
    by_cases h : k < n
    · obtain ⟨y, y1, y2, y3⟩ := st2 n k hk hk2 x.length x [] (Nat.le_refl _) (fun i j hi hj => by simp at hj) (by simp) hb (by simpa using hx.symm) hn
      have hy := y1.length_eq
      simp only [List.nil_append, List.length_nil, Nat.zero_add] at hy y1 y3
      by_cases h3 : 2 * k < 1152921504606846976
      · obtain ⟨z, z1, z2, z3⟩ := ih (2 * k) y (by omega) (by omega) h3 y2 (by omega)
        refine ⟨z, z1.trans y1, z2, ?_⟩
        rw [L_slices_stableCmpFunc_Row_1_eq, ltT (by omega), cond_true, (w64_dbl k hk2).1]
        exact y3.trans z3
      · refine ⟨y, y1, y2.srt (by omega), ?_⟩
        rw [L_slices_stableCmpFunc_Row_1_eq, ltT (by omega), cond_true, (w64_dbl k hk2).1]
        refine y3.trans ?_
        rw [L_slices_stableCmpFunc_Row_1_eq, ltF (by omega), cond_false]
    · refine ⟨x, List.Perm.refl _, hb.srt (by omega), ?_⟩
      rw [L_slices_stableCmpFunc_Row_1_eq, ltF (by omega), cond_false]
theorem sortStable (x : List Rw) (hx : x.length < 1152921504606846976) : ∃ y, y.Perm x ∧ Srt y ∧ callI tE f_slices_SortStableFunc_Row [.sl (x.map Rw.e)] = some [.sl (y.map Rw.e)] := by
  obtain ⟨z, z1, z2, z3⟩ := st0 x.length x.length x [] (Nat.le_refl _) (fun i j hi hj => by simp at hj) (by simp) (by simp) hx
  simp only [List.nil_append, List.length_nil, Nat.zero_add] at z1 z3
  obtain ⟨y, y1, y2, y3⟩ := st1 x.length hx x.length 20 z (by omega) (by omega) (by omega) z2 z1.length_eq
  refine ⟨y, y1.trans z1, y2, ?_⟩
  rw [c_slices_SortStableFunc_Row, lenI_map, c_slices_stableCmpFunc_Row]
  have z3 : L_slices_stableCmpFunc_Row_0 (x.length : Nat) 20 0 20 (x.map Rw.e) = L_slices_stableCmpFunc_Row_1 (x.length : Nat) 20 (z.map Rw.e) := z3
  have y3 : L_slices_stableCmpFunc_Row_1 (x.length : Nat) 20 (z.map Rw.e) = some [.sl (y.map Rw.e)] := y3
  rw [z3, y3]
  rfl
end Go.Proofs.Ytbmafhpbinjgaaa.Vai
namespace Go.Proofs.Ytbmafhpbinjgaaa.Vai
open Go
set_option linter.unusedSimpArgs false
set_option linter.unusedVariables false
set_option linter.unnecessarySimpa false
set_option maxRecDepth 10000
theorem iSortRows (x : List Rw) (hx : x.length ≤ 1099511627776) : ∃ y, y.Perm x ∧ Srt y ∧ callI tE f_impl_SortRows [.sl (x.map Rw.e)] = some [.sl (y.map Rw.e)] := by
  obtain ⟨y, y1, y2, y3⟩ := sortStable x (by omega)
  refine ⟨y, y1, y2, ?_⟩
  rw [c_impl_SortRows, iClone x hx]
  simp only [gn_c, gb_c, gs_c, gl_c, tk_s, tk_0, List.drop_succ_cons, List.drop_zero, List.headD_cons, List.getD_cons_zero, List.getD_cons_succ, bind_s, y3]
theorem ss_end (l u v w1 w2 : List Rw) (c : Rw) (i k : Nat) (hl : l = u ++ c :: v) (hi : u.length = i) (hk : w1.length = k) (hw : (w1 ++ w2).length ≤ 1099511627776) (hi2 : i < 1152921504606846976) :
    (bif (inR (i : Int) (lenI (l.map Rw.e))) then (bif ((leI 0 (k : Int)) && (leI (k : Int) (lenI ((w1 ++ w2).map Rw.e)))) then (bif (fitM (1 + (len (List.take (tn ((lenI ((w1 ++ w2).map Rw.e)) - (k : Int))) (List.drop (tn (k : Int)) ((w1 ++ w2).map Rw.e))))) 24) then (bif ((leI 0 (k : Int)) && (leI (k : Int) (lenI ((w1 ++ w2).map Rw.e)))) then (bif (fitM (0 + (len (List.take (tn ((k : Int) - 0)) (List.drop (tn 0) ((w1 ++ w2).map Rw.e))))) 24) then (bif (fitM (Nat.succ ((len (List.take (tn ((k : Int) - 0)) (List.drop (tn 0) ((w1 ++ w2).map Rw.e)))) + (len (List.take (tn ((lenI ((w1 ++ w2).map Rw.e)) - (k : Int))) (List.drop (tn (k : Int)) ((w1 ++ w2).map Rw.e)))))) 24) then
      (L_spec_SortRows_0 (l.map Rw.e) (w64 ((i : Int) + 1)) (List.append (List.take (tn ((k : Int) - 0)) (List.drop (tn 0) ((w1 ++ w2).map Rw.e))) ([(.int (gn (at' (l.map Rw.e) (tn (i : Int))))), (.int (gn (tk 1 (at' (l.map Rw.e) (tn (i : Int)))))), (.int (gn (tk 2 (at' (l.map Rw.e) (tn (i : Int))))))] :: (List.take (tn ((lenI ((w1 ++ w2).map Rw.e)) - (k : Int))) (List.drop (tn (k : Int)) ((w1 ++ w2).map Rw.e)))))) else none) else none) else none) else none) else none) else none) =
    L_spec_SortRows_0 (l.map Rw.e) ((i + 1 : Nat) : Int) ((w1 ++ c :: w2).map Rw.e) := by
  have hc : at' (l.map Rw.e) i = c.e := at_i hl hi
  have hll : i < l.length := by rw [hl, ← hi]; simp
  simp only [List.length_append] at hw
  have e1 : List.take (tn ((k : Int) - 0)) (List.drop (tn 0) ((w1 ++ w2).map Rw.e)) = w1.map Rw.e := by
    show List.take ((k : Int) - 0).toNat (List.drop 0 ((w1 ++ w2).map Rw.e)) = _
    rw [show ((k : Int) - 0).toNat = k by omega, List.drop_zero, List.map_append, ← hk]
    simp
  have e2 : List.take (tn ((lenI ((w1 ++ w2).map Rw.e)) - (k : Int))) (List.drop (tn (k : Int)) ((w1 ++ w2).map Rw.e)) = w2.map Rw.e := by
    rw [lenI_map]
    show List.take (((w1 ++ w2).length : Int) - (k : Int)).toNat (List.drop k ((w1 ++ w2).map Rw.e)) = _
    rw [show (((w1 ++ w2).length : Int) - (k : Int)).toNat = w2.length by simp; omega, List.map_append, ← hk]
    simp [List.take_of_length_le]
  rw [in_i hll, e1, e2, len_map, len_map, show leI (k : Int) (lenI ((w1 ++ w2).map Rw.e)) = true by rw [lenI_map]; exact leT (by simp; omega), leT (show (0 : Int) ≤ (k : Int) by omega), show fitM (1 + w2.length) 24 = true from fitT (by omega), show fitM (0 + w1.length) 24 = true from fitT (by omega), show fitM (Nat.succ (w1.length + w2.length)) 24 = true from fitT (by omega), w64_s (by omega)]
  simp only [cond_true, Bool.and_self, tn_c, hc, gk, gv, gw]
  congr 1
  simp [rw_of]
theorem ss1 (l u v : List Rw) (c : Rw) (i : Nat) (hl : l = u ++ c :: v) (hi : u.length = i) (hi2 : i < 1152921504606846976) : ∀ (n : Nat) (w1 w2 : List Rw) (k : Nat), w1.length = n → k = n → Srt (w1 ++ w2) → (∀ y ∈ w2, Rw.le c y) → (w1 ++ w2).length ≤ 1099511627776 →
    ∃ w, w.Perm ((w1 ++ w2) ++ [c]) ∧ Srt w ∧ L_spec_SortRows_1 (l.map Rw.e) (i : Nat) (k : Nat) ((w1 ++ w2).map Rw.e) = L_spec_SortRows_0 (l.map Rw.e) ((i + 1 : Nat) : Int) (w.map Rw.e) := by
  have hll : i < l.length := by rw [hl, ← hi]; simp
  have hc : nth l i = c := by rw [hl, ← hi, nth_app2 _ _ (Nat.le_refl _)]; simp [nth]
  have pm : ∀ w1 w2 : List Rw, (w1 ++ c :: w2).Perm ((w1 ++ w2) ++ [c]) := fun w1 w2 => List.perm_middle.trans (by simpa using (List.perm_append_comm (l₁ := [c]) (l₂ := w1 ++ w2)))
  intro n
  induction n with
  | zero =>
    intro w1 w2 k hn hk hs hw hlen
    have : w1 = [] := List.length_eq_zero_iff.mp hn
    subst this
    refine ⟨c :: w2, pm [] w2, List.pairwise_cons.mpr ⟨hw, by simpa using hs⟩, ?_⟩
    rw [L_spec_SortRows_1_eq, ltF (by omega), cond_false]
    exact ss_end l u v [] w2 c i k hl hi (by simp; omega) hlen hi2
  | succ n ih =>
    intro w1 w2 k hn hk hs hw hlen
    obtain ⟨w1, d, rfl⟩ := snoc_of (n := n) (l := w1) hn
    have hlen' := hlen
    simp only [List.length_append, List.length_cons, List.length_nil] at hlen' hn
    have i1 : inR ((k - 1 : Nat) : Int) (lenI ((w1 ++ [d] ++ w2).map Rw.e)) = true := in_i (by simp; omega)
    have i2 : inR (i : Int) (lenI (l.map Rw.e)) = true := in_i hll
    have hd : nth (w1 ++ [d] ++ w2) (k - 1) = d := by
      rw [nth_app1 (w1 ++ [d]) w2 (by simp; omega), nth_app2 w1 _ (by omega), show k - 1 - w1.length = 0 by omega]
      simp [nth]
    have a1 : at' ((w1 ++ [d] ++ w2).map Rw.e) (k - 1) = d.e := by rw [at_nth (by simp; omega), hd]
    have a2 : at' (l.map Rw.e) i = c.e := by rw [at_nth hll, hc]
    rw [L_spec_SortRows_1_eq, ltT (by omega), cond_true, w64_pred (by omega) (by omega), i1, cond_true]
    rw [show (bif inR (i : Int) (lenI (l.map Rw.e)) then _ else none : Option (List Dat)) = _ from by rw [i2, cond_true]]
    simp only [tn_c, a1, a2, gk, gv, gw]
    rw [sCompare]
    simp only [gn_c, gb_c, gs_c, gl_c, tk_s, tk_0, List.drop_succ_cons, List.drop_zero, List.headD_cons, List.getD_cons_zero, List.getD_cons_succ, bind_s]
    rw [lt_cmp0']
    by_cases hcd : Rw.lt c d
    · rw [decide_eq_true hcd, cond_true]
      have hs' : Srt (w1 ++ d :: w2) := by simpa using hs
      obtain ⟨w, q1, q2, q3⟩ := ih w1 (d :: w2) (k - 1) (by omega) (by omega) hs' (fun y hy => by
        rcases List.mem_cons.mp hy with rfl | hy
        · exact Rw.lt_le hcd
        · exact hw y hy) (by simp; omega)
      refine ⟨w, by simpa using q1, q2, ?_⟩
      rw [← q3]
      simp
    · rw [decide_eq_false hcd, cond_false]
      refine ⟨(w1 ++ [d]) ++ c :: w2, pm _ _, ?_, ?_⟩
      · obtain ⟨s1, s2, s3⟩ := List.pairwise_append.mp hs
        refine List.pairwise_append.mpr ⟨s1, List.pairwise_cons.mpr ⟨hw, s2⟩, fun x hx y hy => ?_⟩
        rcases List.mem_cons.mp hy with rfl | hy
        · obtain ⟨t1, t2, t3⟩ := List.pairwise_append.mp s1
          rcases List.mem_append.mp hx with hx | hx
          · exact Rw.le_tr (t3 x hx d (by simp)) hcd
          · simp at hx; subst hx; exact hcd
        · exact s3 x hx y hy
      · have := ss_end l u v (w1 ++ [d]) w2 c i k hl hi (by simp; omega) hlen hi2
        simp only [tn_c, a2, gk, gv, gw, i2, cond_true] at this ⊢
        exact this
theorem ss0 (l : List Rw) (hll : l.length ≤ 1099511627770) : ∀ (v u w : List Rw) (i : Nat), l = u ++ v → u.length = i → w.Perm u → Srt w → ∃ y, y.Perm l ∧ Srt y ∧ L_spec_SortRows_0 (l.map Rw.e) (i : Nat) (w.map Rw.e) = some [.sl (y.map Rw.e)]
  | [], u, w, i, hl, hi, hw, hs => by
    rw [List.append_nil] at hl
    refine ⟨w, hl ▸ hw, hs, ?_⟩
    rw [L_spec_SortRows_0_eq, lenI_map, ltF (by rw [hl]; omega), cond_false]
  | c :: v, u, w, i, hl, hi, hw, hs => by
    have hwl := hw.length_eq
    have hlen : l.length = u.length + (v.length + 1) := by rw [hl]; simp
    obtain ⟨w', q1, q2, q3⟩ := ss1 l u v c i hl hi (by omega) w.length w [] w.length rfl rfl (by simpa using hs) (fun y hy => by cases hy) (by simp; omega)
    simp only [List.append_nil] at q1 q3
    obtain ⟨y, y1, y2, y3⟩ := ss0 l hll v (u ++ [c]) w' (i + 1) (by simpa using hl) (by simp; omega) (q1.trans (List.Perm.append_right [c] hw)) q2
    refine ⟨y, y1, y2, ?_⟩
    rw [L_spec_SortRows_0_eq, lenI_map, ltT (by omega), cond_true, lenI_map, q3]
    exact y3
theorem sortRows (x : List Rw) (hx : x.length ≤ 1099511627770) : ∃ y, y.Perm x ∧ Srt y ∧ callI tE f_impl_SortRows [.sl (x.map Rw.e)] = some [.sl (y.map Rw.e)] ∧ callI tE f_spec_SortRows [.sl (x.map Rw.e)] = some [.sl (y.map Rw.e)] := by
  obtain ⟨y, y1, y2, y3⟩ := iSortRows x (by omega)
  obtain ⟨z, z1, z2, z3⟩ := ss0 x hx x [] [] 0 rfl rfl (List.Perm.refl _) List.Pairwise.nil
  have : z = y := srt_unique (z1.trans y1.symm) z2 y2
  subst this
  refine ⟨z, y1, y2, y3, ?_⟩
  rw [c_spec_SortRows]
  exact z3
end Go.Proofs.Ytbmafhpbinjgaaa.Vai
namespace Go.Proofs.Ytbmafhpbinjgaaa.Vai
open Go
set_option linter.unusedSimpArgs false
set_option linter.unusedVariables false
set_option linter.unnecessarySimpa false
set_option maxRecDepth 10000
def ins (c : Rw) : List Rw → List Rw
  | [] => [c]
  | d :: l => if Rw.lt c d then c :: d :: l else d :: ins c l
def isort : List Rw → List Rw
  | [] => []
  | c :: l => ins c (isort l)
theorem ins_perm (c : Rw) : ∀ l, (ins c l).Perm (c :: l)
  | [] => List.Perm.refl _
  | d :: l => by
    unfold ins
    split
    · exact List.Perm.refl _
    · exact ((ins_perm c l).cons d).trans (List.Perm.swap c d l)
theorem ins_srt (c : Rw) : ∀ {l : List Rw}, Srt l → Srt (ins c l)
  | [], _ => List.pairwise_singleton _ _
  | d :: l, h => by
    unfold ins
    obtain ⟨h1, h2⟩ := List.pairwise_cons.mp h
    split
    · rename_i hc
      refine List.pairwise_cons.mpr ⟨fun y hy => ?_, h⟩
      rcases List.mem_cons.mp hy with rfl | hy
      · exact Rw.lt_le hc
      · exact Rw.le_tr (Rw.lt_le hc) (h1 y hy)
    · rename_i hc
      refine List.pairwise_cons.mpr ⟨fun y hy => ?_, ins_srt c h2⟩
      rcases List.mem_cons.mp ((ins_perm c l).mem_iff.mp hy) with rfl | hy
      · exact hc
      · exact h1 y hy
theorem isort_perm : ∀ l, (isort l).Perm l
  | [] => List.Perm.refl _
  | c :: l => (ins_perm c _).trans ((isort_perm l).cons c)
theorem isort_srt : ∀ l, Srt (isort l)
  | [] => List.Pairwise.nil
  | c :: l => ins_srt c (isort_srt l)
theorem sSort (x : List Rw) (hx : x.length ≤ 1099511627770) : callI tE f_spec_SortRows [.sl (x.map Rw.e)] = some [.sl ((isort x).map Rw.e)] := by
  obtain ⟨y, y1, y2, _, y3⟩ := sortRows x hx
  rw [y3, srt_unique (y1.trans (isort_perm x).symm) y2 (isort_srt x)]
theorem isort_len (l : List Rw) : (isort l).length = l.length := (isort_perm l).length_eq
end Go.Proofs.Ytbmafhpbinjgaaa.Vai
namespace Go.Proofs.Ytbmafhpbinjgaaa.Vai
open Go
set_option linter.unusedSimpArgs false
set_option linter.unusedVariables false
set_option linter.unnecessarySimpa false
set_option maxRecDepth 10000
def runSz (l : List (List Rw)) : Prop := szL List.length l ≤ 1073741824
theorem flat_le (m : List (List Rw)) : m.flatten.length ≤ szL List.length m := by
  induction m with
  | nil => simp
  | cons a m ih => simp only [List.flatten_cons, List.length_append, szL]; omega
def bagEq (a b : List Rw) : Bool := decide (isort a = isort b)
theorem bagEq_iff {a b : List Rw} : bagEq a b = true ↔ a.Perm b := by
  simp only [bagEq, decide_eq_true_eq]
  constructor
  · intro h
    exact (isort_perm a).symm.trans (h ▸ isort_perm b)
  · intro h
    exact srt_unique ((isort_perm a).trans (h.trans (isort_perm b).symm)) (isort_srt a) (isort_srt b)
theorem bagEq_len {a b : List Rw} (h : ¬ a.length = b.length) : bagEq a b = false := by
  rw [← Bool.not_eq_true, bagEq_iff]
  exact fun hh => h hh.length_eq
theorem sBags (a b : List Rw) (ha : a.length ≤ 1099511627770) (hb : b.length ≤ 1099511627770) : callI tE f_spec_EqualBags [.sl (a.map Rw.e), .sl (b.map Rw.e)] = some [.bool (bagEq a b)] := by
  rw [c_spec_EqualBags]
  simp only [sSort a ha, sSort b hb, gn_c, gb_c, gs_c, gl_c, tk_s, tk_0, List.drop_succ_cons, List.drop_zero, List.headD_cons, List.getD_cons_zero, List.getD_cons_succ, bind_s]
  by_cases h : a.length = b.length
  · rw [eq_len (by rw [isort_len, isort_len, h]), Bool.not_true, cond_false]
    have := eq_loop (L := fun x y i => L_spec_EqualBags_0 i x y) (e := Rw.e) (P := fun _ => True) (fun p q p' q' a b _ hpl hlt => by
      rw [L_spec_EqualBags_0_eq]
      simp only [lt_mid, in_mid, tn_c, at_mid, cond_true, cond_false, gn_c, gb_c, gs_c, gl_c, tk_s, tk_0, List.drop_succ_cons, List.drop_zero, List.headD_cons, List.getD_cons_zero, List.getD_cons_succ, bind_s, in_mid' hpl, at_mid' hpl, Rw.e, eq_Rw3, bifn]) (fun p p' hpl => by
      rw [L_spec_EqualBags_0_eq, lt_end, cond_false]) (isort a) (isort b) [] [] rfl (by rw [isort_len, isort_len, h]) (fun a ha => trivial) (by simp [isort_len]; omega)
    simpa [bagEq] using this
  · rw [ne_len (by rw [isort_len, isort_len]; exact h), Bool.not_false, cond_true, bagEq_len h]
def So.B (s : So) : Prop := s.sz ≤ 1073741824
theorem So.B.p {s : So} (h : s.B) : s.inp.length ≤ 1073741824 ∧ s.heap.length ≤ 1073741824 ∧ s.dfd.length ≤ 1073741824 ∧ s.out.length ≤ 1073741824 ∧ runSz s.runs := by
  simp only [So.B, So.sz] at h
  unfold runSz
  omega
end Go.Proofs.Ytbmafhpbinjgaaa.Vai
namespace Go.Proofs.Ytbmafhpbinjgaaa.Vai
open Go
set_option linter.unusedSimpArgs false
set_option linter.unusedVariables false
set_option linter.unnecessarySimpa false
set_option maxRecDepth 10000
theorem sSame (a b : List (List Rw)) (h : szL List.length a ≤ 1073741824) : callI tE f_spec_l26Same [.sl (a.map rsE), .sl (b.map rsE)] = some [.bool (decide (a = b))] := by
  have hl := szL_len List.length a
  rw [c_spec_l26Same]
  by_cases hll : a.length = b.length
  · rw [eq_len hll, Bool.not_true, cond_false]
    have := eq_loop (L := fun x y i => L_spec_l26Same_0 x y i) (e := rsE) (P := fun r : List Rw => r.length ≤ 1073741824) (fun p q p' q' a b ha hpl hlt => by
      rw [L_spec_l26Same_0_eq]
      simp only [lt_mid, in_mid, tn_c, at_mid, cond_true, cond_false, gn_c, gb_c, gs_c, gl_c, tk_s, tk_0, List.drop_succ_cons, List.drop_zero, List.headD_cons, List.getD_cons_zero, List.getD_cons_succ, bind_s, in_mid' hpl, at_mid' hpl, rsE, sEqual a b (show a.length ≤ 1152921504606846976 by omega), bifn]) (fun p p' hpl => by
      rw [L_spec_l26Same_0_eq, lt_end, cond_false]) a b [] [] rfl hll (fun r hr => Nat.le_trans (szL_mem' hr) h) (by simp; omega)
    simpa using this
  · rw [ne_len hll, Bool.not_false, cond_true, decide_eq_false (fun e => hll (by rw [e]))]
def xEq (x y : Xc) : Bool := eqI x.cap y.cap && (decide (x.pend = y.pend) && (decide (x.que = y.que) && decide (x.got = y.got)))
theorem xEq_self (x : Xc) : xEq x x = true := by simp [xEq, eqI]
theorem sEqX (x y : Xc) (h : x.B) : callI tE f_spec_EqualExchanges [.sl (x.pend.map rsE), .sl (x.que.map rsE), .sl (x.got.map rsE), .int x.cap, .sl (y.pend.map rsE), .sl (y.que.map rsE), .sl (y.got.map rsE), .int y.cap] = some [.bool (xEq x y)] := by
  have hb := h.p
  rw [c_spec_EqualExchanges]
  simp only [sSame x.pend y.pend hb.1, sSame x.que y.que hb.2.1, sSame x.got y.got hb.2.2, gn_c, gb_c, gs_c, gl_c, tk_s, tk_0, List.drop_succ_cons, List.drop_zero, List.headD_cons, List.getD_cons_zero, List.getD_cons_succ, bind_s]
  unfold xEq
  cases eqI x.cap y.cap
  · rfl
  · cases decide (x.pend = y.pend)
    · rfl
    · cases decide (x.que = y.que) <;> rfl
def emptyL (l : List (List Rw)) : Bool := l.all fun r => decide (r.length = 0)
theorem emptyL_iff : ∀ {l : List (List Rw)}, emptyL l = true ↔ l.flatten.length = 0
  | [] => by simp [emptyL]
  | a :: l => by
    have := emptyL_iff (l := l)
    unfold emptyL at *
    simp only [List.all_cons, Bool.and_eq_true, this, List.flatten_cons, List.length_append, decide_eq_true_eq]
    omega
def doneX (x : Xc) : Bool := exOk x && (emptyL x.pend && emptyL x.que)
theorem iDoneX (x : Xc) (h : x.B2) : callI tE f_impl_IsExchangeDone [.sl (x.pend.map rsE), .sl (x.que.map rsE), .sl (x.got.map rsE), .int x.cap] = some [.bool (doneX x)] := by
  have hb := h.b.p
  have e : ∀ l : List (List Rw), eqI (l.flatten.length : Nat) 0 = emptyL l := fun l => by
    rw [Bool.eq_iff_iff, emptyL_iff]
    unfold eqI
    rw [decide_eq_true_eq]; omega
  rw [c_impl_IsExchangeDone]
  simp only [iValidX x h, iTogether x.pend hb.1, iTogether x.que hb.2.1, gn_c, gb_c, gs_c, gl_c, tk_s, tk_0, List.drop_succ_cons, List.drop_zero, List.headD_cons, List.getD_cons_zero, List.getD_cons_succ, bind_s, lenI_map, e]
  unfold doneX
  cases exOk x
  · rfl
  · cases emptyL x.pend <;> rfl
theorem sDoneX (x : Xc) (h : x.B2) : callI tE f_spec_IsExchangeDone [.sl (x.pend.map rsE), .sl (x.que.map rsE), .sl (x.got.map rsE), .int x.cap] = some [.bool (doneX x)] := by
  have hb := h.b.p
  have hl1 := szL_len List.length x.pend
  have hl2 := szL_len List.length x.que
  have d : ∀ a : List Rw, ltI 0 (lenI (a.map Rw.e)) = !decide (a.length = 0) := fun a => by
    rw [lenI_map]
    by_cases ha : a.length = 0
    · rw [ltF (by omega), decide_eq_true ha]; rfl
    · rw [ltT (by omega), decide_eq_false ha]; rfl
  rw [c_spec_IsExchangeDone]
  have h2 := all_loop (l := x.que) (L := fun i => L_spec_IsExchangeDone_1 0 i (x.pend.map rsE) (x.que.map rsE) (x.got.map rsE) x.cap) (p := fun r => decide (r.length = 0)) (no := some [.bool false]) (yes := some [.bool (exOk x)]) (by omega) (fun u a v e => by
    have i1 : inR (u.length : Int) (lenI (x.que.map rsE)) = true := by rw [e]; exact in_m u v a
    have i2 : ltI (u.length : Int) (lenI (x.que.map rsE)) = true := by rw [e]; exact lt_m u v a
    have i3 : at' (x.que.map rsE) u.length = rsE a := by rw [e]; exact at_m u v a
    rw [L_spec_IsExchangeDone_1_eq, i1, i2, tn_c, i3]
    simp only [cond_true, rsE, gn_c, gb_c, gs_c, gl_c, tk_s, tk_0, List.drop_succ_cons, List.drop_zero, List.headD_cons, List.getD_cons_zero, List.getD_cons_succ, bind_s, d]
    cases decide (a.length = 0) <;> rfl) (by rw [L_spec_IsExchangeDone_1_eq, lt_e, cond_false, sValidX x h]; rfl)
  have h1 := all_loop (l := x.pend) (L := fun i => L_spec_IsExchangeDone_0 0 i (x.pend.map rsE) (x.que.map rsE) (x.got.map rsE) x.cap) (p := fun r => decide (r.length = 0)) (no := some [.bool false]) (yes := bif x.que.all (fun r => decide (r.length = 0)) then some [.bool (exOk x)] else some [.bool false]) (by omega) (fun u a v e => by
    have i1 : inR (u.length : Int) (lenI (x.pend.map rsE)) = true := by rw [e]; exact in_m u v a
    have i2 : ltI (u.length : Int) (lenI (x.pend.map rsE)) = true := by rw [e]; exact lt_m u v a
    have i3 : at' (x.pend.map rsE) u.length = rsE a := by rw [e]; exact at_m u v a
    rw [L_spec_IsExchangeDone_0_eq, i1, i2, tn_c, i3]
    simp only [cond_true, rsE, gn_c, gb_c, gs_c, gl_c, tk_s, tk_0, List.drop_succ_cons, List.drop_zero, List.headD_cons, List.getD_cons_zero, List.getD_cons_succ, bind_s, d]
    cases decide (a.length = 0) <;> rfl) (by rw [L_spec_IsExchangeDone_0_eq, lt_e, cond_false]; exact h2)
  refine h1.trans ?_
  unfold doneX emptyL
  cases x.pend.all (fun r => decide (r.length = 0))
  · simp
  · cases x.que.all (fun r => decide (r.length = 0))
    · simp
    · simp
end Go.Proofs.Ytbmafhpbinjgaaa.Vai
namespace Go.Proofs.Ytbmafhpbinjgaaa.Vai
open Go
set_option linter.unusedSimpArgs false
set_option linter.unusedVariables false
set_option linter.unnecessarySimpa false
set_option maxRecDepth 100000
noncomputable def L_laws_FnExchangeDelivery_0 (x0 : Int) (x1 : Int) (x2 : Int) (x3 : Int) (x4 : Int) (x5 : Int) (x6 : Int) (x7 : List (List Dat)) (x8 : List (List Dat)) (x9 : List (List Dat)) (x10 : List (List Dat)) (x11 : List (List Dat)) (x12 : List (List Dat)) (x13 : List (List Dat)) (x14 : List (List Dat)) : Option (List Dat) := loopK tE f_laws_FnExchangeDelivery 0 ⟨[(3, (.ptr (500000, 0) x0 0)), (5, (.ptr (500001, 0) x1 0)), (6, (.i .i64 x2)), (11, (.own (500002, 0))), (12, (.own (500003, 0))), (13, (.i .i64 x3)), (14, (.i .i64 x4))], [((500000, 0), (.box 49 [(.own (500004, 0)), (.own (500005, 0)), (.own (500006, 0)), (.i .i64 x5)])), ((500001, 0), (.box 49 [(.own (500007, 0)), (.own (500008, 0)), (.own (500009, 0)), (.i .i64 x6)])), ((500002, 0), (.row 43 x7 Bool.true 0 [])), ((500003, 0), (.row 43 x8 Bool.true 0 [])), ((500004, 0), (.row 34 x9 Bool.true 0 [])), ((500005, 0), (.row 34 x10 Bool.true 0 [])), ((500006, 0), (.row 34 x11 Bool.true 0 [])), ((500007, 0), (.row 34 x12 Bool.true 0 [])), ((500008, 0), (.row 34 x13 Bool.true 0 [])), ((500009, 0), (.row 34 x14 Bool.true 0 []))]⟩
noncomputable def L_laws_FnExchangeDelivery_1 (x0 : Int) (x1 : Int) (x2 : Int) (x3 : Int) (x4 : Int) (x5 : Int) (x6 : Int) (x7 : List (List Dat)) (x8 : List (List Dat)) (x9 : List (List Dat)) (x10 : List (List Dat)) (x11 : List (List Dat)) (x12 : List (List Dat)) (x13 : List (List Dat)) (x14 : List (List Dat)) : Option (List Dat) := loopK tE f_laws_FnExchangeDelivery 1 ⟨[(3, (.ptr (500000, 0) x0 0)), (5, (.ptr (500001, 0) x1 0)), (6, (.i .i64 x2)), (11, (.own (500002, 0))), (12, (.own (500003, 0))), (13, (.i .i64 x3)), (15, (.i .i64 x4))], [((500000, 0), (.box 49 [(.own (500004, 0)), (.own (500005, 0)), (.own (500006, 0)), (.i .i64 x5)])), ((500001, 0), (.box 49 [(.own (500007, 0)), (.own (500008, 0)), (.own (500009, 0)), (.i .i64 x6)])), ((500002, 0), (.row 43 x7 Bool.true 0 [])), ((500003, 0), (.row 43 x8 Bool.true 0 [])), ((500004, 0), (.row 34 x9 Bool.true 0 [])), ((500005, 0), (.row 34 x10 Bool.true 0 [])), ((500006, 0), (.row 34 x11 Bool.true 0 [])), ((500007, 0), (.row 34 x12 Bool.true 0 [])), ((500008, 0), (.row 34 x13 Bool.true 0 [])), ((500009, 0), (.row 34 x14 Bool.true 0 []))]⟩
noncomputable def L_laws_FnExchangeDelivery_2 (x0 : Int) (x1 : Int) (x2 : Int) (x3 : Int) (x4 : Int) (x5 : List (List Dat)) (x6 : List (List Dat)) (x7 : List (List Dat)) (x8 : List (List Dat)) (x9 : List (List Dat)) : Option (List Dat) := loopK tE f_laws_FnExchangeDelivery 2 ⟨[(5, (.ptr (500000, 0) x0 0)), (6, (.i .i64 x1)), (11, (.own (500001, 0))), (12, (.own (500002, 0))), (13, (.i .i64 x2)), (16, (.i .i64 x3))], [((500000, 0), (.box 49 [(.own (500003, 0)), (.own (500004, 0)), (.own (500005, 0)), (.i .i64 x4)])), ((500001, 0), (.row 43 x5 Bool.true 0 [])), ((500002, 0), (.row 43 x6 Bool.true 0 [])), ((500003, 0), (.row 34 x7 Bool.true 0 [])), ((500004, 0), (.row 34 x8 Bool.true 0 [])), ((500005, 0), (.row 34 x9 Bool.true 0 []))]⟩
noncomputable def L_laws_FnExchangeDelivery_3 (x0 : Int) (x1 : Int) (x2 : Int) (x3 : Int) (x4 : Int) (x5 : Int) (x6 : List (List Dat)) (x7 : List (List Dat)) (x8 : List (List Dat)) (x9 : List (List Dat)) (x10 : List (List Dat)) : Option (List Dat) := loopK tE f_laws_FnExchangeDelivery 3 ⟨[(5, (.ptr (500000, 0) x0 0)), (6, (.i .i64 x1)), (11, (.own (500001, 0))), (12, (.own (500002, 0))), (13, (.i .i64 x2)), (16, (.i .i64 x3)), (17, (.i .i64 x4))], [((500000, 0), (.box 49 [(.own (500003, 0)), (.own (500004, 0)), (.own (500005, 0)), (.i .i64 x5)])), ((500001, 0), (.row 43 x6 Bool.true 0 [])), ((500002, 0), (.row 43 x7 Bool.true 0 [])), ((500003, 0), (.row 34 x8 Bool.true 0 [])), ((500004, 0), (.row 34 x9 Bool.true 0 [])), ((500005, 0), (.row 34 x10 Bool.true 0 []))]⟩
theorem L_laws_FnExchangeDelivery_0_eq (x0 : Int) (x1 : Int) (x2 : Int) (x3 : Int) (x4 : Int) (x5 : Int) (x6 : Int) (x7 : List (List Dat)) (x8 : List (List Dat)) (x9 : List (List Dat)) (x10 : List (List Dat)) (x11 : List (List Dat)) (x12 : List (List Dat)) (x13 : List (List Dat)) (x14 : List (List Dat)) : L_laws_FnExchangeDelivery_0 x0 x1 x2 x3 x4 x5 x6 x7 x8 x9 x10 x11 x12 x13 x14 = (bif (ltI x4 (lenI x9)) then (bif (inR x4 (lenI x9)) then (bif (fitM ((len x7) + (len (gl (at' x9 (tn x4))))) 24) then (bif (inR x4 (lenI x9)) then (L_laws_FnExchangeDelivery_0 x0 x1 x2 (w64 (x3 + (w64 (2 * (lenI (gl (at' x9 (tn x4)))))))) (w64 (x4 + 1)) x5 x6 (List.append x7 (gl (at' x9 (tn x4)))) x8 x9 x10 x11 x12 x13 x14) else none) else none) else none) else (L_laws_FnExchangeDelivery_1 x0 x1 x2 x3 0 x5 x6 x7 x8 x9 x10 x11 x12 x13 x14)) := (loopK_run (by kernel_rfl)).trans (by kernel_rfl)
theorem L_laws_FnExchangeDelivery_1_eq (x0 : Int) (x1 : Int) (x2 : Int) (x3 : Int) (x4 : Int) (x5 : Int) (x6 : Int) (x7 : List (List Dat)) (x8 : List (List Dat)) (x9 : List (List Dat)) (x10 : List (List Dat)) (x11 : List (List Dat)) (x12 : List (List Dat)) (x13 : List (List Dat)) (x14 : List (List Dat)) : L_laws_FnExchangeDelivery_1 x0 x1 x2 x3 x4 x5 x6 x7 x8 x9 x10 x11 x12 x13 x14 = (bif (ltI x4 (lenI x10)) then (bif (inR x4 (lenI x10)) then (bif (fitM ((len x7) + (len (gl (at' x10 (tn x4))))) 24) then (bif (inR x4 (lenI x11)) then (bif (fitM ((len (List.append x7 (gl (at' x10 (tn x4))))) + (len (gl (at' x11 (tn x4))))) 24) then (bif (inR x4 (lenI x10)) then (L_laws_FnExchangeDelivery_1 x0 x1 x2 (w64 (x3 + (lenI (gl (at' x10 (tn x4)))))) (w64 (x4 + 1)) x5 x6 (List.append (List.append x7 (gl (at' x10 (tn x4)))) (gl (at' x11 (tn x4)))) x8 x9 x10 x11 x12 x13 x14) else none) else none) else none) else none) else none) else (L_laws_FnExchangeDelivery_2 x1 x2 x3 0 x6 x7 x8 x12 x13 x14)) := (loopK_run (by kernel_rfl)).trans (by kernel_rfl)
theorem L_laws_FnExchangeDelivery_2_eq (x0 : Int) (x1 : Int) (x2 : Int) (x3 : Int) (x4 : Int) (x5 : List (List Dat)) (x6 : List (List Dat)) (x7 : List (List Dat)) (x8 : List (List Dat)) (x9 : List (List Dat)) : L_laws_FnExchangeDelivery_2 x0 x1 x2 x3 x4 x5 x6 x7 x8 x9 = (bif (ltI x3 (lenI x9)) then (bif (inR x3 (lenI x9)) then (bif (fitM ((len x6) + (len (gl (at' x9 (tn x3))))) 24) then (L_laws_FnExchangeDelivery_3 x0 x1 x2 x3 0 x4 x5 (List.append x6 (gl (at' x9 (tn x3)))) x7 x8 x9) else none) else none) else (((callI tE f_impl_IsExchangeDone [(.sl x7), (.sl x8), (.sl x9), (.int x4)])).bind (fun r0 => (bif (gb r0) then (((callI tE f_spec_IsExchangeDone [(.sl x7), (.sl x8), (.sl x9), (.int x4)])).bind (fun r1 => (bif (gb r1) then (((callI tE f_spec_EqualBags [(.sl x5), (.sl x6)])).bind (fun r2 => (bif (gb r2) then (some [(.bool (eqI x1 x2))]) else (some [(.bool Bool.false)])))) else (some [(.bool Bool.false)])))) else (some [(.bool Bool.false)]))))) := (loopK_run (by kernel_rfl)).trans (by kernel_rfl)
theorem L_laws_FnExchangeDelivery_3_eq (x0 : Int) (x1 : Int) (x2 : Int) (x3 : Int) (x4 : Int) (x5 : Int) (x6 : List (List Dat)) (x7 : List (List Dat)) (x8 : List (List Dat)) (x9 : List (List Dat)) (x10 : List (List Dat)) : L_laws_FnExchangeDelivery_3 x0 x1 x2 x3 x4 x5 x6 x7 x8 x9 x10 = (bif (inR x3 (lenI x10)) then (bif (ltI x4 (lenI (gl (at' x10 (tn x3))))) then (bif (inR x3 (lenI x10)) then (bif (inR x4 (lenI (gl (at' x10 (tn x3))))) then (((callI tE f_impl_ReceiverFor [(.int (gn (at' (gl (at' x10 (tn x3))) (tn x4)))), (.int (gn (tk 1 (at' (gl (at' x10 (tn x3))) (tn x4))))), (.int (gn (tk 2 (at' (gl (at' x10 (tn x3))) (tn x4))))), (.int (lenI x9))])).bind (fun r0 => (bif (!(eqI (gn r0) x3)) then (some [(.bool Bool.false)]) else (L_laws_FnExchangeDelivery_3 x0 x1 x2 x3 (w64 (x4 + 1)) x5 x6 x7 x8 x9 x10)))) else none) else none) else (L_laws_FnExchangeDelivery_2 x0 x1 x2 (w64 (x3 + 1)) x5 x6 x7 x8 x9 x10)) else none) := (loopK_run (by kernel_rfl)).trans (by kernel_rfl)
theorem c_laws_FnExchangeDelivery (a0 : List (List Dat)) : callI tE f_laws_FnExchangeDelivery [.sl a0] = (((callI tE f_laws_big [(.sl a0)])).bind (fun r0 => (bif (gb r0) then (some [(.bool Bool.true)]) else (((callI tE f_spec_DrawRunExchange [(.sl a0)])).bind (fun r1 => (((callI tE f_impl_RunExchange [(.sl (gl r1)), (.sl (gl (tk 1 r1))), (.sl (gl (tk 2 r1))), (.int (gn (tk 3 r1))), (.sl (gl (tk 4 r1)))])).bind (fun r2 => (((callI tE f_spec_RunExchange [(.sl (gl r1)), (.sl (gl (tk 1 r1))), (.sl (gl (tk 2 r1))), (.int (gn (tk 3 r1))), (.sl (gl (tk 4 r1)))])).bind (fun r3 => (bif (!(eqBo (gb (tk 5 r2)) (gb (tk 5 r3)))) then (some [(.bool Bool.false)]) else (bif (!(eqI (gn (tk 4 r2)) (gn (tk 4 r3)))) then (some [(.bool Bool.false)]) else (((callI tE f_spec_EqualExchanges [(.sl (gl r2)), (.sl (gl (tk 1 r2))), (.sl (gl (tk 2 r2))), (.int (gn (tk 3 r2))), (.sl (gl r3)), (.sl (gl (tk 1 r3))), (.sl (gl (tk 2 r3))), (.int (gn (tk 3 r3)))])).bind (fun r4 => (bif (!(gb r4)) then (some [(.bool Bool.false)]) else (((callI tE f_impl_IsValidExchange [(.sl (gl r1)), (.sl (gl (tk 1 r1))), (.sl (gl (tk 2 r1))), (.int (gn (tk 3 r1)))])).bind (fun r5 => (((callI tE f_spec_IsValidExchange [(.sl (gl r1)), (.sl (gl (tk 1 r1))), (.sl (gl (tk 2 r1))), (.int (gn (tk 3 r1)))])).bind (fun r6 => (bif (!(eqBo (gb r5) (gb r6))) then (some [(.bool Bool.false)]) else (bif (!(gb (tk 5 r2))) then (some [(.bool (eqI (gn (tk 4 r2)) 0))]) else (L_laws_FnExchangeDelivery_0 0 0 (gn (tk 4 r2)) 0 0 (gn (tk 3 r1)) (gn (tk 3 r2)) [] [] (gl r1) (gl (tk 1 r1)) (gl (tk 2 r1)) (gl r2) (gl (tk 1 r2)) (gl (tk 2 r2))))))))))))))))))))))) := (callI_run rfl (by kernel_rfl)).trans (by kernel_rfl)
end Go.Proofs.Ytbmafhpbinjgaaa.Vai
namespace Go.Proofs.Ytbmafhpbinjgaaa.Vai
open Go
set_option linter.unusedSimpArgs false
set_option linter.unusedVariables false
set_option linter.unnecessarySimpa false
set_option maxRecDepth 10000
def allX (x : Xc) : List Rw := x.pend.flatten ++ (x.que.flatten ++ x.got.flatten)
theorem flat_m (u v : List (List Rw)) (a : List Rw) : (u ++ a :: v).flatten = u.flatten ++ (a ++ v.flatten) := by simp
theorem send_keep {x : Xc} {n : Nat} (hv : exOk x = true) (h : (sendX x n).2 = true) : mu (sendX x n).1 + 1 = mu x ∧ (allX (sendX x n).1).Perm (allX x) ∧ (sendX x n).1.que.length = x.que.length := by
  by_cases hc : exOk x = true ∧ 0 ≤ (n : Int) ∧ (n : Int) < x.pend.length
  · have e : sendX x n = _ := if_pos hc
    rw [e] at h ⊢
    have hp := exOk_p hv
    obtain ⟨pend, que, got, cap⟩ := x
    simp only at *
    obtain ⟨u, a, v, rfl, rfl⟩ := split_at (show n < pend.length by omega)
    rw [Int.toNat_natCast, getD_m] at h ⊢
    cases a with
    | nil => cases h
    | cons r p =>
      have hr : r.ok = true := aok_all (hp.1 (r :: p) (by simp)) r (by simp)
      obtain ⟨r0, r1⟩ := recv_ok (n := que.length) hp.2.2.1 hr
      obtain ⟨m, hm⟩ : ∃ m : Nat, recv r que.length = m := ⟨(recv r que.length).toNat, by omega⟩
      rw [hm] at r1
      simp only [hm, Int.toNat_natCast] at h ⊢
      obtain ⟨u2, q, v2, rfl, rfl⟩ := split_at (show m < que.length by omega)
      rw [getD_m] at h ⊢
      by_cases hc2 : (q.length : Int) = cap
      · rw [if_pos hc2] at h; cases h
      · rw [if_neg hc2, set_m, set_m]
        refine ⟨?_, ?_, by simp⟩
        · simp only [mu, tot_m, List.length_cons, List.length_append, List.length_nil]
          omega
        · simp only [allX, flat_m]
          rw [List.perm_iff_count]
          intro z
          simp only [List.count_append, List.count_cons, List.count_nil]
          omega
  · have e : sendX x n = _ := if_neg hc
    rw [e] at h
    cases h
theorem recv_keep {x : Xc} {n : Nat} (hv : exOk x = true) (h : (recvX x n).2 = true) : mu (recvX x n).1 + 1 = mu x ∧ (allX (recvX x n).1).Perm (allX x) ∧ (recvX x n).1.que.length = x.que.length := by
  by_cases hc : exOk x = true ∧ 0 ≤ (n : Int) ∧ (n : Int) < x.que.length
  · have e : recvX x n = _ := if_pos hc
    rw [e] at h ⊢
    have hp := exOk_p hv
    obtain ⟨pend, que, got, cap⟩ := x
    simp only at *
    obtain ⟨u2, g, v2, rfl, hu2⟩ := split_at (show n < got.length by omega)
    obtain ⟨u, a, v, rfl, hu⟩ := split_at (show n < que.length by omega)
    have g1 : (u ++ a :: v).getD n [] = a := by rw [← hu]; exact getD_m u v a []
    have g3 : (u2 ++ g :: v2).getD n [] = g := by rw [← hu2]; exact getD_m u2 v2 g []
    have g4 : ∀ b : List Rw, (u ++ a :: v).set n b = u ++ b :: v := fun b => by rw [← hu]; exact set_m u v a b
    have g5 : ∀ b : List Rw, (u2 ++ g :: v2).set n b = u2 ++ b :: v2 := fun b => by rw [← hu2]; exact set_m u2 v2 g b
    rw [Int.toNat_natCast, g1] at h ⊢
    cases a with
    | nil => cases h
    | cons r p =>
      simp only [g3, g4, g5] at h ⊢
      refine ⟨?_, ?_, by simp⟩
      · simp only [mu, tot_m, List.length_cons]
        omega
      · simp only [allX, flat_m]
        rw [List.perm_iff_count]
        intro z
        simp only [List.count_append, List.count_cons, List.count_nil]
        omega
  · have e : recvX x n = _ := if_neg hc
    rw [e] at h
    cases h
theorem nx_keep {x y : Xc} (hv : exOk x = true) (hy : y ∈ nx x) : mu y + 1 = mu x ∧ (allX y).Perm (allX x) ∧ y.que.length = x.que.length := by
  simp only [nx, sends, recvs, List.mem_append, List.mem_map, List.mem_filter] at hy
  rcases hy with ⟨i, ⟨_, hi⟩, rfl⟩ | ⟨i, ⟨_, hi⟩, rfl⟩
  · exact send_keep hv hi
  · exact recv_keep hv hi
theorem tot_flat (l : List (List Rw)) : tot l = l.flatten.length := by
  induction l with
  | nil => rfl
  | cons a l ih => simp only [tot, ih, List.flatten_cons, List.length_append]
theorem tot_pos : ∀ {l : List (List Rw)}, tot l ≠ 0 → ∃ (u v : List (List Rw)) (r : Rw) (p : List Rw), l = u ++ (r :: p) :: v
  | [], h => absurd rfl h
  | [] :: l, h => by
    obtain ⟨u, v, r, p, e⟩ := tot_pos (l := l) (by simpa [tot] using h)
    exact ⟨[] :: u, v, r, p, by rw [e]; rfl⟩
  | (r :: p) :: l, _ => ⟨[], l, r, p, rfl⟩
theorem stuck_done {x : Xc} (hv : exOk x = true) (h : nx x = []) : mu x = 0 := by
  have hp := exOk_p hv
  simp only [nx, List.append_eq_nil_iff, sends, recvs, List.map_eq_nil_iff, List.filter_eq_nil_iff, List.mem_range] at h
  obtain ⟨h1, h2⟩ := h
  have hq : tot x.que = 0 := by
    by_cases hq : tot x.que = 0
    · exact hq
    · obtain ⟨u, v, r, p, e⟩ := tot_pos hq
      have hu : u.length < x.que.length := by rw [e]; simp
      refine absurd ?_ (h2 u.length hu)
      unfold recvX
      rw [if_pos ⟨hv, by omega, by omega⟩, Int.toNat_natCast]
      have : x.que.getD u.length [] = r :: p := by rw [e]; exact getD_m u v (r :: p) []
      simp only [this]
  have hpd : tot x.pend = 0 := by
    by_cases hpd : tot x.pend = 0
    · exact hpd
    · obtain ⟨u, v, r, p, e⟩ := tot_pos hpd
      have hu : u.length < x.pend.length := by rw [e]; simp
      refine absurd ?_ (h1 u.length hu)
      unfold sendX
      rw [if_pos ⟨hv, by omega, by omega⟩, Int.toNat_natCast]
      have e1 : x.pend.getD u.length [] = r :: p := by rw [e]; exact getD_m u v (r :: p) []
      have hr : r.ok = true := aok_all (hp.1 (r :: p) (by rw [e]; simp)) r (by simp)
      obtain ⟨r0, r1⟩ := recv_ok (n := x.que.length) hp.2.2.1 hr
      have hcap := win_iff.mp hp.2.2.2.2.1
      have e2 : x.que.getD (recv r x.que.length).toNat [] = [] := by
        obtain ⟨u2, q, v2, e3, e4⟩ := split_at (show (recv r x.que.length).toNat < x.que.length by omega)
        have e5' : ∀ n, u2.length = n → x.que.getD n [] = q := fun n hn => by rw [e3, ← hn]; exact getD_m u2 v2 q []
        have e5 := e5' _ e4
        rw [e5]
        rw [e3, tot_m] at hq
        exact List.length_eq_zero_iff.mp (by omega)
      simp only [e1, e2, List.length_nil]
      rw [if_neg (by omega)]
  unfold mu
  omega
theorem runX_end (picks : List Int) : ∀ (f : Nat) (x : Xc) (n : Nat), exOk x = true → mu x ≤ f → f ≤ 4294967296 → mu (runX picks f x n).1 = 0 ∧ (runX picks f x n).2 = n + mu x ∧ (allX (runX picks f x n).1).Perm (allX x) ∧ (runX picks f x n).1.que.length = x.que.length
  | 0, x, n, hv, h, _ => ⟨by show mu x = 0; omega, by show n = n + mu x; omega, List.Perm.refl _, rfl⟩
  | f + 1, x, n, hv, h, hf => by
    rw [runX]
    split
    · rename_i hn
      have hnil : nx x = [] := by
        cases hx : nx x with
        | nil => rfl
        | cons y r =>
          rw [hx] at hn
          have h6 := nx_len x hv
          have := pickAt_lt picks n (l := (y :: r).length) (by simp) (by rw [← hx]; omega)
          rw [List.getElem?_eq_none_iff] at hn
          omega
      have := stuck_done hv hnil
      exact ⟨this, by omega, List.Perm.refl _, rfl⟩
    · rename_i y hy
      have hm := List.mem_of_getElem? hy
      obtain ⟨h1, _, _⟩ := nx_ok hv hm
      obtain ⟨k1, k2, k3⟩ := nx_keep hv hm
      obtain ⟨i1, i2, i3, i4⟩ := runX_end picks f y (n + 1) h1 (by omega) (by omega)
      exact ⟨i1, by omega, i3.trans k2, i4.trans k3⟩
def zipQ : List (List Rw) → List (List Rw) → List Rw
  | q :: qs, g :: gs => q ++ (g ++ zipQ qs gs)
  | _, _ => []
theorem zipQ_perm : ∀ (qs gs : List (List Rw)), qs.length = gs.length → (zipQ qs gs).Perm (qs.flatten ++ gs.flatten)
  | [], [], _ => List.Perm.refl _
  | [], _ :: _, h => by simp at h
  | _ :: _, [], h => by simp at h
  | q :: qs, g :: gs, h => by
    have ih := zipQ_perm qs gs (by simpa using h)
    rw [List.perm_iff_count] at ih ⊢
    intro z
    have := ih z
    simp only [zipQ, List.flatten_cons, List.count_append] at this ⊢
    omega
section
variable {x0 x1 x2 x5 x6 : Int} {G O P' Q' : Rows}
theorem dl0 (p : List (List Rw)) (hp : szL List.length p ≤ 1000) {B C : Rows} (N : Int) : ∀ (v u : List (List Rw)), p = u ++ v → ∀ (acc : List Rw) (t : Int), acc = u.flatten → t = 2 * (tot u : Int) →
    L_laws_FnExchangeDelivery_0 x0 x1 x2 t (u.length : Nat) x5 x6 (acc.map Rw.e) O (p.map rsE) B C P' Q' G = L_laws_FnExchangeDelivery_1 x0 x1 x2 (2 * (tot p : Int)) 0 x5 x6 (p.flatten.map Rw.e) O (p.map rsE) B C P' Q' G
  | [], u, h, acc, t, ha, ht => by
    rw [List.append_nil] at h
    subst h
    rw [L_laws_FnExchangeDelivery_0_eq, lenI_map, ltF (Int.le_refl _), cond_false, ha, ht]
  | a :: v, u, h, acc, t, ha, ht => by
    have hul : u.length < p.length := by rw [h]; simp
    have hat : at' (p.map rsE) u.length = rsE a := at_i h rfl
    have hsz : szL List.length p = szL List.length u + (1 + a.length + szL List.length v) := by rw [h, szL_zip]
    have hu1 := szL_len List.length p
    have hf := flat_le u
    have htu := tot_sz u
    have e1 : tot (u ++ [a]) = tot u + a.length := by rw [tot_m]; simp [tot]
    have ih := dl0 p hp (B := B) (C := C) N v (u ++ [a]) (by rw [h]; simp) (acc ++ a) (2 * ((tot u + a.length : Nat) : Int)) (by rw [ha]; simp) (by rw [e1])
    rw [List.length_append, List.length_singleton] at ih
    rw [L_laws_FnExchangeDelivery_0_eq, in_i hul, lenI_map, ltT (by omega)]
    simp only [cond_true, tn_c, hat, rsE, gn_c, gb_c, gs_c, gl_c, tk_s, tk_0, List.drop_succ_cons, List.drop_zero, List.headD_cons, List.getD_cons_zero, List.getD_cons_succ, bind_s, len_map, app_map2, lenI_map]
    rw [show fitM (acc.length + a.length) 24 = true from fitT (by rw [ha]; omega), cond_true, w64_id (n := 2 * (a.length : Int)) ⟨by omega, by omega⟩, w64_id ⟨by omega, by omega⟩, w64_s (by omega), show t + 2 * (a.length : Int) = 2 * ((tot u + a.length : Nat) : Int) by omega]
    exact ih
theorem dl1 (q g : List (List Rw)) (hq : szL List.length q ≤ 1000) (hg : szL List.length g ≤ 1000) (hqg : q.length = g.length) {A : Rows} (A0 : List Rw) (hA : A0.length ≤ 1000) (T : Nat) (hT : T ≤ 4000) : ∀ (v w u s : List (List Rw)), q = u ++ v → g = s ++ w → u.length = s.length → ∀ (acc : List Rw) (t : Int), acc = A0 ++ zipQ u s → t = T + (tot u : Int) →
    L_laws_FnExchangeDelivery_1 x0 x1 x2 t (u.length : Nat) x5 x6 (acc.map Rw.e) O A (q.map rsE) (g.map rsE) P' Q' G = L_laws_FnExchangeDelivery_2 x1 x2 ((T + tot q : Nat) : Int) 0 x6 ((A0 ++ zipQ q g).map Rw.e) O P' Q' G
  | [], w, u, s, h, h2, hus, acc, t, ha, ht => by
    rw [List.append_nil] at h
    subst h
    have hw : w = [] := List.length_eq_zero_iff.mp (by rw [h2] at hqg; simp at hqg; omega)
    subst hw
    rw [List.append_nil] at h2
    subst h2
    rw [L_laws_FnExchangeDelivery_1_eq, lenI_map, ltF (Int.le_refl _), cond_false, ha, ht, show (T : Int) + (tot q : Int) = ((T + tot q : Nat) : Int) by omega]
  | a :: v, [], u, s, h, h2, hus, acc, t, ha, ht => by
    rw [h, h2] at hqg
    simp at hqg
    omega
  | a :: v, b :: w, u, s, h, h2, hus, acc, t, ha, ht => by
    have hul : u.length < q.length := by rw [h]; simp
    have hat : at' (q.map rsE) u.length = rsE a := at_i h rfl
    have hbt : at' (g.map rsE) u.length = rsE b := at_i h2 hus.symm
    have hsz : szL List.length q = szL List.length u + (1 + a.length + szL List.length v) := by rw [h, szL_zip]
    have hsz2 : szL List.length g = szL List.length s + (1 + b.length + szL List.length w) := by rw [h2, szL_zip]
    have hu1 := szL_len List.length q
    have hf := flat_le u
    have hf2 := flat_le s
    have hzl := (zipQ_perm u s hus).length_eq
    rw [List.length_append] at hzl
    have htu := tot_sz u
    have hal : acc.length = A0.length + (u.flatten.length + s.flatten.length) := by rw [ha, List.length_append, hzl]
    have e1 : tot (u ++ [a]) = tot u + a.length := by rw [tot_m]; simp [tot]
    have ez : ∀ (u s : List (List Rw)), u.length = s.length → zipQ (u ++ [a]) (s ++ [b]) = zipQ u s ++ (a ++ b) := fun u => by
      induction u with
      | nil =>
        intro s hs
        have : s = [] := List.length_eq_zero_iff.mp hs.symm
        subst this
        simp [zipQ]
      | cons c u ih =>
        intro s hs
        cases s with
        | nil => simp at hs
        | cons d s =>
          have := ih s (by simpa using hs)
          simp only [List.cons_append, zipQ, this, List.append_assoc]
    have ih := dl1 q g hq hg hqg (A := A) A0 hA T hT v w (u ++ [a]) (s ++ [b]) (by rw [h]; simp) (by rw [h2]; simp) (by simp [hus]) (acc ++ a ++ b) ((T : Int) + ((tot u + a.length : Nat) : Int)) (by rw [ha, ez u s hus]; simp) (by rw [e1])
    rw [List.length_append, List.length_singleton] at ih
    have i1 : inR (u.length : Int) (lenI (g.map rsE)) = true := in_i (by omega)
    rw [L_laws_FnExchangeDelivery_1_eq, in_i hul, i1, lenI_map, ltT (by omega)]
    simp only [cond_true, tn_c, hat, hbt, rsE, gn_c, gb_c, gs_c, gl_c, tk_s, tk_0, List.drop_succ_cons, List.drop_zero, List.headD_cons, List.getD_cons_zero, List.getD_cons_succ, bind_s, len_map, app_map2, lenI_map]
    rw [show fitM (acc.length + a.length) 24 = true from fitT (by omega), show fitM ((acc ++ a).length + b.length) 24 = true from fitT (by simp; omega)]
    simp only [cond_true]
    rw [w64_id ⟨by omega, by omega⟩, w64_s (by omega), show t + (a.length : Int) = (T : Int) + ((tot u + a.length : Nat) : Int) by omega]
    exact ih
end
theorem dl3 (y : Xc) (k n : Nat) (hk : k < y.got.length) (hk2 : k ≤ 1000) (hn : y.que.length = n) {x0 x1 x2 x5 : Int} {A O : Rows} : ∀ (v u l : List Rw), y.got.getD k [] = l → l = u ++ v → l.length ≤ 1000 → (∀ r ∈ v, recv r n = (k : Int)) →
    L_laws_FnExchangeDelivery_3 x0 x1 x2 (k : Nat) (u.length : Nat) x5 A O (y.pend.map rsE) (y.que.map rsE) (y.got.map rsE) = L_laws_FnExchangeDelivery_2 x0 x1 x2 ((k + 1 : Nat) : Int) x5 A O (y.pend.map rsE) (y.que.map rsE) (y.got.map rsE) := by
  intro v
  have hat : ∀ l : List Rw, y.got.getD k [] = l → at' (y.got.map rsE) k = rsE l := fun l hl => by
    obtain ⟨a, b, c, e1, e2⟩ := split_at hk
    have : y.got.getD k [] = b := by rw [e1, ← e2]; exact getD_m a c b []
    rw [this] at hl
    subst hl
    exact at_i e1 e2
  have i1 : inR (k : Int) (lenI (y.got.map rsE)) = true := in_i hk
  induction v with
  | nil =>
    intro u l hl h hlen hr
    rw [List.append_nil] at h
    rw [L_laws_FnExchangeDelivery_3_eq, i1]
    simp only [cond_true, tn_c, hat l hl, rsE, gn_c, gb_c, gs_c, gl_c, tk_s, tk_0, List.drop_succ_cons, List.drop_zero, List.headD_cons, List.getD_cons_zero, List.getD_cons_succ, bind_s, lenI_map]
    rw [ltF (by rw [h]; omega), cond_false, w64_s (by omega)]
  | cons r v ih =>
    intro u l hl h hlen hr
    have hul : u.length < l.length := by rw [h]; simp
    have ha : at' (l.map Rw.e) u.length = r.e := at_i h rfl
    have ih2 := ih (u ++ [r]) l hl (by rw [h]; simp) hlen (fun z hz => hr z (by simp [hz]))
    rw [List.length_append, List.length_singleton] at ih2
    rw [L_laws_FnExchangeDelivery_3_eq, i1]
    simp only [cond_true, tn_c, hat l hl, rsE, gn_c, gb_c, gs_c, gl_c, tk_s, tk_0, List.drop_succ_cons, List.drop_zero, List.headD_cons, List.getD_cons_zero, List.getD_cons_succ, bind_s, lenI_map]
    rw [ltT (by omega), cond_true, inRT (by omega) (by omega), cond_true]
    simp only [ha, gk, gv, gw, lenI_map, iRecvFor, gn_c, gb_c, gs_c, gl_c, tk_s, tk_0, List.drop_succ_cons, List.drop_zero, List.headD_cons, List.getD_cons_zero, List.getD_cons_succ, bind_s, hn, hr r (by simp), eqI_self, Bool.not_true, cond_false]
    rw [w64_s (by omega)]
    exact ih2
theorem dl2 (y : Xc) (hv : exOk y = true) (hsz : y.sz ≤ 1000) {x0 x1 x2 x5 : Int} {A : Rows} {K : Option (List Dat)} (hK : L_laws_FnExchangeDelivery_2 x0 x1 x2 (y.got.length : Nat) x5 A (y.got.flatten.map Rw.e) (y.pend.map rsE) (y.que.map rsE) (y.got.map rsE) = K) : ∀ (v u : List (List Rw)), y.got = u ++ v →
    L_laws_FnExchangeDelivery_2 x0 x1 x2 (u.length : Nat) x5 A (u.flatten.map Rw.e) (y.pend.map rsE) (y.que.map rsE) (y.got.map rsE) = K
  | [], u, h => by
    rw [List.append_nil] at h
    rw [← h]; exact hK
  | a :: v, u, h => by
    have hp := exOk_p hv
    have hul : u.length < y.got.length := by rw [h]; simp
    have hat : at' (y.got.map rsE) u.length = rsE a := at_i h rfl
    have hgd : y.got.getD u.length [] = a := by rw [h]; exact getD_m u v a []
    have hs : szL List.length y.got ≤ 1000 := by simp only [Xc.sz] at hsz; omega
    have hs2 : szL List.length y.got = szL List.length u + (1 + a.length + szL List.length v) := by rw [h, szL_zip]
    have hl := szL_len List.length y.got
    have hf := flat_le u
    have ih := dl2 y hv hsz hK v (u ++ [a]) (by rw [h]; simp)
    rw [List.length_append, List.length_singleton] at ih
    have hr : ∀ r ∈ a, recv r y.que.length = (u.length : Int) := fun r hr => by
      have h6 := (recvOk_iff hp.2.2.2.1).mp hp.2.2.2.2.2
      obtain ⟨q, hq⟩ : ∃ q, y.que[u.length]? = some q := ⟨_, List.getElem?_eq_getElem (by omega)⟩
      have := ((h6 u.length q a hq (by rw [h]; simp)).2 r (by simp [hr])).2
      simpa using this
    have := dl3 y u.length y.que.length hul (by omega) rfl (x0 := x0) (x1 := x1) (x2 := x2) (x5 := x5) (A := A) (O := (u ++ [a]).flatten.map Rw.e) a [] a hgd rfl (by omega) hr
    rw [L_laws_FnExchangeDelivery_2_eq, in_i hul, lenI_map, ltT (by omega)]
    simp only [cond_true, tn_c, hat, rsE, gn_c, gb_c, gs_c, gl_c, tk_s, tk_0, List.drop_succ_cons, List.drop_zero, List.headD_cons, List.getD_cons_zero, List.getD_cons_succ, bind_s, len_map, app_map2]
    rw [show fitM (u.flatten.length + a.length) 24 = true from fitT (by omega), cond_true, show u.flatten ++ a = (u ++ [a]).flatten by simp]
    exact this.trans ih
theorem pure_FnExchangeDelivery : ∀ ds, OkDs tE [.sl 5] ds → callI tE f_laws_FnExchangeDelivery ds = some [.bool true] := by
  intro ds h0
  obtain ⟨_, _, rfl, i0, h1⟩ := h0.inv
  obtain ⟨l0, rfl⟩ := of_rows i0
  obtain rfl := h1.nil_inv
  rw [c_laws_FnExchangeDelivery, c_laws_big]
  simp only [gn_c, gb_c, gs_c, gl_c, tk_s, tk_0, List.drop_succ_cons, List.drop_zero, List.headD_cons, List.getD_cons_zero, List.getD_cons_succ, bind_s]
  by_cases hs : l0.length ≤ 1048576
  · rw [ltF (show lenI l0 ≤ 1048576 by show (l0.length : Int) ≤ 1048576; omega), cond_false]
    obtain ⟨x, picks, e1, q1⟩ := dDrawRunX l0 hs
    have b1 : x.B2 := by unfold Xc.B2; omega
    have f1 := iRun x picks b1
    have f2 := sRun x picks b1
    have f3 := iValidX x b1
    have f4 := sValidX x b1
    by_cases hv : exOk x = true
    · rw [if_pos hv] at f1 f2
      obtain ⟨r1, r2, _⟩ := runX_ok picks (mu x) x 0 hv
      have hmu : mu x ≤ 1000 := by
        have h1 := tot_sz x.pend
        have h2 := tot_sz x.que
        simp only [Xc.sz] at q1
        unfold mu; omega
      obtain ⟨m1, m2, m3, m4⟩ := runX_end picks (mu x) x 0 hv (Nat.le_refl _) (by omega)
      generalize runX picks (mu x) x 0 = yn at *
      obtain ⟨y, n⟩ := yn
      simp only at r1 r2 m1 m2 m3 m4
      have b2 : y.B2 := by unfold Xc.B2; omega
      have f5 := sEqX y y b2.b
      have hp := exOk_p hv
      have hpy := exOk_p r1
      have hx1 : szL List.length x.pend ≤ 1000 ∧ szL List.length x.que ≤ 1000 ∧ szL List.length x.got ≤ 1000 := by simp only [Xc.sz] at q1; omega
      have hdone : doneX y = true := by
        unfold mu at m1
        unfold doneX
        rw [r1, emptyL_iff.mpr (by rw [← tot_flat]; omega), emptyL_iff.mpr (by rw [← tot_flat]; omega)]
        rfl
      have hall : (x.pend.flatten ++ zipQ x.que x.got).Perm y.got.flatten := by
        have hz := zipQ_perm x.que x.got hp.2.2.2.1.symm
        have e2 : allX y = y.got.flatten := by
          unfold mu at m1
          have h1 : y.pend.flatten = [] := List.length_eq_zero_iff.mp (by rw [← tot_flat]; omega)
          have h2 : y.que.flatten = [] := List.length_eq_zero_iff.mp (by rw [← tot_flat]; omega)
          unfold allX
          rw [h1, h2]; rfl
        rw [← e2]
        exact (List.Perm.append_left _ hz).trans m3.symm
      have hgl : y.got.flatten.length ≤ 1000 := by
        have := flat_le y.got
        simp only [Xc.sz] at r2 q1; omega
      have hal : (x.pend.flatten ++ zipQ x.que x.got).length ≤ 1000 := by rw [hall.length_eq]; exact hgl
      have f6 := iDoneX y b2
      have f7 := sDoneX y b2
      have f8 := sBags (x.pend.flatten ++ zipQ x.que x.got) y.got.flatten (by omega) (by omega)
      simp only [e1, f1, f2, XR, gn_c, gb_c, gs_c, gl_c, tk_s, tk_0, List.drop_succ_cons, List.drop_zero, List.headD_cons, List.getD_cons_zero, List.getD_cons_succ, bind_s, f3, f4, f5, eqBo_self, eqI_self, xEq_self, Bool.not_true, cond_false]
      have hpl : x.pend.flatten.length ≤ 1000 := by have := flat_le x.pend; omega
      have htp := tot_sz x.pend
      have t0 := dl0 (x0 := 0) (x1 := 0) (x2 := (n : Int)) (x5 := x.cap) (x6 := y.cap) (O := []) (P' := y.pend.map rsE) (Q' := y.que.map rsE) (G := y.got.map rsE) x.pend hx1.1 (B := x.que.map rsE) (C := x.got.map rsE) 0 x.pend [] rfl [] 0 rfl (by simp [tot])
      have t1 := dl1 (x0 := 0) (x1 := 0) (x2 := (n : Int)) (x5 := x.cap) (x6 := y.cap) (O := []) (P' := y.pend.map rsE) (Q' := y.que.map rsE) (G := y.got.map rsE) x.que x.got hx1.2.1 hx1.2.2 hp.2.2.2.1.symm (A := x.pend.map rsE) x.pend.flatten hpl (2 * tot x.pend) (by omega) x.que x.got [] [] rfl rfl rfl x.pend.flatten (2 * (tot x.pend : Int)) (by simp [zipQ]) (by simp [tot])
      have t2 := dl2 (x0 := 0) (x1 := (n : Int)) (x2 := ((2 * tot x.pend + tot x.que : Nat) : Int)) (x5 := y.cap) (A := (x.pend.flatten ++ zipQ x.que x.got).map Rw.e) (K := some [.bool true]) y r1 (by omega) (by
        rw [L_laws_FnExchangeDelivery_2_eq, lenI_map, ltF (Int.le_refl _), cond_false]
        simp only [f6, f7, hdone, gn_c, gb_c, gs_c, gl_c, tk_s, tk_0, List.drop_succ_cons, List.drop_zero, List.headD_cons, List.getD_cons_zero, List.getD_cons_succ, bind_s, cond_true, f8, bagEq_iff.mpr hall]
        rw [eqT (by unfold mu at m2; omega)]) y.got [] rfl
      exact t0.trans (t1.trans t2)
    · rw [if_neg hv] at f1 f2
      have f5 := sEqX x x b1.b
      rw [(Bool.not_eq_true _).mp hv] at f3 f4
      simp only [e1, f1, f2, gn_c, gb_c, gs_c, gl_c, tk_s, tk_0, List.drop_succ_cons, List.drop_zero, List.headD_cons, List.getD_cons_zero, List.getD_cons_succ, bind_s, f3, f4, f5, eqBo_self, eqI_self, xEq_self, Bool.not_true, Bool.not_false, cond_false, cond_true]
  · rw [ltT (show 1048576 < lenI l0 by show (1048576 : Int) < (l0.length : Int); omega)]
    rfl
end Go.Proofs.Ytbmafhpbinjgaaa.Vai
