/- Rows of the program and of the reference: validity, costs, order, copies; no condition. -/
import Derived.Test.YtbmafhpbinjgaaaEqA
import Derived.Test.YtbmafhpbinjgaaaT2
namespace Go.Proofs.Ytbmafhpbinjgaaa.Vai
open Go
set_option linter.unusedSimpArgs false
set_option linter.unusedVariables false
set_option linter.unnecessarySimpa false
set_option maxRecDepth 10000
theorem bif_bo (b : Bool) : (bif b then some [Dat.bool true] else some [.bool false]) = some [.bool b] := by cases b <;> rfl
theorem bif_bo' (b : Bool) : (bif b then some [Dat.bool false] else some [.bool true]) = some [.bool !b] := by cases b <;> rfl
theorem bif_bof (p q : Bool) : (bif p then some [Dat.bool q] else some [.bool false]) = some [.bool (p && q)] := by cases p <;> rfl
theorem len_map {α : Type} (e : α → List Dat) (l : List α) : len (l.map e) = l.length := by show (l.map e).length = _; simp
theorem app_map {α : Type} (e : α → List Dat) (l : List α) (a : α) : List.append (l.map e) [e a] = (l ++ [a]).map e := by simp
theorem app_map2 {α : Type} (e : α → List Dat) (l m : List α) : List.append (l.map e) (m.map e) = (l ++ m).map e := by simp
def win (n a b : Int) : Bool := leI a n && leI n b
theorem within_ok (n a b : Int) : callI tE f_impl_within [.int n, .int a, .int b] = some [.bool (win n a b)] := by
  rw [c_impl_within]; unfold win; cases leI a n <;> rfl
theorem l1In_ok (n a b : Int) : callI tE f_spec_l1In [.int n, .int a, .int b] = some [.bool (win n a b)] := by
  rw [c_spec_l1In]; unfold win; cases leI a n <;> rfl
theorem win_iff {n a b : Int} : win n a b = true ↔ a ≤ n ∧ n ≤ b := by simp [win, leI]
def Rw.ok (r : Rw) : Bool := win r.k 0 9 && (win r.v 0 99 && win r.w 0 3)
theorem Rw.ok_iff {r : Rw} : r.ok = true ↔ (0 ≤ r.k ∧ r.k ≤ 9) ∧ (0 ≤ r.v ∧ r.v ≤ 99) ∧ 0 ≤ r.w ∧ r.w ≤ 3 := by simp [Rw.ok, win_iff]
theorem iValidRow (r : Rw) : callI tE f_impl_IsValidRow [.int r.k, .int r.v, .int r.w] = some [.bool r.ok] := by
  simp only [c_impl_IsValidRow, within_ok, gn_c, gb_c, gs_c, gl_c, tk_s, tk_0, List.drop_succ_cons, List.drop_zero, List.headD_cons, List.getD_cons_zero, List.getD_cons_succ, bind_s]
  unfold Rw.ok
  cases win r.k 0 9 <;> cases win r.v 0 99 <;> rfl
theorem sValidRow (r : Rw) : callI tE f_spec_IsValidRow [.int r.k, .int r.v, .int r.w] = some [.bool r.ok] := by
  simp only [c_spec_IsValidRow, l1In_ok, gn_c, gb_c, gs_c, gl_c, tk_s, tk_0, List.drop_succ_cons, List.drop_zero, List.headD_cons, List.getD_cons_zero, List.getD_cons_succ, bind_s]
  unfold Rw.ok
  cases win r.k 0 9 <;> cases win r.v 0 99 <;> rfl
theorem iAllValid (l : List Rw) (h : l.length < 4611686018427387904) : callI tE f_impl_allValid [.sl (l.map Rw.e)] = some [.bool (l.all Rw.ok)] := by
  rw [c_impl_allValid]
  have := all_loop (l := l) (L := L_impl_allValid_0 (l.map Rw.e) (lenI (l.map Rw.e))) (p := Rw.ok) (no := some [.bool false]) (yes := some [.bool true]) (by omega) (fun u a v e => by
    subst e
    rw [L_impl_allValid_0_eq]
    simp only [lt_m, in_m, tn_c, at_m, cond_true, gn_c, gb_c, gs_c, gl_c, tk_s, tk_0, List.drop_succ_cons, List.drop_zero, List.headD_cons, List.getD_cons_zero, List.getD_cons_succ, bind_s, Rw.e, iValidRow, bifn]) (by rw [L_impl_allValid_0_eq, lt_e, cond_false])
  exact this.trans (bif_bo _)
/-- a list of rows that is valid -/
def aok (l : List Rw) : Bool := leI l.length 24 && l.all Rw.ok
theorem iAreValid (l : List Rw) : callI tE f_impl_AreValidRows [.sl (l.map Rw.e)] = some [.bool (aok l)] := by
  rw [c_impl_AreValidRows, lenI_map]
  unfold aok
  by_cases h : (l.length : Int) ≤ 24
  · rw [leT h, iAllValid l (by omega)]; rfl
  · rw [leF (by omega)]; rfl
theorem sAreValid (l : List Rw) (h : l.length < 4611686018427387904) : callI tE f_spec_AreValidRows [.sl (l.map Rw.e)] = some [.bool (aok l)] := by
  rw [c_spec_AreValidRows]
  have := all_loop (l := l) (L := L_spec_AreValidRows_0 (l.map Rw.e)) (p := Rw.ok) (no := some [.bool false]) (yes := some [.bool (leI l.length 24)]) (by omega) (fun u a v e => by
    subst e
    rw [L_spec_AreValidRows_0_eq]
    simp only [lt_m, in_m, tn_c, at_m, cond_true, gn_c, gb_c, gs_c, gl_c, tk_s, tk_0, List.drop_succ_cons, List.drop_zero, List.headD_cons, List.getD_cons_zero, List.getD_cons_succ, bind_s, Rw.e, sValidRow, bifn]) (by rw [L_spec_AreValidRows_0_eq, lt_e, cond_false, lenI_map])
  refine this.trans ?_
  unfold aok
  cases l.all Rw.ok <;> simp
theorem aok_len {l : List Rw} (h : aok l = true) : l.length ≤ 24 := by
  simp only [aok, leI, Bool.and_eq_true, decide_eq_true_eq] at h; omega
theorem aok_all {l : List Rw} (h : aok l = true) : ∀ r ∈ l, r.ok = true := by
  simp only [aok, Bool.and_eq_true] at h; exact List.all_eq_true.mp h.2
theorem aok_iff {l : List Rw} : aok l = true ↔ l.length ≤ 24 ∧ ∀ r ∈ l, r.ok = true := by
  simp only [aok, leI, Bool.and_eq_true, decide_eq_true_eq, List.all_eq_true]
  constructor
  · rintro ⟨h1, h2⟩; exact ⟨by omega, h2⟩
  · rintro ⟨h1, h2⟩; exact ⟨by omega, h2⟩
theorem iClone (l : List Rw) (h : l.length ≤ 1099511627776) : callI tE f_impl_clone [.sl (l.map Rw.e)] = some [.sl (l.map Rw.e)] := by
  rw [c_impl_clone, len_map, fitT (by omega)]; rfl
/-! costs -/
def Rw.cost (r : Rw) : Nat := if r.ok then 1 + r.w.toNat else 0
def tcost (l : List Rw) : Nat := (l.map Rw.cost).sum
theorem cost_le (r : Rw) : r.cost ≤ 4 := by
  unfold Rw.cost
  split
  · rename_i h; have := Rw.ok_iff.mp h; omega
  · omega
theorem tcost_nil : tcost [] = 0 := rfl
theorem tcost_cons (a : Rw) (l : List Rw) : tcost (a :: l) = a.cost + tcost l := by simp [tcost]
theorem tcost_app (l m : List Rw) : tcost (l ++ m) = tcost l + tcost m := by simp [tcost]
theorem tcost_le (l : List Rw) : tcost l ≤ 4 * l.length := by
  induction l with
  | nil => exact Nat.le_refl _
  | cons a l ih => have := cost_le a; rw [tcost_cons, List.length_cons]; omega
theorem cost_int (r : Rw) : (bif !r.ok then some [Dat.int 0] else some [.int (w64 (1 + r.w))]) = some [.int (r.cost : Nat)] := by
  unfold Rw.cost
  cases h : r.ok
  · rfl
  · have := Rw.ok_iff.mp h
    rw [w64_id ⟨by omega, by omega⟩]
    simp only [Bool.not_true, cond_false, if_true]
    congr 3; omega
theorem iRowCost (r : Rw) : callI tE f_impl_RowCost [.int r.k, .int r.v, .int r.w] = some [.int (r.cost : Nat)] := by
  simp only [c_impl_RowCost, iValidRow, gn_c, gb_c, gs_c, gl_c, tk_s, tk_0, List.drop_succ_cons, List.drop_zero, List.headD_cons, List.getD_cons_zero, List.getD_cons_succ, bind_s, cost_int]
theorem sRowCost (r : Rw) : callI tE f_spec_RowCost [.int r.k, .int r.v, .int r.w] = some [.int (r.cost : Nat)] := by
  simp only [c_spec_RowCost, sValidRow, gn_c, gb_c, gs_c, gl_c, tk_s, tk_0, List.drop_succ_cons, List.drop_zero, List.headD_cons, List.getD_cons_zero, List.getD_cons_succ, bind_s, cost_int]
theorem tc_step {u : List Rw} {a : Rw} {n : Int} (hu : u.length < 1152921504606846976) (h : n = (tcost u : Nat)) : w64 (n + (a.cost : Nat)) = ((tcost (u ++ [a]) : Nat) : Int) := by
  have h1 := tcost_le u
  have h2 := cost_le a
  subst h
  rw [w64_id ⟨by omega, by omega⟩, tcost_app, tcost_cons, tcost_nil]; omega
theorem iTotalCost (l : List Rw) (h : l.length < 1152921504606846976) : callI tE f_impl_TotalCost [.sl (l.map Rw.e)] = some [.int (tcost l : Nat)] := by
  rw [c_impl_TotalCost]
  have := zip_loop (l := l) (L := fun s => L_impl_TotalCost_0 s (l.map Rw.e) (lenI (l.map Rw.e))) (F := fun _ _ => some [Dat.int (tcost l : Nat)]) (I := fun s u _ => s = (tcost u : Nat)) (by omega) (fun u a v s e hI => .inl ⟨(tcost (u ++ [a]) : Nat), by
    subst e
    have hu : u.length < 1152921504606846976 := by simp at h; omega
    show L_impl_TotalCost_0 _ _ _ _ = _
    rw [L_impl_TotalCost_0_eq]
    simp only [lt_m, in_m, tn_c, at_m, cond_true, gn_c, gb_c, gs_c, gl_c, tk_s, tk_0, List.drop_succ_cons, List.drop_zero, List.headD_cons, List.getD_cons_zero, List.getD_cons_succ, bind_s, Rw.e, iRowCost, tc_step hu hI], rfl, rfl⟩) (fun s hs => by rw [L_impl_TotalCost_0_eq, lt_e, cond_false, hs]) 0 rfl
  exact this
theorem sTotalCost (l : List Rw) (h : l.length < 1152921504606846976) : callI tE f_spec_TotalCost [.sl (l.map Rw.e)] = some [.int (tcost l : Nat)] := by
  rw [c_spec_TotalCost]
  have := zip_loop (l := l) (L := fun s => L_spec_TotalCost_0 (l.map Rw.e) s) (F := fun _ _ => some [Dat.int (tcost l : Nat)]) (I := fun s u _ => s = (tcost u : Nat)) (by omega) (fun u a v s e hI => .inl ⟨(tcost (u ++ [a]) : Nat), by
    subst e
    have hu : u.length < 1152921504606846976 := by simp at h; omega
    show L_spec_TotalCost_0 _ _ _ = _
    rw [L_spec_TotalCost_0_eq]
    simp only [lt_m, in_m, tn_c, at_m, cond_true, gn_c, gb_c, gs_c, gl_c, tk_s, tk_0, List.drop_succ_cons, List.drop_zero, List.headD_cons, List.getD_cons_zero, List.getD_cons_succ, bind_s, Rw.e, sRowCost, tc_step hu hI], rfl, rfl⟩) (fun s hs => by rw [L_spec_TotalCost_0_eq, lt_e, cond_false, hs]) 0 rfl
  exact this
/-! order -/
def ord (a b : Int) : Int := if a < b then -1 else if b < a then 1 else 0
def cmpR (a b : Rw) : Int := if ord a.k b.k ≠ 0 then ord a.k b.k else if ord a.v b.v ≠ 0 then ord a.v b.v else ord a.w b.w
theorem order_ok (a b : Int) : callI tE f_impl_order [.int a, .int b] = some [.int (ord a b)] := by
  rw [c_impl_order]
  unfold ord
  by_cases h : a < b
  · rw [ltT h, if_pos h]; rfl
  · rw [ltF (by omega), if_neg h]
    by_cases h2 : b < a
    · rw [ltT h2, if_pos h2]; rfl
    · rw [ltF (by omega), if_neg h2]; rfl
theorem iCompare (a b : Rw) : callI tE f_impl_CompareRows [.int a.k, .int a.v, .int a.w, .int b.k, .int b.v, .int b.w] = some [.int (cmpR a b)] := by
  simp only [c_impl_CompareRows, order_ok, gn_c, gb_c, gs_c, gl_c, tk_s, tk_0, List.drop_succ_cons, List.drop_zero, List.headD_cons, List.getD_cons_zero, List.getD_cons_succ, bind_s, bifn]
  unfold cmpR
  by_cases h : ord a.k b.k = 0
  · rw [eqT h, if_neg (by simpa using h)]
    by_cases h2 : ord a.v b.v = 0
    · rw [eqT h2, if_neg (by simpa using h2)]; rfl
    · rw [eqF h2, if_pos h2]; rfl
  · rw [eqF h, if_pos h]; rfl
theorem sCompare (a b : Rw) : callI tE f_spec_CompareRows [.int a.k, .int a.v, .int a.w, .int b.k, .int b.v, .int b.w] = some [.int (cmpR a b)] := by
  have step : ∀ (i : Nat) (x y : Int) (rest : Option (List Dat)), i < 3 → gn (at' [[Dat.int a.k], [.int a.v], [.int a.w]] i) = x → gn (at' [[Dat.int b.k], [.int b.v], [.int b.w]] i) = y → L_spec_CompareRows_0 (w64 ((i : Int) + 1)) [[.int a.k], [.int a.v], [.int a.w]] [[.int b.k], [.int b.v], [.int b.w]] = rest →
      L_spec_CompareRows_0 (i : Int) [[.int a.k], [.int a.v], [.int a.w]] [[.int b.k], [.int b.v], [.int b.w]] = if ord x y ≠ 0 then some [.int (ord x y)] else rest := fun i x y rest hi hx hy hr => by
    rw [L_spec_CompareRows_0_eq, ltT (by omega), inRT (by omega) (show (i : Int) < lenI [[Dat.int a.k], [.int a.v], [.int a.w]] by show (i : Int) < 3; omega), inRT (by omega) (show (i : Int) < lenI [[Dat.int b.k], [.int b.v], [.int b.w]] by show (i : Int) < 3; omega), tn_c, hx, hy, hr]
    unfold ord
    by_cases h : x < y
    · rw [ltT h]; simp [h]
    · rw [ltF (by omega)]
      by_cases h2 : y < x
      · rw [ltT h2]; simp [h, h2]
      · rw [ltF (by omega)]; simp [h, h2]
  rw [c_spec_CompareRows]
  have e3 : L_spec_CompareRows_0 (w64 (((2 : Nat) : Int) + 1)) [[.int a.k], [.int a.v], [.int a.w]] [[.int b.k], [.int b.v], [.int b.w]] = some [.int 0] := by
    rw [L_spec_CompareRows_0_eq]; rfl
  have e2 := step 2 a.w b.w _ (by omega) rfl rfl e3
  have e1 := step 1 a.v b.v _ (by omega) rfl rfl e2
  have e0 := step 0 a.k b.k _ (by omega) rfl rfl e1
  refine e0.trans ?_
  unfold cmpR
  by_cases h : ord a.k b.k = 0 <;> by_cases h2 : ord a.v b.v = 0 <;> by_cases h3 : ord a.w b.w = 0 <;> simp [h, h2, h3]
theorem ord_0 {a b : Int} : ord a b = 0 ↔ a = b := by
  unfold ord
  split
  · omega
  · split <;> omega
theorem ord_neg {a b : Int} : ord a b < 0 ↔ a < b := by
  unfold ord
  split
  · omega
  · split <;> omega
theorem ord_pos {a b : Int} : 0 < ord a b ↔ b < a := by
  unfold ord
  split
  · omega
  · split <;> omega
/-- the order of rows: less -/
def Rw.lt (a b : Rw) : Prop := a.k < b.k ∨ a.k = b.k ∧ (a.v < b.v ∨ a.v = b.v ∧ a.w < b.w)
instance (a b : Rw) : Decidable (Rw.lt a b) := by unfold Rw.lt; infer_instance
theorem cmp_neg {a b : Rw} : cmpR a b < 0 ↔ Rw.lt a b := by
  unfold cmpR Rw.lt
  by_cases h : ord a.k b.k = 0
  · have := ord_0.mp h
    rw [if_neg (by simpa using h)]
    by_cases h2 : ord a.v b.v = 0
    · have := ord_0.mp h2
      rw [if_neg (by simpa using h2), ord_neg]; omega
    · have h3 := mt ord_0.mpr h2
      rw [if_pos h2, ord_neg]; omega
  · have h3 := mt ord_0.mpr h
    rw [if_pos h, ord_neg]; omega
theorem cmp_pos {a b : Rw} : 0 < cmpR a b ↔ Rw.lt b a := by
  unfold cmpR Rw.lt
  by_cases h : ord a.k b.k = 0
  · have := ord_0.mp h
    rw [if_neg (by simpa using h)]
    by_cases h2 : ord a.v b.v = 0
    · have := ord_0.mp h2
      rw [if_neg (by simpa using h2), ord_pos]; omega
    · have h3 := mt ord_0.mpr h2
      rw [if_pos h2, ord_pos]; omega
  · have h3 := mt ord_0.mpr h
    rw [if_pos h, ord_pos]; omega
theorem Rw.eq_of {a b : Rw} (h1 : a.k = b.k) (h2 : a.v = b.v) (h3 : a.w = b.w) : a = b := by cases a; cases b; simp_all
theorem Rw.lt_or {a b : Rw} : Rw.lt a b ∨ a = b ∨ Rw.lt b a := by
  unfold Rw.lt
  by_cases h1 : a.k = b.k <;> by_cases h2 : a.v = b.v <;> by_cases h3 : a.w = b.w
  · exact .inr (.inl (Rw.eq_of h1 h2 h3))
  all_goals omega
theorem Rw.lt_irr (a : Rw) : ¬ Rw.lt a a := by unfold Rw.lt; omega
theorem Rw.lt_tr {a b c : Rw} (h : Rw.lt a b) (h2 : Rw.lt b c) : Rw.lt a c := by unfold Rw.lt at *; omega
def Rw.le (a b : Rw) : Prop := ¬ Rw.lt b a
instance (a b : Rw) : Decidable (Rw.le a b) := by unfold Rw.le; infer_instance
theorem Rw.le_rfl (a : Rw) : Rw.le a a := Rw.lt_irr a
theorem Rw.le_tr {a b c : Rw} (h : Rw.le a b) (h2 : Rw.le b c) : Rw.le a c := by
  intro h3
  rcases Rw.lt_or (a := a) (b := b) with q | q | q
  · exact h2 (Rw.lt_tr h3 q)
  · subst q; exact h2 h3
  · exact h q
theorem Rw.le_antisymm {a b : Rw} (h : Rw.le a b) (h2 : Rw.le b a) : a = b := by
  rcases Rw.lt_or (a := a) (b := b) with q | q | q
  · exact absurd q h2
  · exact q
  · exact absurd q h
theorem Rw.le_total (a b : Rw) : Rw.le a b ∨ Rw.le b a := by
  rcases Rw.lt_or (a := a) (b := b) with q | q | q
  · exact .inl fun h => Rw.lt_irr a (Rw.lt_tr q h)
  · subst q; exact .inl (Rw.le_rfl a)
  · exact .inr fun h => Rw.lt_irr a (Rw.lt_tr h q)
theorem Rw.lt_le {a b : Rw} (h : Rw.lt a b) : Rw.le a b := fun h2 => Rw.lt_irr a (Rw.lt_tr h h2)
theorem cmp_0 {a b : Rw} : cmpR a b = 0 ↔ a = b := by
  have h1 := cmp_neg (a := a) (b := b)
  have h2 := cmp_pos (a := a) (b := b)
  constructor
  · intro h
    rcases Rw.lt_or (a := a) (b := b) with q | q | q
    · have := h1.mpr q; omega
    · exact q
    · have := h2.mpr q; omega
  · intro h
    subst h
    have h3 := Rw.lt_irr a
    have : ¬ cmpR a a < 0 := fun h => h3 (h1.mp h)
    have : ¬ 0 < cmpR a a := fun h => h3 (h2.mp h)
    omega
theorem lt_cmp0 (a b : Rw) : ltI (cmpR a b) 0 = decide (Rw.lt a b) := by
  simp only [ltI, cmp_neg]
theorem lt_cmp0' (a b : Rw) : ltI 0 (cmpR a b) = decide (Rw.lt b a) := by
  simp only [ltI, cmp_pos]
theorem le_cmp0 (a b : Rw) : leI (cmpR a b) 0 = decide (Rw.le a b) := by
  have := cmp_pos (a := a) (b := b)
  simp only [leI, Rw.le]
  congr 1
  exact propext ⟨fun h h2 => by have := this.mpr h2; omega, fun h => by have := mt this.mp h; omega⟩
/-! equal lists of rows -/
theorem eq_Rw3 (a b : Rw) : (eqI a.k b.k && (eqI a.v b.v && (eqI a.w b.w && Bool.true))) = decide (a = b) := by
  have e : decide (a = b) = (decide (a.k = b.k) && (decide (a.v = b.v) && decide (a.w = b.w))) := by
    cases a; cases b
    simp only [Rw.mk.injEq, Bool.decide_and]
  simp only [e, eqI, Bool.and_true]
theorem iEqual (l l' : List Rw) (h : l.length ≤ 1152921504606846976) : callI tE f_impl_equal [.sl (l.map Rw.e), .sl (l'.map Rw.e)] = some [.bool (decide (l = l'))] := by
  rw [c_impl_equal]
  by_cases hll : l.length = l'.length
  · rw [eq_len hll, Bool.not_true, cond_false]
    have := eq_loop (L := fun x y i => L_impl_equal_0 x y (lenI x) i) (e := Rw.e) (P := fun _ => True) (fun p q p' q' a b _ hpl hlt => by
      rw [L_impl_equal_0_eq]
      simp only [lt_mid, in_mid, tn_c, at_mid, cond_true, cond_false, gn_c, gb_c, gs_c, gl_c, tk_s, tk_0, List.drop_succ_cons, List.drop_zero, List.headD_cons, List.getD_cons_zero, List.getD_cons_succ, bind_s, in_mid' hpl, at_mid' hpl, Rw.e, eq_Rw3, bifn]) (fun p p' hpl => by
      rw [L_impl_equal_0_eq, lt_end, cond_false]) l l' [] [] rfl hll (fun a ha => trivial) (by simp; omega)
    simpa using this
  · rw [ne_len hll, Bool.not_false, cond_true, decide_eq_false (fun e => hll (by rw [e]))]
theorem sEqual (l l' : List Rw) (h : l.length ≤ 1152921504606846976) : callI tE f_spec_l6Rows [.sl (l.map Rw.e), .sl (l'.map Rw.e)] = some [.bool (decide (l = l'))] := by
  rw [c_spec_l6Rows]
  by_cases hll : l.length = l'.length
  · rw [eq_len hll, Bool.not_true, cond_false]
    have := eq_loop (L := L_spec_l6Rows_0) (e := Rw.e) (P := fun _ => True) (fun p q p' q' a b _ hpl hlt => by
      rw [L_spec_l6Rows_0_eq]
      simp only [lt_mid, in_mid, tn_c, at_mid, cond_true, cond_false, gn_c, gb_c, gs_c, gl_c, tk_s, tk_0, List.drop_succ_cons, List.drop_zero, List.headD_cons, List.getD_cons_zero, List.getD_cons_succ, bind_s, in_mid' hpl, at_mid' hpl, Rw.e, eq_Rw3, bifn]) (fun p p' hpl => by
      rw [L_spec_l6Rows_0_eq, lt_end, cond_false]) l l' [] [] rfl hll (fun a ha => trivial) (by simp; omega)
    simpa using this
  · rw [ne_len hll, Bool.not_false, cond_true, decide_eq_false (fun e => hll (by rw [e]))]
end Go.Proofs.Ytbmafhpbinjgaaa.Vai
