/- SortRows of both programs; no condition. -/
import Derived.Test.YtbmafhpbinjgaaaQ6
import Derived.Test.YtbmafhpbinjgaaaEqC
namespace Go.Proofs.Ytbmafhpbinjgaaa.Vai
open Go
set_option linter.unusedSimpArgs false
set_option linter.unusedVariables false
set_option linter.unnecessarySimpa false
set_option maxRecDepth 10000
/-- the rows in order -/
theorem iSortRows (x : List Rw) (hx : x.length ≤ 1099511627776) : ∃ y, y.Perm x ∧ Srt y ∧ callI tE f_impl_SortRows [.sl (x.map Rw.e)] = some [.sl (y.map Rw.e)] := by
  obtain ⟨y, y1, y2, y3⟩ := sortStable x (by omega)
  refine ⟨y, y1, y2, ?_⟩
  rw [c_impl_SortRows, iClone x hx]
  simp only [gn_c, gb_c, gs_c, gl_c, tk_s, tk_0, List.drop_succ_cons, List.drop_zero, List.headD_cons, List.getD_cons_zero, List.getD_cons_succ, bind_s, y3]
theorem ss_end (l u v w1 w2 : List Rw) (c : Rw) (i k : Nat) (hl : l = u ++ c :: v) (hi : u.length = i) (hk : w1.length = k) (hw : (w1 ++ w2).length ≤ 1099511627776) (hi2 : i < 1152921504606846976) :
    (bif (inR (i : Int) (lenI (l.map Rw.e))) then (bif ((leI 0 (k : Int)) && (leI (k : Int) (lenI ((w1 ++ w2).map Rw.e)))) then (bif (fitM (1 + (len (List.take (tn ((lenI ((w1 ++ w2).map Rw.e)) - (k : Int))) (List.drop (tn (k : Int)) ((w1 ++ w2).map Rw.e))))) 24) then (bif ((leI 0 (k : Int)) && (leI (k : Int) (lenI ((w1 ++ w2).map Rw.e)))) then (bif (fitM (0 + (len (List.take (tn ((k : Int) - 0)) (List.drop (tn 0) ((w1 ++ w2).map Rw.e))))) 24) then (bif (fitM (Nat.succ ((len (List.take (tn ((k : Int) - 0)) (List.drop (tn 0) ((w1 ++ w2).map Rw.e)))) + (len (List.take (tn ((lenI ((w1 ++ w2).map Rw.e)) - (k : Int))) (List.drop (tn (k : Int)) ((w1 ++ w2).map Rw.e)))))) 24) then
      (L_spec_SortRows_0 (l.map Rw.e) (w64 ((i : Int) + 1)) (List.append (List.take (tn ((k : Int) - 0)) (List.drop (tn 0) ((w1 ++ w2).map Rw.e))) ([(.int (gn (at' (l.map Rw.e) (tn (i : Int))))), (.int (gn (tk 1 (at' (l.map Rw.e) (tn (i : Int)))))), (.int (gn (tk 2 (at' (l.map Rw.e) (tn (i : Int))))))] :: (List.take (tn ((lenI ((w1 ++ w2).map Rw.e)) - (k : Int))) (List.drop (tn (k : Int)) ((w1 ++ w2).map Rw.e)))))) else none) else none) else none) else none) else none) else none) =
    L_spec_SortRows_0 (l.map Rw.e) ((i + 1 : Nat) : Int) ((w1 ++ c :: w2).map Rw.e) := by
  have hc : at' (l.map Rw.e) i = c.e := at_i hl hi
  have hll : i < l.length := by rw [hl, ← hi]; simp
  simp only [List.length_append] at hw
  have e1 : List.take (tn ((k : Int) - 0)) (List.drop (tn 0) ((w1 ++ w2).map Rw.e)) = w1.map Rw.e := by
    show List.take ((k : Int) - 0).toNat (List.drop 0 ((w1 ++ w2).map Rw.e)) = _
    rw [show ((k : Int) - 0).toNat = k by omega, List.drop_zero, List.map_append, ← hk]
    simp
  have e2 : List.take (tn ((lenI ((w1 ++ w2).map Rw.e)) - (k : Int))) (List.drop (tn (k : Int)) ((w1 ++ w2).map Rw.e)) = w2.map Rw.e := by
    rw [lenI_map]
    show List.take (((w1 ++ w2).length : Int) - (k : Int)).toNat (List.drop k ((w1 ++ w2).map Rw.e)) = _
    rw [show (((w1 ++ w2).length : Int) - (k : Int)).toNat = w2.length by simp; omega, List.map_append, ← hk]
    simp [List.take_of_length_le]
  rw [in_i hll, e1, e2, len_map, len_map, show leI (k : Int) (lenI ((w1 ++ w2).map Rw.e)) = true by rw [lenI_map]; exact leT (by simp; omega), leT (show (0 : Int) ≤ (k : Int) by omega), show fitM (1 + w2.length) 24 = true from fitT (by omega), show fitM (0 + w1.length) 24 = true from fitT (by omega), show fitM (Nat.succ (w1.length + w2.length)) 24 = true from fitT (by omega), w64_s (by omega)]
  simp only [cond_true, Bool.and_self, tn_c, hc, gk, gv, gw]
  congr 1
  simp [rw_of]
theorem ss1 (l u v : List Rw) (c : Rw) (i : Nat) (hl : l = u ++ c :: v) (hi : u.length = i) (hi2 : i < 1152921504606846976) : ∀ (n : Nat) (w1 w2 : List Rw) (k : Nat), w1.length = n → k = n → Srt (w1 ++ w2) → (∀ y ∈ w2, Rw.le c y) → (w1 ++ w2).length ≤ 1099511627776 →
    ∃ w, w.Perm ((w1 ++ w2) ++ [c]) ∧ Srt w ∧ L_spec_SortRows_1 (l.map Rw.e) (i : Nat) (k : Nat) ((w1 ++ w2).map Rw.e) = L_spec_SortRows_0 (l.map Rw.e) ((i + 1 : Nat) : Int) (w.map Rw.e) := by
  have hll : i < l.length := by rw [hl, ← hi]; simp
  have hc : nth l i = c := by rw [hl, ← hi, nth_app2 _ _ (Nat.le_refl _)]; simp [nth]
  have pm : ∀ w1 w2 : List Rw, (w1 ++ c :: w2).Perm ((w1 ++ w2) ++ [c]) := fun w1 w2 => List.perm_middle.trans (by simpa using (List.perm_append_comm (l₁ := [c]) (l₂ := w1 ++ w2)))
  intro n
  induction n with
  | zero =>
    intro w1 w2 k hn hk hs hw hlen
    have : w1 = [] := List.length_eq_zero_iff.mp hn
    subst this
    refine ⟨c :: w2, pm [] w2, List.pairwise_cons.mpr ⟨hw, by simpa using hs⟩, ?_⟩
    rw [L_spec_SortRows_1_eq, ltF (by omega), cond_false]
    exact ss_end l u v [] w2 c i k hl hi (by simp; omega) hlen hi2
  | succ n ih =>
    intro w1 w2 k hn hk hs hw hlen
    obtain ⟨w1, d, rfl⟩ := snoc_of (n := n) (l := w1) hn
    have hlen' := hlen
    simp only [List.length_append, List.length_cons, List.length_nil] at hlen' hn
    have i1 : inR ((k - 1 : Nat) : Int) (lenI ((w1 ++ [d] ++ w2).map Rw.e)) = true := in_i (by simp; omega)
    have i2 : inR (i : Int) (lenI (l.map Rw.e)) = true := in_i hll
    have hd : nth (w1 ++ [d] ++ w2) (k - 1) = d := by
      rw [nth_app1 (w1 ++ [d]) w2 (by simp; omega), nth_app2 w1 _ (by omega), show k - 1 - w1.length = 0 by omega]
      simp [nth]
    have a1 : at' ((w1 ++ [d] ++ w2).map Rw.e) (k - 1) = d.e := by rw [at_nth (by simp; omega), hd]
    have a2 : at' (l.map Rw.e) i = c.e := by rw [at_nth hll, hc]
    rw [L_spec_SortRows_1_eq, ltT (by omega), cond_true, w64_pred (by omega) (by omega), i1, cond_true]
    rw [show (bif inR (i : Int) (lenI (l.map Rw.e)) then _ else none : Option (List Dat)) = _ from by rw [i2, cond_true]]
    simp only [tn_c, a1, a2, gk, gv, gw]
    rw [sCompare]
    simp only [gn_c, gb_c, gs_c, gl_c, tk_s, tk_0, List.drop_succ_cons, List.drop_zero, List.headD_cons, List.getD_cons_zero, List.getD_cons_succ, bind_s]
    rw [lt_cmp0']
    by_cases hcd : Rw.lt c d
    · rw [decide_eq_true hcd, cond_true]
      have hs' : Srt (w1 ++ d :: w2) := by simpa using hs
      obtain ⟨w, q1, q2, q3⟩ := ih w1 (d :: w2) (k - 1) (by omega) (by omega) hs' (fun y hy => by
        rcases List.mem_cons.mp hy with rfl | hy
        · exact Rw.lt_le hcd
        · exact hw y hy) (by simp; omega)
      refine ⟨w, by simpa using q1, q2, ?_⟩
      rw [← q3]
      simp
    · rw [decide_eq_false hcd, cond_false]
      refine ⟨(w1 ++ [d]) ++ c :: w2, pm _ _, ?_, ?_⟩
      · obtain ⟨s1, s2, s3⟩ := List.pairwise_append.mp hs
        refine List.pairwise_append.mpr ⟨s1, List.pairwise_cons.mpr ⟨hw, s2⟩, fun x hx y hy => ?_⟩
        rcases List.mem_cons.mp hy with rfl | hy
        · obtain ⟨t1, t2, t3⟩ := List.pairwise_append.mp s1
          rcases List.mem_append.mp hx with hx | hx
          · exact Rw.le_tr (t3 x hx d (by simp)) hcd
          · simp at hx; subst hx; exact hcd
        · exact s3 x hx y hy
      · have := ss_end l u v (w1 ++ [d]) w2 c i k hl hi (by simp; omega) hlen hi2
        simp only [tn_c, a2, gk, gv, gw, i2, cond_true] at this ⊢
        exact this
theorem ss0 (l : List Rw) (hll : l.length ≤ 1099511627770) : ∀ (v u w : List Rw) (i : Nat), l = u ++ v → u.length = i → w.Perm u → Srt w → ∃ y, y.Perm l ∧ Srt y ∧ L_spec_SortRows_0 (l.map Rw.e) (i : Nat) (w.map Rw.e) = some [.sl (y.map Rw.e)]
  | [], u, w, i, hl, hi, hw, hs => by
    rw [List.append_nil] at hl
    refine ⟨w, hl ▸ hw, hs, ?_⟩
    rw [L_spec_SortRows_0_eq, lenI_map, ltF (by rw [hl]; omega), cond_false]
  | c :: v, u, w, i, hl, hi, hw, hs => by
    have hwl := hw.length_eq
    have hlen : l.length = u.length + (v.length + 1) := by rw [hl]; simp
    obtain ⟨w', q1, q2, q3⟩ := ss1 l u v c i hl hi (by omega) w.length w [] w.length rfl rfl (by simpa using hs) (fun y hy => by cases hy) (by simp; omega)
    simp only [List.append_nil] at q1 q3
    obtain ⟨y, y1, y2, y3⟩ := ss0 l hll v (u ++ [c]) w' (i + 1) (by simpa using hl) (by simp; omega) (q1.trans (List.Perm.append_right [c] hw)) q2
    refine ⟨y, y1, y2, ?_⟩
    rw [L_spec_SortRows_0_eq, lenI_map, ltT (by omega), cond_true, lenI_map, q3]
    exact y3
theorem sortRows (x : List Rw) (hx : x.length ≤ 1099511627770) : ∃ y, y.Perm x ∧ Srt y ∧ callI tE f_impl_SortRows [.sl (x.map Rw.e)] = some [.sl (y.map Rw.e)] ∧ callI tE f_spec_SortRows [.sl (x.map Rw.e)] = some [.sl (y.map Rw.e)] := by
  obtain ⟨y, y1, y2, y3⟩ := iSortRows x (by omega)
  obtain ⟨z, z1, z2, z3⟩ := ss0 x hx x [] [] 0 rfl rfl (List.Perm.refl _) List.Pairwise.nil
  have : z = y := srt_unique (z1.trans y1.symm) z2 y2
  subst this
  refine ⟨z, y1, y2, y3, ?_⟩
  rw [c_spec_SortRows]
  exact z3
end Go.Proofs.Ytbmafhpbinjgaaa.Vai
