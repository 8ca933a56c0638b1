/- TopK, InsertTopK of both programs; no condition. -/
import Derived.Test.YtbmafhpbinjgaaaQ8
namespace Go.Proofs.Ytbmafhpbinjgaaa.Vai
open Go
set_option linter.unusedSimpArgs false
set_option linter.unusedVariables false
set_option linter.unnecessarySimpa false
set_option maxRecDepth 10000
theorem maxI (k : Int) : (bif ltI 0 k then k else 0) = ((k.toNat : Nat) : Int) := by
  by_cases h : 0 < k
  · rw [ltT h, cond_true]; omega
  · rw [ltF (by omega), cond_false]; omega
theorem minI (n : Nat) (k : Int) : (bif ltI 0 (bif ltI (n : Int) k then (n : Int) else k) then (bif ltI (n : Int) k then (n : Int) else k) else 0) = ((min n k.toNat : Nat) : Int) := by
  by_cases h : (n : Int) < k
  · rw [ltT h, cond_true, maxI]; omega
  · rw [ltF (show k ≤ (n : Int) by omega), cond_false, maxI]; omega
theorem take_e (l : List Rw) (n : Nat) : List.take (tn ((n : Int) - 0)) (List.drop (tn 0) (l.map Rw.e)) = (l.take n).map Rw.e := by
  show List.take ((n : Int) - 0).toNat (List.drop 0 (l.map Rw.e)) = _
  rw [show ((n : Int) - 0).toNat = n by omega, List.drop_zero, List.map_take]
theorem iTopK (l : List Rw) (k : Int) (hl : l.length ≤ 1099511627770) : callI tE f_impl_TopK [.sl (l.map Rw.e), .int k] = some [.sl ((topK l k).map Rw.e)] := by
  rw [c_impl_TopK, iSort l hl]
  simp only [gn_c, gb_c, gs_c, gl_c, tk_s, tk_0, List.drop_succ_cons, List.drop_zero, List.headD_cons, List.getD_cons_zero, List.getD_cons_succ, bind_s, lenI_map, minI]
  rw [leT (by omega), leT (by rw [isort_len]; omega)]
  simp only [Bool.and_self, cond_true, take_e]
  congr 4
  unfold topK
  by_cases h : k.toNat ≤ l.length
  · rw [Nat.min_eq_right h]
  · rw [Nat.min_eq_left (by omega), ← isort_len l, List.take_length, List.take_of_length_le (by rw [isort_len]; omega)]
theorem sInsTopK (t : List Rw) (c : Rw) (k : Int) (hl : t.length ≤ 1099511627000) : callI tE f_spec_InsertTopK [.sl (t.map Rw.e), .int c.k, .int c.v, .int c.w, .int k] = some [.sl ((topK (t ++ [c]) k).map Rw.e)] := by
  rw [c_spec_InsertTopK, len_map, show fitM (0 + t.length) 24 = true from fitT (by omega), show fitM (Nat.succ t.length) 24 = true from fitT (by omega), cond_true, cond_true, rw_of, app_map, sSort _ (by simp; omega)]
  simp only [gn_c, gb_c, gs_c, gl_c, tk_s, tk_0, List.drop_succ_cons, List.drop_zero, List.headD_cons, List.getD_cons_zero, List.getD_cons_succ, bind_s, lenI_map, maxI]
  unfold topK
  by_cases h : k.toNat < (isort (t ++ [c])).length
  · rw [ltT (by omega), cond_true, leT (by omega), leT (by omega)]
    simp only [Bool.and_self, cond_true, take_e]
  · rw [ltF (by omega), cond_false, List.take_of_length_le (by omega)]
theorem sTopK (l : List Rw) (k : Int) (hl : l.length ≤ 1099511627000) : callI tE f_spec_TopK [.sl (l.map Rw.e), .int k] = some [.sl ((topK l k).map Rw.e)] := by
  rw [c_spec_TopK]
  have := zip_loop (l := l) (L := fun (s : List Rw) i => L_spec_TopK_0 (l.map Rw.e) k i (s.map Rw.e)) (F := fun _ _ => some [.sl ((topK l k).map Rw.e)]) (I := fun s u _ => s = topK u k) (by omega) (fun u a v s e hI => by
    have hul : u.length < l.length := by rw [e]; simp
    refine .inl ⟨topK (u ++ [a]) k, ?_, rfl, rfl⟩
    show L_spec_TopK_0 _ _ _ _ = L_spec_TopK_0 _ _ _ _
    rw [L_spec_TopK_0_eq]
    rw [show ltI (u.length : Int) (lenI (l.map Rw.e)) = true by rw [lenI_map]; exact ltT (by omega), in_i hul, cond_true, cond_true]
    have ha : at' (l.map Rw.e) u.length = a.e := at_i e rfl
    have hs : s.length ≤ u.length := by rw [hI]; unfold topK; rw [List.length_take, isort_len]; omega
    simp only [tn_c, ha, gk, gv, gw]
    rw [sInsTopK s a k (by omega)]
    simp only [gn_c, gb_c, gs_c, gl_c, tk_s, tk_0, List.drop_succ_cons, List.drop_zero, List.headD_cons, List.getD_cons_zero, List.getD_cons_succ, bind_s]
    rw [hI, topK_snoc]) (fun s hs => by
    show L_spec_TopK_0 _ _ _ _ = _
    rw [L_spec_TopK_0_eq, lenI_map, ltF (Int.le_refl _), cond_false, hs]) [] (by simp [topK, isort])
  exact this
end Go.Proofs.Ytbmafhpbinjgaaa.Vai
