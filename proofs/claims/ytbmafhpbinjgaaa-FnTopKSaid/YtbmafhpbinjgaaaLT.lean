/- FnTopK: the law answers true; no condition. -/
import Derived.Test.YtbmafhpbinjgaaaD1
import Derived.Test.YtbmafhpbinjgaaaLK
import Derived.Test.YtbmafhpbinjgaaaEqLFnTopK
namespace Go.Proofs.Ytbmafhpbinjgaaa.Vai
open Go
set_option linter.unusedSimpArgs false
set_option linter.unusedVariables false
set_option linter.unnecessarySimpa false
set_option maxRecDepth 10000
theorem dDrawTopK (x : Rows) (hx : x.length ≤ 1048576) : ∃ (l : List Rw) (k : Int), callI tE f_spec_DrawTopK [.sl x] = some [.sl (l.map Rw.e), .int k] ∧ l.length ≤ 11 := by
  obtain ⟨h0, e0, c0⟩ := dNew x hx
  obtain ⟨l, i1, h1, e1, c1, _, q1⟩ := dBent (h := h0) 10 c0 (by omega) (by omega)
  obtain ⟨r, i2, h2, e2, c2, _⟩ := dBelow (h := h1) 6 c1
  rw [c_spec_DrawTopK]
  simp only [e0, e1, e2, gn_c, gb_c, gs_c, gl_c, tk_s, tk_0, List.drop_succ_cons, List.drop_zero, List.headD_cons, List.getD_cons_zero, List.getD_cons_succ, bind_s]
  exact ⟨l, _, rfl, by omega⟩
theorem dDrawInsTopK (x : Rows) (hx : x.length ≤ 1048576) : ∃ (l : List Rw) (r : Rw) (k : Int), callI tE f_spec_DrawInsertTopK [.sl x] = some [.sl (l.map Rw.e), .int r.k, .int r.v, .int r.w, .int k] ∧ l.length ≤ 11 := by
  obtain ⟨h0, e0, c0⟩ := dNew x hx
  obtain ⟨l, i1, h1, e1, c1, _, q1⟩ := dBent (h := h0) 5 c0 (by omega) (by omega)
  obtain ⟨r, i2, h2, e2, c2, _⟩ := dRow (h := h1) 3 c1 (by omega) (by omega)
  obtain ⟨k, i3, h3, e3, c3, _⟩ := dBelow (h := h2) 6 c2
  rw [c_spec_DrawInsertTopK]
  simp only [e0, e1, e2, e3, gn_c, gb_c, gs_c, gl_c, tk_s, tk_0, List.drop_succ_cons, List.drop_zero, List.headD_cons, List.getD_cons_zero, List.getD_cons_succ, bind_s]
  exact ⟨l, r, _, rfl, by omega⟩
theorem topK_length (l : List Rw) (k : Int) : (topK l k).length = min k.toNat l.length := by
  unfold topK
  rw [List.length_take, isort_len]
theorem topK_take (l : List Rw) (k : Int) : (isort l).take (topK l k).length = topK l k := by
  rw [topK_length]
  unfold topK
  by_cases h : k.toNat ≤ l.length
  · rw [Nat.min_eq_left h]
  · rw [Nat.min_eq_right (by omega), ← isort_len l, List.take_length, List.take_of_length_le (by rw [isort_len]; omega)]
theorem minE (a b : Nat) : (bif ltI (a : Int) (b : Int) then (a : Int) else (b : Int)) = ((min a b : Nat) : Int) := by
  by_cases h : a < b
  · rw [ltT (by omega), cond_true, Nat.min_eq_left (by omega)]
  · rw [ltF (by omega), cond_false, Nat.min_eq_right (by omega)]
theorem pure_FnTopK : ∀ ds, OkDs tE [.sl 5] ds → callI tE f_laws_FnTopK ds = some [.bool true] := by
  intro ds h0
  obtain ⟨_, _, rfl, i0, h1⟩ := h0.inv
  obtain ⟨l0, rfl⟩ := of_rows i0
  obtain rfl := h1.nil_inv
  rw [c_laws_FnTopK, c_laws_big]
  simp only [gn_c, gb_c, gs_c, gl_c, tk_s, tk_0, List.drop_succ_cons, List.drop_zero, List.headD_cons, List.getD_cons_zero, List.getD_cons_succ, bind_s]
  by_cases hs : l0.length ≤ 1048576
  · rw [ltF (show lenI l0 ≤ 1048576 by show (l0.length : Int) ≤ 1048576; omega), cond_false]
    obtain ⟨l, k, e1, q1⟩ := dDrawTopK l0 hs
    obtain ⟨t, r, k2, e2, q2⟩ := dDrawInsTopK l0 hs
    have e3 := iTopK l k (by omega)
    have e4 := sTopK l k (by omega)
    have e5 := iInsTopK t r k2 (by omega)
    have e6 := sInsTopK t r k2 (by omega)
    have e7 := sSort l (by omega)
    have z1 := topK_length l k
    have z2 := topK_length (t ++ [r]) k2
    have e8 := sameRows_ok (topK l k) (topK l k) (by omega)
    have e9 := sameRows_ok (topK (t ++ [r]) k2) (topK (t ++ [r]) k2) (by rw [z2]; simp; omega)
    simp only [e1, e2, e3, e4, e5, e6, e7, e8, e9, gn_c, gb_c, gs_c, gl_c, tk_s, tk_0, List.drop_succ_cons, List.drop_zero, List.headD_cons, List.getD_cons_zero, List.getD_cons_succ, bind_s, decide_true, Bool.not_true, cond_false, maxI, lenI_map, List.length_map, minE]
    rw [ltF (by rw [z2]; simp; omega), cond_false, z1, eqI_self, cond_true, leT (by omega), leT (by rw [isort_len]; omega), Bool.and_self, cond_true, take_e, ← z1, topK_take]
    simp only [e8, gn_c, gb_c, gs_c, gl_c, tk_s, tk_0, List.drop_succ_cons, List.drop_zero, List.headD_cons, List.getD_cons_zero, List.getD_cons_succ, bind_s, decide_true]
  · rw [ltT (show 1048576 < lenI l0 by show (1048576 : Int) < (l0.length : Int); omega)]
    rfl
end Go.Proofs.Ytbmafhpbinjgaaa.Vai
