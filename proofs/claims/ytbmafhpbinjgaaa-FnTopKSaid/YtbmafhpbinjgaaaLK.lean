/- TopK, InsertTopK: the laws answer true; no condition. -/
import Derived.Test.YtbmafhpbinjgaaaQ9
import Derived.Test.YtbmafhpbinjgaaaP5
import Derived.Test.YtbmafhpbinjgaaaPW
import Derived.Test.YtbmafhpbinjgaaaPI
import Derived.Test.YtbmafhpbinjgaaaPLB
import Derived.Test.YtbmafhpbinjgaaaEqLFnExactTopK
import Derived.Test.YtbmafhpbinjgaaaEqLFnExactInsertTopK
namespace Go.Proofs.Ytbmafhpbinjgaaa.Vai
open Go
set_option linter.unusedSimpArgs false
set_option linter.unusedVariables false
set_option linter.unnecessarySimpa false
set_option maxRecDepth 10000
theorem topK_len (l : List Rw) (k : Int) : (topK l k).length ≤ l.length := by
  unfold topK
  rw [List.length_take, isort_len]
  omega
theorem iInsTopK (t : List Rw) (c : Rw) (k : Int) (hl : t.length ≤ 1073741000) : callI tE f_impl_InsertTopK [.sl (t.map Rw.e), .int c.k, .int c.v, .int c.w, .int k] = some [.sl ((topK (t ++ [c]) k).map Rw.e)] := by
  rw [c_impl_InsertTopK]
  have := iTogether [t, [c]] (by simp [szL]; omega)
  rw [show [[Dat.sl (t.map Rw.e)], [Dat.sl [[Dat.int c.k, .int c.v, .int c.w]]]] = [t, [c]].map rsE from rfl, this]
  simp only [gn_c, gb_c, gs_c, gl_c, tk_s, tk_0, List.drop_succ_cons, List.drop_zero, List.headD_cons, List.getD_cons_zero, List.getD_cons_succ, bind_s]
  rw [iTopK _ _ (by simp; omega)]
  simp only [gn_c, gb_c, gs_c, gl_c, tk_s, tk_0, List.drop_succ_cons, List.drop_zero, List.headD_cons, List.getD_cons_zero, List.getD_cons_succ, bind_s, List.flatten_cons, List.flatten_nil, List.append_nil]
/-- marks of rows, and these held -/
theorem markRs (y : List Rw) (h : y.length ≤ 1073741824) : ∃ (m : Int) (p : List Rw), callI tE f_laws_markRowS [.sl (y.map Rw.e), .int 1] = some [.int m, .sl (p.map Rw.e)] ∧ callI tE f_laws_heldRowS [.sl (p.map Rw.e), .int 1] = some [.int m] ∧ 0 ≤ m ∧ m ≤ 8589934592 := by
  have hc := cnt_Rw y
  exact ⟨_, _, mark_RowS y 1 (by omega) (by omega) (by omega), held_RowS y 1 (by omega) (by omega) (by omega), by omega, by omega⟩
theorem pure_FnExactTopK : ∀ ds, OkDs tE [.sl 65, .int .i64] ds → callI tE f_laws_FnExactTopK ds = some [.bool true] := by
  intro ds h0
  obtain ⟨_, _, rfl, i0, h1⟩ := h0.inv
  obtain ⟨l0, rfl, hl0⟩ := of_sl (te := ⟨[.int .i64, .int .i64, .int .i64], 24, true, [(0, 3), (1, 3), (2, 3)]⟩) rfl (by decide) of_Row i0
  obtain ⟨_, _, rfl, i1, h2⟩ := h1.inv
  obtain ⟨n1, rfl, j1⟩ := i1.i64
  obtain rfl := h2.nil_inv
  rw [c_laws_FnExactTopK, sz_RowS l0 1048576 (by omega) (by omega) hl0]
  simp only [gn_c, gb_c, gs_c, gl_c, tk_s, tk_0, List.drop_succ_cons, List.drop_zero, List.headD_cons, List.getD_cons_zero, List.getD_cons_succ, bind_s]
  by_cases hs : (l0.length : Int) ≤ 1048576
  · rw [szv_ok hs, ltF (by omega), cond_false, to_RowS l0 (by omega)]
    simp only [gn_c, gb_c, gs_c, gl_c, tk_s, tk_0, List.drop_succ_cons, List.drop_zero, List.headD_cons, List.getD_cons_zero, List.getD_cons_succ, bind_s]
    rw [sTopK l0 n1 (by omega), iTopK l0 n1 (by omega)]
    have hz := topK_len l0 n1
    generalize topK l0 n1 = y at *
    obtain ⟨m, p, e1, e2, e3, _⟩ := markRs y (by omega)
    obtain ⟨m', p', e1', e2', e3', _⟩ := markRs l0 (by omega)
    have e4 := eq_RowS y y (by omega)
    have e5 := eq_RowS l0 l0 (by omega)
    simp only [gn_c, gb_c, gs_c, gl_c, tk_s, tk_0, List.drop_succ_cons, List.drop_zero, List.headD_cons, List.getD_cons_zero, List.getD_cons_succ, bind_s, e4, e5, decide_true, eqBo_self, eqI_self, Bool.not_true, cond_false, e1, e1', List.drop_succ_cons, List.drop_zero, e2, ltF e3, ltF e3']
  · rw [szv_no hs]; rfl
theorem pure_FnExactInsertTopK : ∀ ds, OkDs tE [.sl 65, .int .i64, .int .i64, .int .i64, .int .i64] ds → callI tE f_laws_FnExactInsertTopK ds = some [.bool true] := by
  intro ds h0
  obtain ⟨_, _, rfl, i0, h1⟩ := h0.inv
  obtain ⟨l0, rfl, hl0⟩ := of_sl (te := ⟨[.int .i64, .int .i64, .int .i64], 24, true, [(0, 3), (1, 3), (2, 3)]⟩) rfl (by decide) of_Row i0
  obtain ⟨_, _, rfl, i1, h2⟩ := OkDs.split (ls1 := [.int .i64, .int .i64, .int .i64]) (ls2 := [.int .i64]) h1
  obtain ⟨x1, rfl, hx1⟩ := of_Row i1
  obtain ⟨_, _, rfl, i2, h3⟩ := h2.inv
  obtain ⟨n2, rfl, j2⟩ := i2.i64
  obtain rfl := h3.nil_inv
  show callI tE f_laws_FnExactInsertTopK [.sl (l0.map Rw.e), .int x1.k, .int x1.v, .int x1.w, .int n2] = _
  rw [c_laws_FnExactInsertTopK, sz_RowS l0 1048576 (by omega) (by omega) hl0]
  simp only [gn_c, gb_c, gs_c, gl_c, tk_s, tk_0, List.drop_succ_cons, List.drop_zero, List.headD_cons, List.getD_cons_zero, List.getD_cons_succ, bind_s]
  by_cases hs : (l0.length : Int) ≤ 1048576
  · rw [szv_ok hs, ltF (by omega), cond_false, to_RowS l0 (by omega)]
    simp only [gn_c, gb_c, gs_c, gl_c, tk_s, tk_0, List.drop_succ_cons, List.drop_zero, List.headD_cons, List.getD_cons_zero, List.getD_cons_succ, bind_s]
    have e0 : callI tE f_laws_toRow [.int x1.k, .int x1.v, .int x1.w] = some [.int x1.k, .int x1.v, .int x1.w] := c_laws_toRow _ _ _
    simp only [e0, gn_c, gb_c, gs_c, gl_c, tk_s, tk_0, List.drop_succ_cons, List.drop_zero, List.headD_cons, List.getD_cons_zero, List.getD_cons_succ, bind_s]
    rw [sInsTopK l0 x1 n2 (by omega), iInsTopK l0 x1 n2 (by omega)]
    have hz := topK_len (l0 ++ [x1]) n2
    simp only [List.length_append, List.length_cons, List.length_nil] at hz
    generalize topK (l0 ++ [x1]) n2 = y at *
    obtain ⟨m, p, e1, e2, e3, _⟩ := markRs y (by omega)
    obtain ⟨m', p', e1', e2', e3', _⟩ := markRs l0 (by omega)
    have e4 := eq_RowS y y (by omega)
    have e5 := eq_RowS l0 l0 (by omega)
    simp only [gn_c, gb_c, gs_c, gl_c, tk_s, tk_0, List.drop_succ_cons, List.drop_zero, List.headD_cons, List.getD_cons_zero, List.getD_cons_succ, bind_s, e4, e5, decide_true, eqBo_self, eqI_self, Bool.not_true, cond_false, e1, e1', List.drop_succ_cons, List.drop_zero, e2, ltF e3, ltF e3', Bool.and_self, Bool.and_true]
  · rw [szv_no hs]; rfl
end Go.Proofs.Ytbmafhpbinjgaaa.Vai
