/- IsOpDone, WrittenCost, NewSortOp, NewGroupOp, NewJoinOp: the laws answer true; no condition. -/
import Derived.Test.YtbmafhpbinjgaaaP8
import Derived.Test.YtbmafhpbinjgaaaPI
import Derived.Test.YtbmafhpbinjgaaaPLD
import Derived.Test.YtbmafhpbinjgaaaPW
import Derived.Test.YtbmafhpbinjgaaaEqLFnExactIsOpDone
import Derived.Test.YtbmafhpbinjgaaaEqLFnExactWrittenCost
import Derived.Test.YtbmafhpbinjgaaaEqLFnExactNewSortOp
import Derived.Test.YtbmafhpbinjgaaaEqLFnExactNewGroupOp
import Derived.Test.YtbmafhpbinjgaaaEqLFnExactNewJoinOp
namespace Go.Proofs.Ytbmafhpbinjgaaa.Vai
open Go
set_option linter.unusedSimpArgs false
set_option linter.unusedVariables false
set_option linter.unnecessarySimpa false
set_option maxRecDepth 10000
/-- marks of an operator, and these held -/
theorem markO (y : Opr) (h : y.sz ≤ 1073741824) : ∃ (m : Int) (a b c d e f g : Rows), callI tE f_laws_markOp [.int y.kind, .sl (y.so.inp.map Rw.e), .int y.so.pos, .sl (y.so.heap.map Rw.e), .sl (y.so.dfd.map Rw.e), .sl (y.so.out.map Rw.e), .sl (y.so.runs.map rsE), .int y.so.lp, .int y.so.rp, .int y.so.ph, .int y.so.wr, .sl (y.jn.pend.map Tk.e), .int y.jn.wr, .int y.jn.parts, .sl (y.ag.pend.map Gt.e), .int y.ag.wr, .bool y.ag.early, .int 1] = some [.int m, .sl a, .sl b, .sl c, .sl d, .sl e, .sl f, .sl g] ∧
    callI tE f_laws_heldOp [.int y.kind, .sl a, .int y.so.pos, .sl b, .sl c, .sl d, .sl e, .int y.so.lp, .int y.so.rp, .int y.so.ph, .int y.so.wr, .sl f, .int y.jn.wr, .int y.jn.parts, .sl g, .int y.ag.wr, .bool y.ag.early, .int 1] = some [.int m] ∧ 0 ≤ m := by
  have hc := y.cnt_le
  exact ⟨_, _, _, _, _, _, _, _, mark_Op y 1 (by omega) (by omega) (by omega), held_Op y 1 (by omega) (by omega) (by omega), by omega⟩
theorem OpB_eq (x : Opr) (b : Bool) : OpB (x, b) = [.int x.kind, .sl (x.so.inp.map Rw.e), .int x.so.pos, .sl (x.so.heap.map Rw.e), .sl (x.so.dfd.map Rw.e), .sl (x.so.out.map Rw.e), .sl (x.so.runs.map rsE), .int x.so.lp, .int x.so.rp, .int x.so.ph, .int x.so.wr, .sl (x.jn.pend.map Tk.e), .int x.jn.wr, .int x.jn.parts, .sl (x.ag.pend.map Gt.e), .int x.ag.wr, .bool x.ag.early, .bool b] := rfl
theorem pure_FnExactIsOpDone : ∀ ds, OkDs tE [.int .i64, .sl 65, .int .i64, .sl 65, .sl 65, .sl 65, .sl 314, .int .i64, .int .i64, .int .i64, .int .i64, .sl 317, .int .i64, .int .i64, .sl 320, .int .i64, .bool] ds → callI tE f_laws_FnExactIsOpDone ds = some [.bool true] := by
  intro ds h0
  obtain ⟨_, _, rfl, i0, h1⟩ := OkDs.split (ls1 := [.int .i64, .sl 65, .int .i64, .sl 65, .sl 65, .sl 65, .sl 314, .int .i64, .int .i64, .int .i64, .int .i64, .sl 317, .int .i64, .int .i64, .sl 320, .int .i64, .bool]) (ls2 := []) h0
  obtain ⟨x0, rfl, hx0⟩ := of_Op i0
  obtain rfl := h1.nil_inv
  simp only [Opr.e, List.cons_append, List.nil_append]
  rw [c_laws_FnExactIsOpDone, sz_Op x0 1048576 (by omega) (by omega) hx0]
  simp only [gn_c, gb_c, gs_c, gl_c, tk_s, tk_0, List.drop_succ_cons, List.drop_zero, List.headD_cons, List.getD_cons_zero, List.getD_cons_succ, bind_s]
  by_cases hs : (x0.sz : Int) ≤ 1048576
  · have e1 := iIsOpDone x0
    have e2 := sIsOpDone x0
    simp only [Opr.e] at e1 e2
    rw [szv_ok hs, ltF (by omega), cond_false, to_Op x0 (by omega)]
    simp only [gn_c, gb_c, gs_c, gl_c, tk_s, tk_0, List.drop_succ_cons, List.drop_zero, List.headD_cons, List.getD_cons_zero, List.getD_cons_succ, bind_s, e1, e2, eq_Op x0 x0 (by omega), decide_true, eqBo_self, Bool.not_true, cond_false]
  · rw [szv_no hs]; rfl
theorem pure_FnExactWrittenCost : ∀ ds, OkDs tE [.int .i64, .sl 65, .int .i64, .sl 65, .sl 65, .sl 65, .sl 314, .int .i64, .int .i64, .int .i64, .int .i64, .sl 317, .int .i64, .int .i64, .sl 320, .int .i64, .bool] ds → callI tE f_laws_FnExactWrittenCost ds = some [.bool true] := by
  intro ds h0
  obtain ⟨_, _, rfl, i0, h1⟩ := OkDs.split (ls1 := [.int .i64, .sl 65, .int .i64, .sl 65, .sl 65, .sl 65, .sl 314, .int .i64, .int .i64, .int .i64, .int .i64, .sl 317, .int .i64, .int .i64, .sl 320, .int .i64, .bool]) (ls2 := []) h0
  obtain ⟨x0, rfl, hx0⟩ := of_Op i0
  obtain rfl := h1.nil_inv
  simp only [Opr.e, List.cons_append, List.nil_append]
  rw [c_laws_FnExactWrittenCost, sz_Op x0 1048576 (by omega) (by omega) hx0]
  simp only [gn_c, gb_c, gs_c, gl_c, tk_s, tk_0, List.drop_succ_cons, List.drop_zero, List.headD_cons, List.getD_cons_zero, List.getD_cons_succ, bind_s]
  by_cases hs : (x0.sz : Int) ≤ 1048576
  · have e1 := iWritten x0
    have e2 := sWritten x0
    simp only [Opr.e] at e1 e2
    rw [szv_ok hs, ltF (by omega), cond_false, to_Op x0 (by omega)]
    simp only [gn_c, gb_c, gs_c, gl_c, tk_s, tk_0, List.drop_succ_cons, List.drop_zero, List.headD_cons, List.getD_cons_zero, List.getD_cons_succ, bind_s, e1, e2, eq_Op x0 x0 (by omega), decide_true, eqI_self, Bool.not_true, cond_false]
  · rw [szv_no hs]; rfl
theorem pure_FnExactNewSortOp : ∀ ds, OkDs tE [.sl 65] ds → callI tE f_laws_FnExactNewSortOp ds = some [.bool true] := by
  intro ds h0
  obtain ⟨_, _, rfl, i0, h1⟩ := h0.inv
  obtain ⟨l0, rfl, hl0⟩ := of_sl (te := ⟨[.int .i64, .int .i64, .int .i64], 24, true, [(0, 3), (1, 3), (2, 3)]⟩) rfl (by decide) of_Row i0
  obtain rfl := h1.nil_inv
  rw [c_laws_FnExactNewSortOp, sz_RowS l0 1048576 (by omega) (by omega) hl0]
  simp only [gn_c, gb_c, gs_c, gl_c, tk_s, tk_0, List.drop_succ_cons, List.drop_zero, List.headD_cons, List.getD_cons_zero, List.getD_cons_succ, bind_s]
  by_cases hs : (l0.length : Int) ≤ 1048576
  · rw [szv_ok hs, ltF (by omega), cond_false, to_RowS l0 (by omega)]
    simp only [gn_c, gb_c, gs_c, gl_c, tk_s, tk_0, List.drop_succ_cons, List.drop_zero, List.headD_cons, List.getD_cons_zero, List.getD_cons_succ, bind_s]
    rw [sNewSoOp l0 (by omega), iNewSoOp l0]
    have hz := newSoOp_sz l0
    generalize newSoOp l0 = y at *
    obtain ⟨y, b⟩ := y
    simp only at hz
    obtain ⟨m, s1, s2, s3, s4, s5, s6, s7, e1, e2, e3⟩ := markO y (by omega)
    have e4 := eq_Op y y (by omega)
    have e5 := eq_RowS l0 l0 (by omega)
    have e6 := mark_RowS l0 1 (by omega) (by rw [cnt_Rw]; omega) (by omega)
    simp only [OpB_eq, gn_c, gb_c, gs_c, gl_c, tk_s, tk_0, List.drop_succ_cons, List.drop_zero, List.headD_cons, List.getD_cons_zero, List.getD_cons_succ, bind_s, e4, e5, e6, decide_true, eqBo_self, eqI_self, Bool.not_true, cond_false, e1, List.drop_succ_cons, List.drop_zero, e2, ltF e3, cnt_Rw]
    rw [ltF (by omega)]
    rfl
  · rw [szv_no hs]; rfl
theorem pure_FnExactNewGroupOp : ∀ ds, OkDs tE [.sl 65, .bool] ds → callI tE f_laws_FnExactNewGroupOp ds = some [.bool true] := by
  intro ds h0
  obtain ⟨_, _, rfl, i0, h1⟩ := h0.inv
  obtain ⟨l0, rfl, hl0⟩ := of_sl (te := ⟨[.int .i64, .int .i64, .int .i64], 24, true, [(0, 3), (1, 3), (2, 3)]⟩) rfl (by decide) of_Row i0
  obtain ⟨_, _, rfl, i1, h2⟩ := h1.inv
  obtain ⟨b1, rfl⟩ := i1.bool'
  obtain rfl := h2.nil_inv
  rw [c_laws_FnExactNewGroupOp, sz_RowS l0 1048576 (by omega) (by omega) hl0]
  simp only [gn_c, gb_c, gs_c, gl_c, tk_s, tk_0, List.drop_succ_cons, List.drop_zero, List.headD_cons, List.getD_cons_zero, List.getD_cons_succ, bind_s]
  by_cases hs : (l0.length : Int) ≤ 1048576
  · rw [szv_ok hs, ltF (by omega), cond_false, to_RowS l0 (by omega)]
    simp only [gn_c, gb_c, gs_c, gl_c, tk_s, tk_0, List.drop_succ_cons, List.drop_zero, List.headD_cons, List.getD_cons_zero, List.getD_cons_succ, bind_s]
    rw [sNewAgOp l0 b1 (by omega), iNewAgOp l0 b1]
    have hz := newAgOp_sz l0 b1
    generalize newAgOp l0 b1 = y at *
    obtain ⟨y, b⟩ := y
    simp only at hz
    obtain ⟨m, s1, s2, s3, s4, s5, s6, s7, e1, e2, e3⟩ := markO y (by omega)
    have e4 := eq_Op y y (by omega)
    have e5 := eq_RowS l0 l0 (by omega)
    have e6 := mark_RowS l0 1 (by omega) (by rw [cnt_Rw]; omega) (by omega)
    simp only [OpB_eq, gn_c, gb_c, gs_c, gl_c, tk_s, tk_0, List.drop_succ_cons, List.drop_zero, List.headD_cons, List.getD_cons_zero, List.getD_cons_succ, bind_s, e4, e5, e6, decide_true, eqBo_self, eqI_self, Bool.not_true, cond_false, e1, List.drop_succ_cons, List.drop_zero, e2, ltF e3, cnt_Rw]
    rw [ltF (by omega)]
    rfl
  · rw [szv_no hs]; rfl
theorem pure_FnExactNewJoinOp : ∀ ds, OkDs tE [.int .i64, .sl 65, .sl 65] ds → callI tE f_laws_FnExactNewJoinOp ds = some [.bool true] := by
  intro ds h0
  obtain ⟨_, _, rfl, i0, h1⟩ := h0.inv
  obtain ⟨n0, rfl, j0⟩ := i0.i64
  obtain ⟨_, _, rfl, i1, h2⟩ := h1.inv
  obtain ⟨l1, rfl, hl1⟩ := of_sl (te := ⟨[.int .i64, .int .i64, .int .i64], 24, true, [(0, 3), (1, 3), (2, 3)]⟩) rfl (by decide) of_Row i1
  obtain ⟨_, _, rfl, i2, h3⟩ := h2.inv
  obtain ⟨l2, rfl, hl2⟩ := of_sl (te := ⟨[.int .i64, .int .i64, .int .i64], 24, true, [(0, 3), (1, 3), (2, 3)]⟩) rfl (by decide) of_Row i2
  obtain rfl := h3.nil_inv
  rw [c_laws_FnExactNewJoinOp, sz_RowS l1 1048576 (by omega) (by omega) hl1]
  simp only [gn_c, gb_c, gs_c, gl_c, tk_s, tk_0, List.drop_succ_cons, List.drop_zero, List.headD_cons, List.getD_cons_zero, List.getD_cons_succ, bind_s]
  by_cases hs : (l1.length : Int) ≤ 1048576
  · rw [szv_ok hs, ltF (by omega), cond_false, sz_RowS l2 _ (by omega) (by omega) hl2]
    simp only [gn_c, gb_c, gs_c, gl_c, tk_s, tk_0, List.drop_succ_cons, List.drop_zero, List.headD_cons, List.getD_cons_zero, List.getD_cons_succ, bind_s]
    by_cases hs2 : (l2.length : Int) ≤ 1048576 - l1.length
    · rw [szv_ok hs2, ltF (by omega), cond_false, to_RowS l1 (by omega), to_RowS l2 (by omega)]
      simp only [gn_c, gb_c, gs_c, gl_c, tk_s, tk_0, List.drop_succ_cons, List.drop_zero, List.headD_cons, List.getD_cons_zero, List.getD_cons_succ, bind_s]
      rw [sNewJnOp n0 l1 l2 (by omega) (by omega), iNewJnOp n0 l1 l2]
      have hz := newJnOp_sz n0 l1 l2
      generalize newJnOp n0 l1 l2 = y at *
      obtain ⟨y, b⟩ := y
      simp only at hz
      obtain ⟨m, s1, s2, s3, s4, s5, s6, s7, e1, e2, e3⟩ := markO y (by omega)
      have e4 := eq_Op y y (by omega)
      have e5 := eq_RowS l1 l1 (by omega)
      have e5' := eq_RowS l2 l2 (by omega)
      have e6 := mark_RowS l1 1 (by omega) (by rw [cnt_Rw]; omega) (by omega)
      rw [cnt_Rw] at e6
      have e7 := mark_RowS l2 (1 + (3 * l1.length : Nat)) (by omega) (by rw [cnt_Rw]; omega) (by omega)
      simp only [OpB_eq, gn_c, gb_c, gs_c, gl_c, tk_s, tk_0, List.drop_succ_cons, List.drop_zero, List.headD_cons, List.getD_cons_zero, List.getD_cons_succ, bind_s, e4, e5, e5', e6, e7, decide_true, eqBo_self, eqI_self, Bool.not_true, cond_false, e1, List.drop_succ_cons, List.drop_zero, e2, ltF e3, cnt_Rw]
      rw [ltF (by omega)]
      rfl
    · rw [szv_no hs2]; rfl
  · rw [szv_no hs]; rfl
end Go.Proofs.Ytbmafhpbinjgaaa.Vai
