/- NewExchange, SendRow, ReceiveRow: the laws answer true; no condition. -/
import Derived.Test.YtbmafhpbinjgaaaP6
import Derived.Test.YtbmafhpbinjgaaaPW
import Derived.Test.YtbmafhpbinjgaaaPI
import Derived.Test.YtbmafhpbinjgaaaPLB
import Derived.Test.YtbmafhpbinjgaaaEqLFnExactNewExchange
import Derived.Test.YtbmafhpbinjgaaaEqLFnExactSendRow
import Derived.Test.YtbmafhpbinjgaaaEqLFnExactReceiveRow
namespace Go.Proofs.Ytbmafhpbinjgaaa.Vai
open Go
set_option linter.unusedSimpArgs false
set_option linter.unusedVariables false
set_option linter.unnecessarySimpa false
set_option maxRecDepth 10000
theorem szL_rep (n : Nat) : szL List.length (List.replicate n ([] : List Rw)) = n := by
  induction n with
  | zero => rfl
  | succ n ih => simp only [List.replicate_succ, szL, ih, List.length_nil]; omega
theorem NX_sz (p : List (List Rw)) (r c : Int) : (NX p r c).1.sz ≤ szL List.length p + 6 := by
  unfold NX
  split
  · rename_i h
    have := win_iff.mp h.2.1
    simp only [Xc.sz, szL_rep]; omega
  · simp [Xc.sz, szL]
/-- marks of an exchange, and these held -/
theorem markX (y : Xc) (h : y.sz ≤ 1073741824) : ∃ (m : Int) (p q g : List (List Rw)), callI tE f_laws_markExchange [.sl (y.pend.map rsE), .sl (y.que.map rsE), .sl (y.got.map rsE), .int y.cap, .int 1] = some [.int m, .sl (p.map rsE), .sl (q.map rsE), .sl (g.map rsE)] ∧
    callI tE f_laws_heldExchange [.sl (p.map rsE), .sl (q.map rsE), .sl (g.map rsE), .int y.cap, .int 1] = some [.int m] ∧ 0 ≤ m ∧ m ≤ 8589934592 := by
  have hc := y.cnt_le
  exact ⟨_, _, _, _, mark_Exchange y 1 (by omega) (by omega) (by omega), held_Exchange y 1 (by omega) (by omega) (by omega), by omega, by omega⟩
theorem pure_FnExactNewExchange : ∀ ds, OkDs tE [.sl 58, .int .i64, .int .i64] ds → callI tE f_laws_FnExactNewExchange ds = some [.bool true] := by
  intro ds h0
  obtain ⟨_, _, rfl, i0, h1⟩ := h0.inv
  obtain ⟨l0, rfl, hl0⟩ := of_sl (te := ⟨[.sl 65], 24, false, []⟩) rfl (by decide) of_RowS i0
  obtain ⟨_, _, rfl, i1, h2⟩ := h1.inv
  obtain ⟨n1, rfl, j1⟩ := i1.i64
  obtain ⟨_, _, rfl, i2, h3⟩ := h2.inv
  obtain ⟨n2, rfl, j2⟩ := i2.i64
  obtain rfl := h3.nil_inv
  rw [c_laws_FnExactNewExchange, sz_RowSS l0 1048576 (by omega) (by omega) hl0]
  simp only [gn_c, gb_c, gs_c, gl_c, tk_s, tk_0, List.drop_succ_cons, List.drop_zero, List.headD_cons, List.getD_cons_zero, List.getD_cons_succ, bind_s]
  by_cases hs : (szL List.length l0 : Int) ≤ 1048576
  · rw [szv_ok hs, ltF (by omega), cond_false, to_RowSS l0 (by omega)]
    simp only [gn_c, gb_c, gs_c, gl_c, tk_s, tk_0, List.drop_succ_cons, List.drop_zero, List.headD_cons, List.getD_cons_zero, List.getD_cons_succ, bind_s]
    rw [sNewX l0 n1 n2 (by omega), iNewX l0 n1 n2 (by omega)]
    have hz := NX_sz l0 n1 n2
    generalize NX l0 n1 n2 = y at *
    obtain ⟨y, b⟩ := y
    simp only at hz
    obtain ⟨m, p, q, g, e1, e2, e3, _⟩ := markX y (by omega)
    have e4 := eq_Exchange y y (by omega)
    have e5 := eq_RowSS l0 l0 (by omega)
    have hc := cnt_RwS l0
    have e6 := mark_RowSS l0 1 (by omega) (by omega) (by omega)
    simp only [XB_eq, gn_c, gb_c, gs_c, gl_c, tk_s, tk_0, List.drop_succ_cons, List.drop_zero, List.headD_cons, List.getD_cons_zero, List.getD_cons_succ, bind_s, e4, e5, e6, decide_true, eqBo_self, eqI_self, Bool.not_true, cond_false, e1, List.drop_succ_cons, List.drop_zero, e2, ltF e3]
    rw [ltF (by omega)]
    rfl
  · rw [szv_no hs]; rfl
theorem pure_FnExactSendRow : ∀ ds, OkDs tE [.sl 58, .sl 58, .sl 58, .int .i64, .int .i64] ds → callI tE f_laws_FnExactSendRow ds = some [.bool true] := by
  intro ds h0
  obtain ⟨_, _, rfl, i0, h1⟩ := OkDs.split (ls1 := [.sl 58, .sl 58, .sl 58, .int .i64]) (ls2 := [.int .i64]) h0
  obtain ⟨x0, rfl, hx0⟩ := of_Exchange i0
  obtain ⟨_, _, rfl, i1, h2⟩ := h1.inv
  obtain ⟨n1, rfl, j1⟩ := i1.i64
  obtain rfl := h2.nil_inv
  show callI tE f_laws_FnExactSendRow [.sl (x0.pend.map rsE), .sl (x0.que.map rsE), .sl (x0.got.map rsE), .int x0.cap, .int n1] = _
  rw [c_laws_FnExactSendRow, sz_Exchange x0 1048576 (by omega) (by omega) hx0]
  simp only [gn_c, gb_c, gs_c, gl_c, tk_s, tk_0, List.drop_succ_cons, List.drop_zero, List.headD_cons, List.getD_cons_zero, List.getD_cons_succ, bind_s]
  by_cases hs : (x0.sz : Int) ≤ 1048576
  · have hb2 : x0.B2 := by simp only [Xc.B2]; omega
    rw [szv_ok hs, ltF (by omega), cond_false, to_Exchange x0 (by omega)]
    simp only [gn_c, gb_c, gs_c, gl_c, tk_s, tk_0, List.drop_succ_cons, List.drop_zero, List.headD_cons, List.getD_cons_zero, List.getD_cons_succ, bind_s]
    rw [sSend x0 n1 hb2, iSend x0 n1 hb2]
    have hz := sendX_sz x0 n1
    generalize sendX x0 n1 = y at *
    obtain ⟨y, b⟩ := y
    simp only at hz
    obtain ⟨m, p, q, g, e1, e2, e3, _⟩ := markX y (by omega)
    obtain ⟨m', p', q', g', e1', e2', e3', _⟩ := markX x0 (by omega)
    have e4 := eq_Exchange y y (by omega)
    have e5 := eq_Exchange x0 x0 (by omega)
    simp only [XB_eq, gn_c, gb_c, gs_c, gl_c, tk_s, tk_0, List.drop_succ_cons, List.drop_zero, List.headD_cons, List.getD_cons_zero, List.getD_cons_succ, bind_s, e4, e5, decide_true, eqBo_self, eqI_self, Bool.not_true, cond_false, e1, e1', List.drop_succ_cons, List.drop_zero, e2, ltF e3, ltF e3']
  · rw [szv_no hs]; rfl
theorem pure_FnExactReceiveRow : ∀ ds, OkDs tE [.sl 58, .sl 58, .sl 58, .int .i64, .int .i64] ds → callI tE f_laws_FnExactReceiveRow ds = some [.bool true] := by
  intro ds h0
  obtain ⟨_, _, rfl, i0, h1⟩ := OkDs.split (ls1 := [.sl 58, .sl 58, .sl 58, .int .i64]) (ls2 := [.int .i64]) h0
  obtain ⟨x0, rfl, hx0⟩ := of_Exchange i0
  obtain ⟨_, _, rfl, i1, h2⟩ := h1.inv
  obtain ⟨n1, rfl, j1⟩ := i1.i64
  obtain rfl := h2.nil_inv
  show callI tE f_laws_FnExactReceiveRow [.sl (x0.pend.map rsE), .sl (x0.que.map rsE), .sl (x0.got.map rsE), .int x0.cap, .int n1] = _
  rw [c_laws_FnExactReceiveRow, sz_Exchange x0 1048576 (by omega) (by omega) hx0]
  simp only [gn_c, gb_c, gs_c, gl_c, tk_s, tk_0, List.drop_succ_cons, List.drop_zero, List.headD_cons, List.getD_cons_zero, List.getD_cons_succ, bind_s]
  by_cases hs : (x0.sz : Int) ≤ 1048576
  · have hb2 : x0.B2 := by simp only [Xc.B2]; omega
    rw [szv_ok hs, ltF (by omega), cond_false, to_Exchange x0 (by omega)]
    simp only [gn_c, gb_c, gs_c, gl_c, tk_s, tk_0, List.drop_succ_cons, List.drop_zero, List.headD_cons, List.getD_cons_zero, List.getD_cons_succ, bind_s]
    rw [sRecv x0 n1 hb2, iRecv x0 n1 hb2]
    have hz := recvX_sz x0 n1
    generalize recvX x0 n1 = y at *
    obtain ⟨y, b⟩ := y
    simp only at hz
    obtain ⟨m, p, q, g, e1, e2, e3, _⟩ := markX y (by omega)
    obtain ⟨m', p', q', g', e1', e2', e3', _⟩ := markX x0 (by omega)
    have e4 := eq_Exchange y y (by omega)
    have e5 := eq_Exchange x0 x0 (by omega)
    simp only [XB_eq, gn_c, gb_c, gs_c, gl_c, tk_s, tk_0, List.drop_succ_cons, List.drop_zero, List.headD_cons, List.getD_cons_zero, List.getD_cons_succ, bind_s, e4, e5, decide_true, eqBo_self, eqI_self, Bool.not_true, cond_false, e1, e1', List.drop_succ_cons, List.drop_zero, e2, ltF e3, ltF e3']
  · rw [szv_no hs]; rfl
end Go.Proofs.Ytbmafhpbinjgaaa.Vai
