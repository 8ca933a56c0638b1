/- RunExchange: the law answers true; no condition. -/
import Derived.Test.YtbmafhpbinjgaaaP11
import Derived.Test.YtbmafhpbinjgaaaPI
import Derived.Test.YtbmafhpbinjgaaaPLB
import Derived.Test.YtbmafhpbinjgaaaLX
import Derived.Test.YtbmafhpbinjgaaaEqLFnExactRunExchange
namespace Go.Proofs.Ytbmafhpbinjgaaa.Vai
open Go
set_option linter.unusedSimpArgs false
set_option linter.unusedVariables false
set_option linter.unnecessarySimpa false
set_option maxRecDepth 10000
theorem cnt_int : ∀ l : List Int, cntL c1 l = l.length := cnt_c1
theorem pure_FnExactRunExchange : ∀ ds, OkDs tE [.sl 58, .sl 58, .sl 58, .int .i64, .sl 3] ds → callI tE f_laws_FnExactRunExchange ds = some [.bool true] := by
  intro ds h0
  obtain ⟨_, _, rfl, i0, h1⟩ := OkDs.split (ls1 := [.sl 58, .sl 58, .sl 58, .int .i64]) (ls2 := [.sl 3]) h0
  obtain ⟨x0, rfl, hx0⟩ := of_Exchange i0
  obtain ⟨_, _, rfl, i1, h2⟩ := h1.inv
  obtain ⟨l1, rfl, hl1⟩ := of_sl (te := ⟨[.int .i64], 8, false, []⟩) rfl (by decide) of_int i1
  obtain rfl := h2.nil_inv
  show callI tE f_laws_FnExactRunExchange [.sl (x0.pend.map rsE), .sl (x0.que.map rsE), .sl (x0.got.map rsE), .int x0.cap, .sl (l1.map intE)] = _
  rw [c_laws_FnExactRunExchange, sz_Exchange x0 1048576 (by omega) (by omega) hx0, lenI_map]
  by_cases hl : 1048576 < l1.length
  · rw [ltT (by omega)]; rfl
  rw [ltF (by omega), cond_false]
  simp only [gn_c, gb_c, gs_c, gl_c, tk_s, tk_0, List.drop_succ_cons, List.drop_zero, List.headD_cons, List.getD_cons_zero, List.getD_cons_succ, bind_s]
  by_cases hs : (x0.sz : Int) ≤ 1048576
  · have hb2 : x0.B2 := by simp only [Xc.B2]; omega
    rw [szv_ok hs, ltF (by omega), cond_false, to_Exchange x0 (by omega)]
    simp only [gn_c, gb_c, gs_c, gl_c, tk_s, tk_0, List.drop_succ_cons, List.drop_zero, List.headD_cons, List.getD_cons_zero, List.getD_cons_succ, bind_s]
    rw [to_IntS l1 (by omega)]
    simp only [gn_c, gb_c, gs_c, gl_c, tk_s, tk_0, List.drop_succ_cons, List.drop_zero, List.headD_cons, List.getD_cons_zero, List.getD_cons_succ, bind_s]
    rw [sRun x0 l1 hb2, iRun x0 l1 hb2]
    have hz : ∃ (y : Xc) (m : Int) (b : Bool), (if exOk x0 = true then XR (runX l1 (mu x0) x0 0) else [.sl (x0.pend.map rsE), .sl (x0.que.map rsE), .sl (x0.got.map rsE), .int x0.cap, .int 0, .bool false]) = [.sl (y.pend.map rsE), .sl (y.que.map rsE), .sl (y.got.map rsE), .int y.cap, .int m, .bool b] ∧ y.sz = x0.sz := by
      by_cases hv : exOk x0 = true
      · rw [if_pos hv]
        exact ⟨(runX l1 (mu x0) x0 0).1, _, _, rfl, (runX_ok l1 _ x0 0 hv).2.1⟩
      · rw [if_neg hv]
        exact ⟨x0, _, _, rfl, rfl⟩
    obtain ⟨y, mm, b, hy, hz⟩ := hz
    rw [hy]
    obtain ⟨m, p, q, g, e1, e2, e3, _⟩ := markX y (by omega)
    obtain ⟨m', p', q', g', e1', e2', e3', e3b⟩ := markX x0 (by omega)
    have e4 := eq_Exchange y y (by omega)
    have e5 := eq_Exchange x0 x0 (by omega)
    have e7 := mark_IntS l1 m' e3' (by rw [cnt_int]; omega) (by omega)
    have e8 : ltI (m' + cntL c1 l1) 0 = false := ltF (by omega)
    have e6 := eq_IntS l1 l1 (by omega)
    simp only [gn_c, gb_c, gs_c, gl_c, tk_s, tk_0, List.drop_succ_cons, List.drop_zero, List.headD_cons, List.getD_cons_zero, List.getD_cons_succ, bind_s, e4, e5, e6, decide_true, eqBo_self, eqI_self, Bool.not_true, cond_false, e1, e1', e7, e8, List.drop_succ_cons, List.drop_zero, e2, ltF e3, ltF e3']
  · rw [szv_no hs]; rfl
end Go.Proofs.Ytbmafhpbinjgaaa.Vai
