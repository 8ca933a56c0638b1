/- FormatOutput: the law answers true; no condition. -/
import Derived.Test.YtbmafhpbinjgaaaP7
import Derived.Test.YtbmafhpbinjgaaaPI
import Derived.Test.YtbmafhpbinjgaaaPLD
import Derived.Test.YtbmafhpbinjgaaaPW
import Derived.Test.YtbmafhpbinjgaaaEqLFnExactFormatOutput
namespace Go.Proofs.Ytbmafhpbinjgaaa.Vai
open Go
set_option linter.unusedSimpArgs false
set_option linter.unusedVariables false
set_option linter.unnecessarySimpa false
set_option maxRecDepth 10000
theorem pure_FnExactFormatOutput : ∀ ds, OkDs tE [.sl 65, .sl 269, .sl 271] ds → callI tE f_laws_FnExactFormatOutput ds = some [.bool true] := by
  intro ds h0
  obtain ⟨_, _, rfl, i0, h1⟩ := OkDs.split (ls1 := [.sl 65, .sl 269, .sl 271]) (ls2 := []) h0
  obtain ⟨x0, rfl, hx0⟩ := of_Output i0
  obtain rfl := h1.nil_inv
  simp only [Ou.e, List.cons_append, List.nil_append]
  rw [c_laws_FnExactFormatOutput, sz_Output x0 1048576 (by omega) (by omega) hx0]
  simp only [gn_c, gb_c, gs_c, gl_c, tk_s, tk_0, List.drop_succ_cons, List.drop_zero, List.headD_cons, List.getD_cons_zero, List.getD_cons_succ, bind_s]
  by_cases hs : (x0.sz : Int) ≤ 1048576
  · rw [szv_ok hs, ltF (by omega), cond_false, to_Output x0 (by omega)]
    simp only [gn_c, gb_c, gs_c, gl_c, tk_s, tk_0, List.drop_succ_cons, List.drop_zero, List.headD_cons, List.getD_cons_zero, List.getD_cons_succ, bind_s, iFormatOutput x0 (by omega) hx0.2.2.2, sFormatOutput x0 (by omega) hx0.2.2.2, eq_Output x0 x0 (by omega), decide_true, Bool.not_true, cond_false]
    rw [show eqS (S (fmtO x0)) (S (fmtO x0)) = true from (eqS_S _ _).trans (decide_eq_true rfl)]
    rfl
  · rw [szv_no hs]; rfl
end Go.Proofs.Ytbmafhpbinjgaaa.Vai
