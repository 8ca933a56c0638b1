/- NewSystem: the law answers true; no condition. -/
import Derived.Test.YtbmafhpbinjgaaaMarkSys
import Derived.Test.YtbmafhpbinjgaaaPLE
import Derived.Test.YtbmafhpbinjgaaaP1
import Derived.Test.YtbmafhpbinjgaaaPI
import Derived.Test.YtbmafhpbinjgaaaEqLFnExactNewSystem
namespace Go.Proofs.Ytbmafhpbinjgaaa.Vai
open Go
set_option linter.unusedSimpArgs false
set_option linter.unusedVariables false
set_option linter.unnecessarySimpa false
set_option maxRecDepth 10000
def newSy (n : Int) : Sy × Bool := if win n 8 120 = true then (⟨⟨n, 0, [], []⟩, [], 0⟩, true) else (⟨⟨0, 0, [], []⟩, [], 0⟩, false)
def SyB (x : Sy × Bool) : List Dat := [.int x.1.br.pool, .int x.1.br.next, .sl (x.1.br.act.map Cl.e), .sl (x.1.br.wait.map Cl.e), .sl (x.1.slots.map Sl.e), .int x.1.round, .bool x.2]
theorem iNewSy (n : Int) : callI tE f_impl_NewSystem [.int n] = some (SyB (newSy n)) := by
  rw [c_impl_NewSystem, c_impl_NewBroker, within_ok]
  unfold newSy
  cases win n 8 120 <;> rfl
theorem sNewSy (n : Int) : callI tE f_spec_NewSystem [.int n] = some (SyB (newSy n)) := by
  rw [c_spec_NewSystem, c_spec_NewBroker, l1In_ok]
  unfold newSy
  cases win n 8 120 <;> rfl
theorem mark_none (a b c : Int) : callI tE f_laws_markSystem [.int a, .int b, .sl [], .sl [], .sl [], .int c, .int 1] = some [.int 1, .sl [], .sl [], .sl []] := by
  rw [c_laws_markSystem, c_laws_markBroker, c_laws_markClientS, L_laws_markClientS_0_eq]
  rw [show ltI 0 (lenI []) = false from rfl, cond_false]
  simp only [gn_c, gb_c, gs_c, gl_c, tk_s, tk_0, List.drop_succ_cons, List.drop_zero, List.headD_cons, List.getD_cons_zero, List.getD_cons_succ, bind_s]
  rw [c_laws_markClientS, L_laws_markClientS_0_eq, show ltI 0 (lenI []) = false from rfl, cond_false]
  simp only [gn_c, gb_c, gs_c, gl_c, tk_s, tk_0, List.drop_succ_cons, List.drop_zero, List.headD_cons, List.getD_cons_zero, List.getD_cons_succ, bind_s]
  rw [c_laws_markSlotS, L_laws_markSlotS_0_nil]
  rfl
theorem held_none (a b c : Int) : callI tE f_laws_heldSystem [.int a, .int b, .sl [], .sl [], .sl [], .int c, .int 1] = some [.int 1] := by
  rw [c_laws_heldSystem, c_laws_heldBroker, c_laws_heldClientS, L_laws_heldClientS_0_eq, show ltI 0 (lenI []) = false from rfl, cond_false]
  simp only [gn_c, gb_c, gs_c, gl_c, tk_s, tk_0, List.drop_succ_cons, List.drop_zero, List.headD_cons, List.getD_cons_zero, List.getD_cons_succ, bind_s]
  rw [ltF (by omega), cond_false, c_laws_heldClientS, L_laws_heldClientS_0_eq, show ltI 0 (lenI []) = false from rfl, cond_false]
  simp only [gn_c, gb_c, gs_c, gl_c, tk_s, tk_0, List.drop_succ_cons, List.drop_zero, List.headD_cons, List.getD_cons_zero, List.getD_cons_succ, bind_s]
  rw [ltF (by omega), cond_false]
  simp only [gn_c, gb_c, gs_c, gl_c, tk_s, tk_0, List.drop_succ_cons, List.drop_zero, List.headD_cons, List.getD_cons_zero, List.getD_cons_succ, bind_s]
  rw [ltF (by omega), cond_false, c_laws_heldSlotS, L_laws_heldSlotS_0_eq, show ltI 0 (lenI []) = false from rfl, cond_false]
  simp only [gn_c, gb_c, gs_c, gl_c, tk_s, tk_0, List.drop_succ_cons, List.drop_zero, List.headD_cons, List.getD_cons_zero, List.getD_cons_succ, bind_s]
  rw [ltF (by omega), cond_false]
theorem pure_FnExactNewSystem : ∀ ds, OkDs tE [.int .i64] ds → callI tE f_laws_FnExactNewSystem ds = some [.bool true] := by
  intro ds h0
  obtain ⟨_, _, rfl, i0, h1⟩ := h0.inv
  obtain ⟨n0, rfl, j0⟩ := i0.i64
  obtain rfl := h1.nil_inv
  rw [c_laws_FnExactNewSystem, sNewSy, iNewSy]
  have hy : ∃ (y : Sy) (b : Bool), newSy n0 = (y, b) ∧ y.br.act = [] ∧ y.br.wait = [] ∧ y.slots = [] := by
    unfold newSy
    split <;> exact ⟨_, _, rfl, rfl, rfl, rfl⟩
  obtain ⟨y, b, e, h1, h2, h3⟩ := hy
  rw [e]
  have e1 := eq_System y y (by simp [Sy.sz, Br.sz, h1, h2, h3, szL])
  have e2 := mark_none y.br.pool y.br.next y.round
  have e3 := held_none y.br.pool y.br.next y.round
  rw [h1, h2, h3] at e1
  simp only [List.map_nil] at e1
  simp only [SyB, h1, h2, h3, List.map_nil, gn_c, gb_c, gs_c, gl_c, tk_s, tk_0, List.drop_succ_cons, List.drop_zero, List.headD_cons, List.getD_cons_zero, List.getD_cons_succ, bind_s, e1, e2, e3, decide_true, Bool.not_true, cond_false, eqBo_self, eqI_self, List.drop_succ_cons, List.drop_zero, ltF (show (0 : Int) ≤ 1 by omega)]
end Go.Proofs.Ytbmafhpbinjgaaa.Vai
