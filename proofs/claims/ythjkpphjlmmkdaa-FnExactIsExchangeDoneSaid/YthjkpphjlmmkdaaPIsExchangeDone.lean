/- IsExchangeDone: the law answers true; no condition. -/
import Derived.Test.YthjkpphjlmmkdaaPEx2
namespace Go.Proofs.Ythjkpphjlmmkdaa.Vai
open Go
theorem pure_FnExactIsExchangeDone : ∀ ds, OkDs tE [.sl 30, .sl 30, .sl 30, .int .i64] ds → callI tE f_laws_FnExactIsExchangeDone ds = some [.bool true] := by
  intro ds h
  obtain ⟨_, _, rfl, i0, h0⟩ := h.inv
  obtain ⟨_, _, rfl, i1, h1⟩ := h0.inv
  obtain ⟨_, _, rfl, i2, h2⟩ := h1.inv
  obtain ⟨_, _, rfl, i3, h3⟩ := h2.inv
  obtain rfl := h3.nil_inv
  obtain ⟨n, rfl, -⟩ := i3.i64
  obtain ⟨a, b, c, rfl, rfl, rfl, hx⟩ := exArg rfl rfl (by decide) (by decide) i0 i1 i2
  rw [c_laws_FnExactIsExchangeDone]
  obtain ⟨m, e1, q⟩ := szExchange_ok (q := n) hx ⟨by decide, Int.le_refl _⟩
  simp only [e1, bind_some', List.headD_cons, n_int]
  rcases q with q | ⟨q1, q2, ma, mb, mc⟩
  · rw [ltT q, cond_true]
  rw [ltF q1, cond_false]
  simp only [toExchange_ok ma mb mc, bind_some', List.headD_cons, List.tail_cons, rows_sl, n_int, b_bool, iDone_ok ma mb mc, sDone_ok ma mb mc, eqExchange_self ma.small mb.small mc.small, eqBo_self, Bool.not_true, cond_false]
end Go.Proofs.Ythjkpphjlmmkdaa.Vai
