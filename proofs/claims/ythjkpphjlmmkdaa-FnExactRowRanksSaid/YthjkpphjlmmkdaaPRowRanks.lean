/- RowRanks: the law answers true; no condition. -/
import Derived.Test.YthjkpphjlmmkdaaPInts
namespace Go.Proofs.Ythjkpphjlmmkdaa.Vai
open Go
theorem pure_FnExactRowRanks : ∀ ds, OkDs tE [.sl 25] ds → callI tE f_laws_FnExactRowRanks ds = some [.bool true] := by
  intro ds h
  obtain ⟨_, _, rfl, i0, h0⟩ := h.inv
  obtain rfl := h0.nil_inv
  obtain ⟨a, rfl, hr, ha⟩ := rowsD_of i0 rfl
  have hr' : a.length ≤ reachBytes := Nat.le_trans (Nat.le_mul_of_pos_right _ (by decide)) hr
  rw [c_laws_FnExactRowRanks]
  obtain ⟨m, e1, q⟩ := szRowS_ok (a := a) (n := 1048576) ⟨by decide, Int.le_refl _⟩ hr'
  simp only [e1, bind_some', List.headD_cons, n_int]
  rcases q with q | ⟨q1, q2, q3⟩
  · rw [ltT q, cond_true]
  rw [ltF q1, cond_false]
  have hm : a.length ≤ 1048576 := by omega
  obtain ⟨k, r, m1, m2⟩ := markRowS_ok (x := a) hm
  obtain ⟨k2, r2, m3, m4, m5⟩ := markInts_ok (x := (ranks a)) (by unfold ranks; rw [List.length_map]; exact hm) (ranks_ints a)
  simp only [toRowS_ok ha hm, bind_some', List.headD_cons, rows_sl, sRank_ok hm, iRank_ok hm, eqIntS_ok (ranks_ints a) (ranks_ints a) (by unfold ranks; rw [List.length_map]; omega), eqRowS_ok ha ha (by omega), eqD_self, b_bool, Bool.not_true, cond_false, m1, m3, m5, n_int, ltF m2, ltF m4, eqI_self, List.drop_succ_cons, List.drop_zero]
end Go.Proofs.Ythjkpphjlmmkdaa.Vai
