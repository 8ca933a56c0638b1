/- SlidingSums: the law answers true; no condition. -/
import Derived.Test.YthjkpphjlmmkdaaPInts
namespace Go.Proofs.Ythjkpphjlmmkdaa.Vai
open Go
theorem pure_FnExactSlidingSums : ∀ ds, OkDs tE [.sl 25, .int .i64] ds → callI tE f_laws_FnExactSlidingSums ds = some [.bool true] := by
  intro ds h
  obtain ⟨_, _, rfl, i0, h0⟩ := h.inv
  obtain ⟨_, _, rfl, i1, h1⟩ := h0.inv; obtain ⟨w, rfl, -⟩ := i1.i64; obtain rfl := h1.nil_inv
  obtain ⟨a, rfl, hr, ha⟩ := rowsD_of i0 rfl
  have hr' : a.length ≤ reachBytes := Nat.le_trans (Nat.le_mul_of_pos_right _ (by decide)) hr
  rw [c_laws_FnExactSlidingSums]
  obtain ⟨m, e1, q⟩ := szRowS_ok (a := a) (n := 1048576) ⟨by decide, Int.le_refl _⟩ hr'
  simp only [e1, bind_some', List.headD_cons, n_int]
  rcases q with q | ⟨q1, q2, q3⟩
  · rw [ltT q, cond_true]
  rw [ltF q1, cond_false]
  have hm : a.length ≤ 1048576 := by omega
  obtain ⟨k, r, m1, m2⟩ := markRowS_ok (x := a) hm
  obtain ⟨k2, r2, m3, m4, m5⟩ := markInts_ok (x := (slidesOr a w)) (Nat.le_trans (slides_len a w) hm) (slides_ints a w)
  simp only [toRowS_ok ha hm, bind_some', List.headD_cons, rows_sl, sSlide_ok hm w, iSlide_ok hm w, eqIntS_ok (slides_ints a w) (slides_ints a w) (by have := slides_len a w; omega), eqRowS_ok ha ha (by omega), eqD_self, b_bool, Bool.not_true, cond_false, m1, m3, m5, n_int, ltF m2, ltF m4, eqI_self, List.drop_succ_cons, List.drop_zero]
end Go.Proofs.Ythjkpphjlmmkdaa.Vai
