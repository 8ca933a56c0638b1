/- Exchanges: equal, done; no condition. -/
import Derived.Test.YtbmafhpbinjgaaaP6
namespace Go.Proofs.Ytbmafhpbinjgaaa.Vai
open Go
set_option linter.unusedSimpArgs false
set_option linter.unusedVariables false
set_option linter.unnecessarySimpa false
set_option maxRecDepth 10000
theorem iEqLists (a b : List (List Rw)) (h : szL List.length a ≤ 1073741824) : callI tE f_impl_equalLists [.sl (a.map rsE), .sl (b.map rsE)] = some [.bool (decide (a = b))] := by
  have hl := szL_len List.length a
  rw [c_impl_equalLists]
  by_cases hll : a.length = b.length
  · rw [eq_len hll, Bool.not_true, cond_false]
    have := eq_loop (L := fun x y i => L_impl_equalLists_0 x y (lenI x) i) (e := rsE) (P := fun r : List Rw => r.length ≤ 1073741824) (fun p q p' q' a b ha hpl hlt => by
      rw [L_impl_equalLists_0_eq]
      simp only [lt_mid, in_mid, tn_c, at_mid, cond_true, cond_false, gn_c, gb_c, gs_c, gl_c, tk_s, tk_0, List.drop_succ_cons, List.drop_zero, List.headD_cons, List.getD_cons_zero, List.getD_cons_succ, bind_s, in_mid' hpl, at_mid' hpl, rsE, iEqual a b (show a.length ≤ 1152921504606846976 by omega), bifn]) (fun p p' hpl => by
      rw [L_impl_equalLists_0_eq, lt_end, cond_false]) a b [] [] rfl hll (fun r hr => Nat.le_trans (szL_mem' hr) h) (by simp; omega)
    simpa using this
  · rw [ne_len hll, Bool.not_false, cond_true, decide_eq_false (fun e => hll (by rw [e]))]
theorem sSame (a b : List (List Rw)) (h : szL List.length a ≤ 1073741824) : callI tE f_spec_l26Same [.sl (a.map rsE), .sl (b.map rsE)] = some [.bool (decide (a = b))] := by
  have hl := szL_len List.length a
  rw [c_spec_l26Same]
  by_cases hll : a.length = b.length
  · rw [eq_len hll, Bool.not_true, cond_false]
    have := eq_loop (L := fun x y i => L_spec_l26Same_0 x y i) (e := rsE) (P := fun r : List Rw => r.length ≤ 1073741824) (fun p q p' q' a b ha hpl hlt => by
      rw [L_spec_l26Same_0_eq]
      simp only [lt_mid, in_mid, tn_c, at_mid, cond_true, cond_false, gn_c, gb_c, gs_c, gl_c, tk_s, tk_0, List.drop_succ_cons, List.drop_zero, List.headD_cons, List.getD_cons_zero, List.getD_cons_succ, bind_s, in_mid' hpl, at_mid' hpl, rsE, sEqual a b (show a.length ≤ 1152921504606846976 by omega), bifn]) (fun p p' hpl => by
      rw [L_spec_l26Same_0_eq, lt_end, cond_false]) a b [] [] rfl hll (fun r hr => Nat.le_trans (szL_mem' hr) h) (by simp; omega)
    simpa using this
  · rw [ne_len hll, Bool.not_false, cond_true, decide_eq_false (fun e => hll (by rw [e]))]
def xEq (x y : Xc) : Bool := eqI x.cap y.cap && (decide (x.pend = y.pend) && (decide (x.que = y.que) && decide (x.got = y.got)))
theorem xEq_self (x : Xc) : xEq x x = true := by simp [xEq, eqI]
theorem iEqX (x y : Xc) (h : x.B) : callI tE f_impl_EqualExchanges [.sl (x.pend.map rsE), .sl (x.que.map rsE), .sl (x.got.map rsE), .int x.cap, .sl (y.pend.map rsE), .sl (y.que.map rsE), .sl (y.got.map rsE), .int y.cap] = some [.bool (xEq x y)] := by
  have hb := h.p
  rw [c_impl_EqualExchanges]
  simp only [iEqLists x.pend y.pend hb.1, iEqLists x.que y.que hb.2.1, iEqLists x.got y.got hb.2.2, gn_c, gb_c, gs_c, gl_c, tk_s, tk_0, List.drop_succ_cons, List.drop_zero, List.headD_cons, List.getD_cons_zero, List.getD_cons_succ, bind_s]
  unfold xEq
  cases eqI x.cap y.cap
  · rfl
  · cases decide (x.pend = y.pend)
    · rfl
    · cases decide (x.que = y.que) <;> rfl
theorem sEqX (x y : Xc) (h : x.B) : callI tE f_spec_EqualExchanges [.sl (x.pend.map rsE), .sl (x.que.map rsE), .sl (x.got.map rsE), .int x.cap, .sl (y.pend.map rsE), .sl (y.que.map rsE), .sl (y.got.map rsE), .int y.cap] = some [.bool (xEq x y)] := by
  have hb := h.p
  rw [c_spec_EqualExchanges]
  simp only [sSame x.pend y.pend hb.1, sSame x.que y.que hb.2.1, sSame x.got y.got hb.2.2, gn_c, gb_c, gs_c, gl_c, tk_s, tk_0, List.drop_succ_cons, List.drop_zero, List.headD_cons, List.getD_cons_zero, List.getD_cons_succ, bind_s]
  unfold xEq
  cases eqI x.cap y.cap
  · rfl
  · cases decide (x.pend = y.pend)
    · rfl
    · cases decide (x.que = y.que) <;> rfl
/-! done -/
def emptyL (l : List (List Rw)) : Bool := l.all fun r => decide (r.length = 0)
theorem emptyL_iff : ∀ {l : List (List Rw)}, emptyL l = true ↔ l.flatten.length = 0
  | [] => by simp [emptyL]
  | a :: l => by
    have := emptyL_iff (l := l)
    unfold emptyL at *
    simp only [List.all_cons, Bool.and_eq_true, this, List.flatten_cons, List.length_append, decide_eq_true_eq]
    omega
def doneX (x : Xc) : Bool := exOk x && (emptyL x.pend && emptyL x.que)
theorem iDoneX (x : Xc) (h : x.B2) : callI tE f_impl_IsExchangeDone [.sl (x.pend.map rsE), .sl (x.que.map rsE), .sl (x.got.map rsE), .int x.cap] = some [.bool (doneX x)] := by
  have hb := h.b.p
  have e : ∀ l : List (List Rw), eqI (l.flatten.length : Nat) 0 = emptyL l := fun l => by
    rw [Bool.eq_iff_iff, emptyL_iff]
    unfold eqI
    rw [decide_eq_true_eq]; omega
  rw [c_impl_IsExchangeDone]
  simp only [iValidX x h, iTogether x.pend hb.1, iTogether x.que hb.2.1, gn_c, gb_c, gs_c, gl_c, tk_s, tk_0, List.drop_succ_cons, List.drop_zero, List.headD_cons, List.getD_cons_zero, List.getD_cons_succ, bind_s, lenI_map, e]
  unfold doneX
  cases exOk x
  · rfl
  · cases emptyL x.pend <;> rfl
theorem sDoneX (x : Xc) (h : x.B2) : callI tE f_spec_IsExchangeDone [.sl (x.pend.map rsE), .sl (x.que.map rsE), .sl (x.got.map rsE), .int x.cap] = some [.bool (doneX x)] := by
  have hb := h.b.p
  have hl1 := szL_len List.length x.pend
  have hl2 := szL_len List.length x.que
  have d : ∀ a : List Rw, ltI 0 (lenI (a.map Rw.e)) = !decide (a.length = 0) := fun a => by
    rw [lenI_map]
    by_cases ha : a.length = 0
    · rw [ltF (by omega), decide_eq_true ha]; rfl
    · rw [ltT (by omega), decide_eq_false ha]; rfl
  rw [c_spec_IsExchangeDone]
  have h2 := all_loop (l := x.que) (L := fun i => L_spec_IsExchangeDone_1 0 i (x.pend.map rsE) (x.que.map rsE) (x.got.map rsE) x.cap) (p := fun r => decide (r.length = 0)) (no := some [.bool false]) (yes := some [.bool (exOk x)]) (by omega) (fun u a v e => by
    have i1 : inR (u.length : Int) (lenI (x.que.map rsE)) = true := by rw [e]; exact in_m u v a
    have i2 : ltI (u.length : Int) (lenI (x.que.map rsE)) = true := by rw [e]; exact lt_m u v a
    have i3 : at' (x.que.map rsE) u.length = rsE a := by rw [e]; exact at_m u v a
    rw [L_spec_IsExchangeDone_1_eq, i1, i2, tn_c, i3]
    simp only [cond_true, rsE, gn_c, gb_c, gs_c, gl_c, tk_s, tk_0, List.drop_succ_cons, List.drop_zero, List.headD_cons, List.getD_cons_zero, List.getD_cons_succ, bind_s, d]
    cases decide (a.length = 0) <;> rfl) (by rw [L_spec_IsExchangeDone_1_eq, lt_e, cond_false, sValidX x h]; rfl)
  have h1 := all_loop (l := x.pend) (L := fun i => L_spec_IsExchangeDone_0 0 i (x.pend.map rsE) (x.que.map rsE) (x.got.map rsE) x.cap) (p := fun r => decide (r.length = 0)) (no := some [.bool false]) (yes := bif x.que.all (fun r => decide (r.length = 0)) then some [.bool (exOk x)] else some [.bool false]) (by omega) (fun u a v e => by
    have i1 : inR (u.length : Int) (lenI (x.pend.map rsE)) = true := by rw [e]; exact in_m u v a
    have i2 : ltI (u.length : Int) (lenI (x.pend.map rsE)) = true := by rw [e]; exact lt_m u v a
    have i3 : at' (x.pend.map rsE) u.length = rsE a := by rw [e]; exact at_m u v a
    rw [L_spec_IsExchangeDone_0_eq, i1, i2, tn_c, i3]
    simp only [cond_true, rsE, gn_c, gb_c, gs_c, gl_c, tk_s, tk_0, List.drop_succ_cons, List.drop_zero, List.headD_cons, List.getD_cons_zero, List.getD_cons_succ, bind_s, d]
    cases decide (a.length = 0) <;> rfl) (by rw [L_spec_IsExchangeDone_0_eq, lt_e, cond_false]; exact h2)
  refine h1.trans ?_
  unfold doneX emptyL
  cases x.pend.all (fun r => decide (r.length = 0))
  · simp
  · cases x.que.all (fun r => decide (r.length = 0))
    · simp
    · simp
end Go.Proofs.Ytbmafhpbinjgaaa.Vai
