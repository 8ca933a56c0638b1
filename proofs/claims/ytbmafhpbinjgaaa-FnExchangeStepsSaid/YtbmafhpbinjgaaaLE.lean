/- FnExchangeSteps: the law answers true; no condition. -/
import Derived.Test.YtbmafhpbinjgaaaD2
import Derived.Test.YtbmafhpbinjgaaaP17
import Derived.Test.YtbmafhpbinjgaaaEqLFnExchangeSteps
namespace Go.Proofs.Ytbmafhpbinjgaaa.Vai
open Go
set_option linter.unusedSimpArgs false
set_option linter.unusedVariables false
set_option linter.unnecessarySimpa false
set_option maxRecDepth 10000
theorem send_ok (x : Xc) (i : Int) (h : (sendX x i).2 = true) : exOk (sendX x i).1 = true := by
  by_cases hc : exOk x = true ∧ 0 ≤ i ∧ i < x.pend.length
  · obtain ⟨n, rfl⟩ : ∃ n : Nat, i = n := ⟨i.toNat, by omega⟩
    exact (send_next hc.1 h).1
  · have e : sendX x i = _ := if_neg hc
    rw [e] at h; cases h
theorem recv_okX (x : Xc) (i : Int) (h : (recvX x i).2 = true) : exOk (recvX x i).1 = true := by
  by_cases hc : exOk x = true ∧ 0 ≤ i ∧ i < x.que.length
  · obtain ⟨n, rfl⟩ : ∃ n : Nat, i = n := ⟨i.toNat, by omega⟩
    exact (recv_next hc.1 h).1
  · have e : recvX x i = _ := if_neg hc
    rw [e] at h; cases h
theorem pure_FnExchangeSteps : ∀ ds, OkDs tE [.sl 5] ds → callI tE f_laws_FnExchangeSteps ds = some [.bool true] := by
  intro ds h0
  obtain ⟨_, _, rfl, i0, h1⟩ := h0.inv
  obtain ⟨l0, rfl⟩ := of_rows i0
  obtain rfl := h1.nil_inv
  rw [c_laws_FnExchangeSteps, c_laws_big]
  simp only [gn_c, gb_c, gs_c, gl_c, tk_s, tk_0, List.drop_succ_cons, List.drop_zero, List.headD_cons, List.getD_cons_zero, List.getD_cons_succ, bind_s]
  by_cases hs : l0.length ≤ 1048576
  · rw [ltF (show lenI l0 ≤ 1048576 by show (l0.length : Int) ≤ 1048576; omega), cond_false]
    obtain ⟨x, i, e1, q1⟩ := dDrawSend l0 hs
    obtain ⟨y, j, e2, q2⟩ := dDrawRecv l0 hs
    obtain ⟨p, r, k, e3, q3⟩ := dDrawNewX l0 hs
    obtain ⟨a, b, e4, q4⟩ := dDrawEqX l0 hs
    obtain ⟨o, e5, q5⟩ := dDrawDone l0 hs
    obtain ⟨g, m, e6⟩ := dDrawRecvFor l0 hs
    have b1 : x.B2 := by unfold Xc.B2; omega
    have b2 : y.B2 := by unfold Xc.B2; omega
    have b4 : a.B2 := by unfold Xc.B2; omega
    have b5 : o.B2 := by unfold Xc.B2; omega
    have s1 := sendX_sz x i
    have s2 := recvX_sz y j
    have c1 : (sendX x i).1.B2 := by unfold Xc.B2; omega
    have c2 : (recvX y j).1.B2 := by unfold Xc.B2; omega
    have c3 : (NX p r k).1.B := by
      unfold NX Xc.B
      split
      · rename_i h
        have := win_iff.mp h.2.1
        simp only [Xc.sz, szL_rep']; omega
      · simp [Xc.sz, szL]
    have f1 := iSend x i b1
    have f2 := sSend x i b1
    have f3 := iRecv y j b2
    have f4 := sRecv y j b2
    have f5 := iNewX p r k (by omega)
    have f6 := sNewX p r k (by omega)
    have f7 := sEqX (sendX x i).1 (sendX x i).1 c1.b
    have f8 := sEqX (recvX y j).1 (recvX y j).1 c2.b
    have f9 := sEqX (NX p r k).1 (NX p r k).1 c3
    have f10 := iEqX a b b4.b
    have f11 := sEqX a b b4.b
    have f12 := iDoneX o b5
    have f13 := sDoneX o b5
    have f14 := iRecvFor g m
    have f15 := sRecvFor g m
    have f16 := iValidX (sendX x i).1 c1
    have f17 := iValidX (recvX y j).1 c2
    simp only [e1, e2, e3, e4, e5, e6, f1, f2, f3, f4, f5, f6, XB, gn_c, gb_c, gs_c, gl_c, tk_s, tk_0, List.drop_succ_cons, List.drop_zero, List.headD_cons, List.getD_cons_zero, List.getD_cons_succ, bind_s, f7, f8, f9, f10, f11, f12, f13, f14, f15, f16, f17, eqBo_self, eqI_self, cond_true, xEq_self]
    cases h1 : (sendX x i).2 with
    | false =>
      cases h2 : (recvX y j).2 with
      | false => rfl
      | true => rw [recv_okX y j h2]; rfl
    | true =>
      rw [send_ok x i h1]
      cases h2 : (recvX y j).2 with
      | false => rfl
      | true => rw [recv_okX y j h2]; rfl
  · rw [ltT (show 1048576 < lenI l0 by show (1048576 : Int) < (l0.length : Int); omega)]
    rfl
end Go.Proofs.Ytbmafhpbinjgaaa.Vai
