/- The exchange: a row sent, a row received; no condition. -/
import Derived.Test.YtbmafhpbinjgaaaP5
import Derived.Test.YtbmafhpbinjgaaaPS
namespace Go.Proofs.Ytbmafhpbinjgaaa.Vai
open Go
set_option linter.unusedSimpArgs false
set_option linter.unusedVariables false
set_option linter.unnecessarySimpa false
set_option maxRecDepth 10000
def sendX (x : Xc) (i : Int) : Xc × Bool :=
  if exOk x = true ∧ 0 ≤ i ∧ i < x.pend.length then
    match x.pend.getD i.toNat [] with
    | [] => (x, false)
    | r :: p =>
      if ((x.que.getD (recv r x.que.length).toNat []).length : Int) = x.cap then (x, false)
      else (⟨x.pend.set i.toNat p, x.que.set (recv r x.que.length).toNat (x.que.getD (recv r x.que.length).toNat [] ++ [r]), x.got, x.cap⟩, true)
  else (x, false)
def recvX (x : Xc) (i : Int) : Xc × Bool :=
  if exOk x = true ∧ 0 ≤ i ∧ i < x.que.length then
    match x.que.getD i.toNat [] with
    | [] => (x, false)
    | r :: q => (⟨x.pend, x.que.set i.toNat q, x.got.set i.toNat (x.got.getD i.toNat [] ++ [r]), x.cap⟩, true)
  else (x, false)
theorem exOk_p {x : Xc} (h : exOk x = true) : (∀ l ∈ x.pend, aok l = true) ∧ win x.pend.length 1 3 = true ∧ win x.que.length 1 3 = true ∧ x.got.length = x.que.length ∧ win x.cap 1 9 = true ∧ recvOk x.que.length x.cap 0 x.que x.got = true := by
  simp only [exOk, sendOk, Bool.and_eq_true, eqI, decide_eq_true_eq] at h
  obtain ⟨⟨h1, h2⟩, h3, h4, h5, h6⟩ := h
  exact ⟨List.all_eq_true.mp h1, h2, h3, by omega, h5, h6⟩
theorem win_len {i : Int} {n : Nat} (hn : n ≤ 1073741824) : win i 0 (w64 ((n : Int) - 1)) = decide (0 ≤ i ∧ i < n) := by
  rw [w64_id ⟨by omega, by omega⟩, Bool.eq_iff_iff, win_iff, decide_eq_true_eq]
  constructor <;> (intro h; omega)
theorem head_at (r : Rw) (p : List Rw) : at' ((r :: p).map Rw.e) (tn 0) = r.e := rfl
theorem in_0 (r : Rw) (p : List Rw) : inR 0 (lenI ((r :: p).map Rw.e)) = true := by rw [lenI_map]; exact inRT (by omega) (by (first | omega | (simp only [List.length_append, List.length_cons, List.length_nil, List.length_map, List.length_take, List.length_drop, List.length_replicate, szI_S] at * <;> omega)))
theorem le_1 (r : Rw) (p : List Rw) : leI 1 (lenI ((r :: p).map Rw.e)) = true := by rw [lenI_map]; exact leT (by (first | omega | (simp only [List.length_append, List.length_cons, List.length_nil, List.length_map, List.length_take, List.length_drop, List.length_replicate, szI_S] at * <;> omega)))
theorem ne_0 (r : Rw) (p : List Rw) : eqI (lenI ((r :: p).map Rw.e)) 0 = false := by rw [lenI_map]; exact eqF (by (first | omega | (simp only [List.length_append, List.length_cons, List.length_nil, List.length_map, List.length_take, List.length_drop, List.length_replicate, szI_S] at * <;> omega)))
theorem Xc.eta (x : Xc) : (⟨x.pend, x.que, x.got, x.cap⟩ : Xc) = x := rfl
theorem row_app (q : List Rw) (r : Rw) : List.append (q.map Rw.e) [[Dat.int r.k, .int r.v, .int r.w]] = (q ++ [r]).map Rw.e := by simp [Rw.e]
theorem iSend (x : Xc) (i : Int) (h : x.B2) : callI tE f_impl_SendRow [.sl (x.pend.map rsE), .sl (x.que.map rsE), .sl (x.got.map rsE), .int x.cap, .int i] = some (XB (sendX x i)) := by
  have hb := h.b.p
  have hl := szL_len List.length x.pend
  have hw : callI tE f_impl_within [.int i, .int 0, .int (w64 (lenI (x.pend.map rsE) - 1))] = some [.bool (decide (0 ≤ i ∧ i < x.pend.length))] := by rw [lenI_map, within_ok, win_len (by omega)]
  rw [c_impl_SendRow, iCloneX x h.b]
  simp only [gn_c, gb_c, gs_c, gl_c, tk_s, tk_0, List.drop_succ_cons, List.drop_zero, List.headD_cons, List.getD_cons_zero, List.getD_cons_succ, bind_s]
  rw [iValidX x h]
  simp only [gn_c, gb_c, gs_c, gl_c, tk_s, tk_0, List.drop_succ_cons, List.drop_zero, List.headD_cons, List.getD_cons_zero, List.getD_cons_succ, bind_s]
  by_cases hv : exOk x = true
  · have hp := exOk_p hv
    by_cases hi : 0 ≤ i ∧ i < x.pend.length
    · rw [show sendX x i = _ from if_pos ⟨hv, hi.1, hi.2⟩, hv, Bool.not_true, cond_false, hw]
      simp only [gn_c, gb_c, gs_c, gl_c, tk_s, tk_0, List.drop_succ_cons, List.drop_zero, List.headD_cons, List.getD_cons_zero, List.getD_cons_succ, bind_s]
      rw [decide_eq_true hi, Bool.not_true, cond_false]
      obtain ⟨n, rfl⟩ : ∃ n : Nat, i = n := ⟨i.toNat, by omega⟩
      clear hw
      obtain ⟨pend, que, got, cap⟩ := x
      simp only at *
      obtain ⟨u, a, v, rfl, rfl⟩ := split_at (show n < pend.length by omega)
      rw [in_m, tn_c, at_m, Int.toNat_natCast, getD_m]
      simp only [cond_true, rsE, gl_c]
      cases a with
      | nil => rfl
      | cons r p =>
        have hr : r.ok = true := aok_all (hp.1 (r :: p) (by simp)) r (by simp)
        have hf : callI tE f_impl_ReceiverFor [.int r.k, .int r.v, .int r.w, .int (lenI (que.map rsE))] = some [.int (recv r que.length)] := by rw [lenI_map, iRecvFor]
        obtain ⟨r0, r1⟩ := recv_ok (n := que.length) hp.2.2.1 hr
        obtain ⟨m, hm⟩ : ∃ m : Nat, recv r que.length = m := ⟨(recv r que.length).toNat, by omega⟩
        rw [hm] at r1
        have hr0 : (Rw.e r) = [.int r.k, .int r.v, .int r.w] := rfl
        simp only [ne_0, in_0, cond_true, cond_false, head_at, hr0, gn_c, gb_c, gs_c, gl_c, tk_s, tk_0, List.drop_succ_cons, List.drop_zero, List.headD_cons, List.getD_cons_zero, List.getD_cons_succ, bind_s, hf, hm, Int.toNat_natCast]
        obtain ⟨u2, q, v2, rfl, rfl⟩ := split_at (show m < que.length by omega)
        have hq : q.length ≤ 1073741824 := Nat.le_trans (szL_mem' (by simp)) hb.2.1
        rw [in_m, at_m, getD_m]
        simp only [cond_true, rsE, gl_c]
        rw [lenI_map]
        by_cases hc : (q.length : Int) = cap
        · rw [eqT hc, cond_true, if_pos hc]; rfl
        · rw [eqF hc, cond_false, if_neg hc, leT (by omega), le_1, eqI_self, eqI_self, len_map, show fitM (Nat.succ q.length) 24 = true from fitT (by omega)]
          simp only [cond_true, Bool.and_self]
          rw [cut_tail, row_app, upd_rs, map_rs, upd_rs, map_rs, set_m, set_m]
          rfl
    · rw [show sendX x i = _ from if_neg (fun q => hi ⟨q.2.1, q.2.2⟩), hv, Bool.not_true, cond_false, hw]
      simp only [gn_c, gb_c, gs_c, gl_c, tk_s, tk_0, List.drop_succ_cons, List.drop_zero, List.headD_cons, List.getD_cons_zero, List.getD_cons_succ, bind_s]
      rw [decide_eq_false hi]; rfl
  · rw [show sendX x i = _ from if_neg (fun q => hv q.1), (Bool.not_eq_true _).mp hv]; rfl
theorem sSend (x : Xc) (i : Int) (h : x.B2) : callI tE f_spec_SendRow [.sl (x.pend.map rsE), .sl (x.que.map rsE), .sl (x.got.map rsE), .int x.cap, .int i] = some (XB (sendX x i)) := by
  have hb := h.b.p
  have hl := szL_len List.length x.pend
  have hw : callI tE f_spec_l1In [.int i, .int 0, .int (w64 (lenI (x.pend.map rsE) - 1))] = some [.bool (decide (0 ≤ i ∧ i < x.pend.length))] := by rw [lenI_map, l1In_ok, win_len (by omega)]
  rw [c_spec_SendRow, sCopyX x h.b]
  simp only [gn_c, gb_c, gs_c, gl_c, tk_s, tk_0, List.drop_succ_cons, List.drop_zero, List.headD_cons, List.getD_cons_zero, List.getD_cons_succ, bind_s]
  rw [sValidX x h]
  simp only [gn_c, gb_c, gs_c, gl_c, tk_s, tk_0, List.drop_succ_cons, List.drop_zero, List.headD_cons, List.getD_cons_zero, List.getD_cons_succ, bind_s]
  by_cases hv : exOk x = true
  · have hp := exOk_p hv
    by_cases hi : 0 ≤ i ∧ i < x.pend.length
    · rw [show sendX x i = _ from if_pos ⟨hv, hi.1, hi.2⟩, hv, Bool.not_true, cond_false, hw]
      simp only [gn_c, gb_c, gs_c, gl_c, tk_s, tk_0, List.drop_succ_cons, List.drop_zero, List.headD_cons, List.getD_cons_zero, List.getD_cons_succ, bind_s]
      rw [decide_eq_true hi, Bool.not_true, cond_false]
      obtain ⟨n, rfl⟩ : ∃ n : Nat, i = n := ⟨i.toNat, by omega⟩
      clear hw
      obtain ⟨pend, que, got, cap⟩ := x
      simp only at *
      obtain ⟨u, a, v, rfl, rfl⟩ := split_at (show n < pend.length by omega)
      rw [in_m, tn_c, at_m, Int.toNat_natCast, getD_m]
      simp only [cond_true, rsE, gl_c]
      cases a with
      | nil => rfl
      | cons r p =>
        have hr : r.ok = true := aok_all (hp.1 (r :: p) (by simp)) r (by simp)
        have hf : callI tE f_spec_ReceiverFor [.int r.k, .int r.v, .int r.w, .int (lenI (que.map rsE))] = some [.int (recv r que.length)] := by rw [lenI_map, sRecvFor]
        obtain ⟨r0, r1⟩ := recv_ok (n := que.length) hp.2.2.1 hr
        obtain ⟨m, hm⟩ : ∃ m : Nat, recv r que.length = m := ⟨(recv r que.length).toNat, by omega⟩
        rw [hm] at r1
        have hr0 : (Rw.e r) = [.int r.k, .int r.v, .int r.w] := rfl
        simp only [ne_0, in_0, cond_true, cond_false, head_at, hr0, gn_c, gb_c, gs_c, gl_c, tk_s, tk_0, List.drop_succ_cons, List.drop_zero, List.headD_cons, List.getD_cons_zero, List.getD_cons_succ, bind_s, hf, hm, Int.toNat_natCast]
        obtain ⟨u2, q, v2, rfl, rfl⟩ := split_at (show m < que.length by omega)
        have hq : q.length ≤ 1073741824 := Nat.le_trans (szL_mem' (by simp)) hb.2.1
        rw [in_m, at_m, getD_m]
        simp only [cond_true, rsE, gl_c]
        rw [lenI_map]
        by_cases hc : (q.length : Int) = cap
        · rw [eqT hc, cond_true, if_pos hc]; rfl
        · rw [eqF hc, cond_false, if_neg hc, leT (by omega), le_1, eqI_self, eqI_self, len_map, show fitM (Nat.succ q.length) 24 = true from fitT (by omega)]
          simp only [cond_true, Bool.and_self]
          rw [cut_tail, row_app, upd_rs, map_rs, upd_rs, map_rs, set_m, set_m]
          rfl
    · rw [show sendX x i = _ from if_neg (fun q => hi ⟨q.2.1, q.2.2⟩), hv, Bool.not_true, cond_false, hw]
      simp only [gn_c, gb_c, gs_c, gl_c, tk_s, tk_0, List.drop_succ_cons, List.drop_zero, List.headD_cons, List.getD_cons_zero, List.getD_cons_succ, bind_s]
      rw [decide_eq_false hi]; rfl
  · rw [show sendX x i = _ from if_neg (fun q => hv q.1), (Bool.not_eq_true _).mp hv]; rfl
theorem iRecv (x : Xc) (i : Int) (h : x.B2) : callI tE f_impl_ReceiveRow [.sl (x.pend.map rsE), .sl (x.que.map rsE), .sl (x.got.map rsE), .int x.cap, .int i] = some (XB (recvX x i)) := by
  have hb := h.b.p
  have hl := szL_len List.length x.que
  have hw : callI tE f_impl_within [.int i, .int 0, .int (w64 (lenI (x.que.map rsE) - 1))] = some [.bool (decide (0 ≤ i ∧ i < x.que.length))] := by rw [lenI_map, within_ok, win_len (by omega)]
  rw [c_impl_ReceiveRow, iCloneX x h.b]
  simp only [gn_c, gb_c, gs_c, gl_c, tk_s, tk_0, List.drop_succ_cons, List.drop_zero, List.headD_cons, List.getD_cons_zero, List.getD_cons_succ, bind_s]
  rw [iValidX x h]
  simp only [gn_c, gb_c, gs_c, gl_c, tk_s, tk_0, List.drop_succ_cons, List.drop_zero, List.headD_cons, List.getD_cons_zero, List.getD_cons_succ, bind_s]
  by_cases hv : exOk x = true
  · have hp := exOk_p hv
    by_cases hi : 0 ≤ i ∧ i < x.que.length
    · rw [show recvX x i = _ from if_pos ⟨hv, hi.1, hi.2⟩, hv, Bool.not_true, cond_false, hw]
      simp only [gn_c, gb_c, gs_c, gl_c, tk_s, tk_0, List.drop_succ_cons, List.drop_zero, List.headD_cons, List.getD_cons_zero, List.getD_cons_succ, bind_s]
      rw [decide_eq_true hi, Bool.not_true, cond_false]
      obtain ⟨n, rfl⟩ : ∃ n : Nat, i = n := ⟨i.toNat, by omega⟩
      clear hw
      obtain ⟨pend, que, got, cap⟩ := x
      simp only at *
      obtain ⟨u2, g, v2, rfl, hu2⟩ := split_at (show n < got.length by omega)
      obtain ⟨u, a, v, rfl, rfl⟩ := split_at (show n < que.length by omega)
      have hg : g.length ≤ 1073741824 := Nat.le_trans (szL_mem' (by simp)) hb.2.2
      have g1 : inR (u.length : Int) (lenI ((u2 ++ g :: v2).map rsE)) = true := by rw [← hu2]; exact in_m u2 v2 g
      have g2 : at' ((u2 ++ g :: v2).map rsE) u.length = rsE g := by rw [← hu2]; exact at_m u2 v2 g
      have g3 : (u2 ++ g :: v2).getD u.length [] = g := by rw [← hu2]; exact getD_m u2 v2 g []
      rw [in_m, tn_c, at_m, Int.toNat_natCast, getD_m, g1, g2, g3]
      simp only [cond_true, rsE, gl_c]
      cases a with
      | nil => rfl
      | cons r p =>
        have hr0 : (Rw.e r) = [.int r.k, .int r.v, .int r.w] := rfl
        simp only [ne_0, in_0, cond_true, cond_false, head_at, hr0, gn_c, gb_c, gs_c, gl_c, tk_s, tk_0, List.drop_succ_cons, List.drop_zero, List.headD_cons, List.getD_cons_zero, List.getD_cons_succ, bind_s]
        rw [leT (by omega), le_1, eqI_self, len_map, show fitM (Nat.succ g.length) 24 = true from fitT (by omega)]
        simp only [cond_true, Bool.and_self]
        have g4 : ∀ X : Rows, updR ((u2 ++ g :: v2).map rsE) u.length 0 [.sl X] = u2.map rsE ++ [.sl X] :: v2.map rsE := fun X => by rw [← hu2]; exact upd_rs u2 v2 g X
        have g5 : ∀ b : List Rw, (u2 ++ g :: v2).set u.length b = u2 ++ b :: v2 := fun b => by rw [← hu2]; exact set_m u2 v2 g b
        rw [cut_tail, row_app, upd_rs, map_rs, set_m, g4, map_rs, g5]
        rfl
    · rw [show recvX x i = _ from if_neg (fun q => hi ⟨q.2.1, q.2.2⟩), hv, Bool.not_true, cond_false, hw]
      simp only [gn_c, gb_c, gs_c, gl_c, tk_s, tk_0, List.drop_succ_cons, List.drop_zero, List.headD_cons, List.getD_cons_zero, List.getD_cons_succ, bind_s]
      rw [decide_eq_false hi]; rfl
  · rw [show recvX x i = _ from if_neg (fun q => hv q.1), (Bool.not_eq_true _).mp hv]; rfl
theorem sRecv (x : Xc) (i : Int) (h : x.B2) : callI tE f_spec_ReceiveRow [.sl (x.pend.map rsE), .sl (x.que.map rsE), .sl (x.got.map rsE), .int x.cap, .int i] = some (XB (recvX x i)) := by
  have hb := h.b.p
  have hl := szL_len List.length x.que
  have hw : callI tE f_spec_l1In [.int i, .int 0, .int (w64 (lenI (x.que.map rsE) - 1))] = some [.bool (decide (0 ≤ i ∧ i < x.que.length))] := by rw [lenI_map, l1In_ok, win_len (by omega)]
  rw [c_spec_ReceiveRow, sCopyX x h.b]
  simp only [gn_c, gb_c, gs_c, gl_c, tk_s, tk_0, List.drop_succ_cons, List.drop_zero, List.headD_cons, List.getD_cons_zero, List.getD_cons_succ, bind_s]
  rw [sValidX x h]
  simp only [gn_c, gb_c, gs_c, gl_c, tk_s, tk_0, List.drop_succ_cons, List.drop_zero, List.headD_cons, List.getD_cons_zero, List.getD_cons_succ, bind_s]
  by_cases hv : exOk x = true
  · have hp := exOk_p hv
    by_cases hi : 0 ≤ i ∧ i < x.que.length
    · rw [show recvX x i = _ from if_pos ⟨hv, hi.1, hi.2⟩, hv, Bool.not_true, cond_false, hw]
      simp only [gn_c, gb_c, gs_c, gl_c, tk_s, tk_0, List.drop_succ_cons, List.drop_zero, List.headD_cons, List.getD_cons_zero, List.getD_cons_succ, bind_s]
      rw [decide_eq_true hi, Bool.not_true, cond_false]
      obtain ⟨n, rfl⟩ : ∃ n : Nat, i = n := ⟨i.toNat, by omega⟩
      clear hw
      obtain ⟨pend, que, got, cap⟩ := x
      simp only at *
      obtain ⟨u2, g, v2, rfl, hu2⟩ := split_at (show n < got.length by omega)
      obtain ⟨u, a, v, rfl, rfl⟩ := split_at (show n < que.length by omega)
      have hg : g.length ≤ 1073741824 := Nat.le_trans (szL_mem' (by simp)) hb.2.2
      have g1 : inR (u.length : Int) (lenI ((u2 ++ g :: v2).map rsE)) = true := by rw [← hu2]; exact in_m u2 v2 g
      have g2 : at' ((u2 ++ g :: v2).map rsE) u.length = rsE g := by rw [← hu2]; exact at_m u2 v2 g
      have g3 : (u2 ++ g :: v2).getD u.length [] = g := by rw [← hu2]; exact getD_m u2 v2 g []
      rw [in_m, tn_c, at_m, Int.toNat_natCast, getD_m, g1, g2, g3]
      simp only [cond_true, rsE, gl_c]
      cases a with
      | nil => rfl
      | cons r p =>
        have hr0 : (Rw.e r) = [.int r.k, .int r.v, .int r.w] := rfl
        simp only [ne_0, in_0, cond_true, cond_false, head_at, hr0, gn_c, gb_c, gs_c, gl_c, tk_s, tk_0, List.drop_succ_cons, List.drop_zero, List.headD_cons, List.getD_cons_zero, List.getD_cons_succ, bind_s]
        rw [leT (by omega), le_1, eqI_self, len_map, show fitM (Nat.succ g.length) 24 = true from fitT (by omega)]
        simp only [cond_true, Bool.and_self]
        have g4 : ∀ X : Rows, updR ((u2 ++ g :: v2).map rsE) u.length 0 [.sl X] = u2.map rsE ++ [.sl X] :: v2.map rsE := fun X => by rw [← hu2]; exact upd_rs u2 v2 g X
        have g5 : ∀ b : List Rw, (u2 ++ g :: v2).set u.length b = u2 ++ b :: v2 := fun b => by rw [← hu2]; exact set_m u2 v2 g b
        rw [cut_tail, row_app, upd_rs, map_rs, set_m, g4, map_rs, g5]
        rfl
    · rw [show recvX x i = _ from if_neg (fun q => hi ⟨q.2.1, q.2.2⟩), hv, Bool.not_true, cond_false, hw]
      simp only [gn_c, gb_c, gs_c, gl_c, tk_s, tk_0, List.drop_succ_cons, List.drop_zero, List.headD_cons, List.getD_cons_zero, List.getD_cons_succ, bind_s]
      rw [decide_eq_false hi]; rfl
  · rw [show recvX x i = _ from if_neg (fun q => hv q.1), (Bool.not_eq_true _).mp hv]; rfl
theorem szL_zip (u v : List (List Rw)) (a : List Rw) : szL List.length (u ++ a :: v) = szL List.length u + (1 + a.length + szL List.length v) := by
  rw [szL_split]; simp only [szL]
theorem sendX_sz (x : Xc) (i : Int) : (sendX x i).1.sz = x.sz := by
  unfold sendX
  split
  · rename_i h
    obtain ⟨hv, h0, h1⟩ := h
    have hp := exOk_p hv
    obtain ⟨pend, que, got, cap⟩ := x
    simp only at *
    obtain ⟨n, rfl⟩ : ∃ n : Nat, i = n := ⟨i.toNat, by omega⟩
    obtain ⟨u, a, v, rfl, rfl⟩ := split_at (show n < pend.length by omega)
    rw [Int.toNat_natCast, getD_m]
    cases a with
    | nil => rfl
    | cons r p =>
      have hr : r.ok = true := aok_all (hp.1 (r :: p) (by simp)) r (by simp)
      obtain ⟨r0, r1⟩ := recv_ok (n := que.length) hp.2.2.1 hr
      obtain ⟨m, hm⟩ : ∃ m : Nat, recv r que.length = m := ⟨(recv r que.length).toNat, by omega⟩
      rw [hm] at r1
      simp only [hm, Int.toNat_natCast]
      obtain ⟨u2, q, v2, rfl, rfl⟩ := split_at (show m < que.length by omega)
      rw [getD_m]
      split
      · rfl
      · simp only [Xc.sz, set_m, szL_zip, List.length_append, List.length_cons, List.length_nil]; omega
  · rfl
theorem recvX_sz (x : Xc) (i : Int) : (recvX x i).1.sz = x.sz := by
  unfold recvX
  split
  · rename_i h
    obtain ⟨hv, h0, h1⟩ := h
    have hp := exOk_p hv
    obtain ⟨pend, que, got, cap⟩ := x
    simp only at *
    obtain ⟨n, rfl⟩ : ∃ n : Nat, i = n := ⟨i.toNat, by omega⟩
    obtain ⟨u2, g, v2, rfl, hu2⟩ := split_at (show n < got.length by omega)
    obtain ⟨u, a, v, rfl, rfl⟩ := split_at (show n < que.length by omega)
    have g3 : (u2 ++ g :: v2).getD u.length [] = g := by rw [← hu2]; exact getD_m u2 v2 g []
    have g5 : ∀ b : List Rw, (u2 ++ g :: v2).set u.length b = u2 ++ b :: v2 := fun b => by rw [← hu2]; exact set_m u2 v2 g b
    rw [Int.toNat_natCast, getD_m]
    cases a with
    | nil => rfl
    | cons r p => simp only [Xc.sz, set_m, g3, g5, szL_zip, List.length_append, List.length_cons, List.length_nil]; omega
  · rfl
end Go.Proofs.Ytbmafhpbinjgaaa.Vai
