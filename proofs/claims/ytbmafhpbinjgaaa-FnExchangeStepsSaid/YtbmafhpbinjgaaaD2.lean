/- Draws: exchanges; no condition. -/
import Derived.Test.YtbmafhpbinjgaaaD1
import Derived.Test.YtbmafhpbinjgaaaP11
namespace Go.Proofs.Ytbmafhpbinjgaaa.Vai
open Go
set_option linter.unusedSimpArgs false
set_option linter.unusedVariables false
set_option linter.unnecessarySimpa false
set_option maxRecDepth 10000
/-- lists of rows that are drawn -/
def Fr (p : List (List Rw)) : Prop := 1 ≤ p.length ∧ p.length ≤ 3 ∧ ∀ l ∈ p, l.length ≤ 6
theorem Fr.sz {p : List (List Rw)} (h : Fr p) : szL List.length p ≤ 21 := by
  obtain ⟨h1, h2, h3⟩ := h
  match p, h1, h2, h3 with
  | [a], _, _, h3 =>
    have := h3 a (by simp)
    simp only [szL]; omega
  | [a, b], _, _, h3 =>
    have := h3 a (by simp)
    have := h3 b (by simp)
    simp only [szL]; omega
  | [a, b, c], _, _, h3 =>
    have := h3 a (by simp)
    have := h3 b (by simp)
    have := h3 c (by simp)
    simp only [szL]; omega
theorem dFromL {b : Rows} (z : Int) : ∀ (n : Nat) (i h : Int) (acc : List (List Rw)), Cu b i → acc.length + n ≤ 3 → (∀ l ∈ acc, aok l = true ∧ l.length ≤ 5) →
    ∃ (p : List (List Rw)) (i' h' : Int), L_spec_l26From_0 z n b i h (acc.map rsE) = some [.sl (p.map rsE), .sl b, .int i', .int h'] ∧ Cu b i' ∧ (∀ l ∈ p, aok l = true ∧ l.length ≤ 5) ∧ p.length = acc.length + n
  | 0, i, h, acc, c, _, ha => by
    rw [L_spec_l26From_0_eq, ltF (by omega), cond_false]
    exact ⟨acc, i, h, rfl, c, ha, rfl⟩
  | n + 1, i, h, acc, c, hl, ha => by
    obtain ⟨l, i1, h1, e1, c1, hr, hl5⟩ := dRows (h := h) 5 c (by omega) (by omega)
    rw [L_spec_l26From_0_eq, ltT (by omega), cond_true, e1]
    simp only [gn_c, gb_c, gs_c, gl_c, tk_s, tk_0, List.drop_succ_cons, List.drop_zero, List.headD_cons, List.getD_cons_zero, List.getD_cons_succ, bind_s, len_map]
    rw [show fitM (Nat.succ acc.length) 24 = true from fitT (by omega), cond_true, rs_app, show w64 (((n + 1 : Nat) : Int) - 1) = (n : Int) by rw [w64_id ⟨by omega, by omega⟩]; omega]
    obtain ⟨p, i', h', e2, c2, hp, hpl⟩ := dFromL z n i1 h1 (acc ++ [l]) c1 (by simp; omega) (fun x hx => by
      simp only [List.mem_append, List.mem_cons, List.not_mem_nil, or_false] at hx
      rcases hx with hx | rfl
      · exact ha x hx
      · exact ⟨aok_iff.mpr ⟨by omega, hr⟩, by omega⟩)
    exact ⟨p, i', h', e2, c2, hp, by rw [hpl]; simp; omega⟩
theorem dFrom {b : Rows} {i h : Int} (c : Cu b i) : ∃ (p : List (List Rw)) (i' h' : Int), callI tE f_spec_l26From [.sl b, .int i, .int h] = some [.sl (p.map rsE), .sl b, .int i', .int h'] ∧ Cu b i' ∧ (∀ l ∈ p, aok l = true ∧ l.length ≤ 5) ∧ 1 ≤ p.length ∧ p.length ≤ 3 := by
  obtain ⟨r, i1, h1, e1, c1, p1, q1, _⟩ := dBelow (h := h) 3 c
  have := q1 (by omega)
  rw [c_spec_l26From, e1]
  simp only [gn_c, gb_c, gs_c, gl_c, tk_s, tk_0, List.drop_succ_cons, List.drop_zero, List.headD_cons, List.getD_cons_zero, List.getD_cons_succ, bind_s]
  obtain ⟨m, rfl⟩ : ∃ m : Nat, r = m := ⟨r.toNat, by omega⟩
  rw [show w64 (1 + (m : Int)) = ((m + 1 : Nat) : Int) by rw [w64_id ⟨by omega, by omega⟩]; omega]
  obtain ⟨p, i', h', e2, c2, hp, hpl⟩ := dFromL 0 (m + 1) i1 h1 [] c1 (by simp; omega) (by simp)
  exact ⟨p, i', h', e2, c2, hp, by rw [hpl]; simp, by rw [hpl]; simp; omega⟩
/-- an exchange that is drawn -/
def Xs (n : Nat) (x : Xc) : Prop := x.sz ≤ n ∧ 1 ≤ x.que.length ∧ 1 ≤ x.got.length
theorem sendX_l (x : Xc) (i : Int) : (sendX x i).1.que.length = x.que.length ∧ (sendX x i).1.got.length = x.got.length := by
  unfold sendX
  split
  · split
    · exact ⟨rfl, rfl⟩
    · split
      · exact ⟨rfl, rfl⟩
      · exact ⟨List.length_set, rfl⟩
  · exact ⟨rfl, rfl⟩
theorem recvX_l (x : Xc) (i : Int) : (recvX x i).1.que.length = x.que.length ∧ (recvX x i).1.got.length = x.got.length := by
  unfold recvX
  split
  · split
    · exact ⟨rfl, rfl⟩
    · exact ⟨List.length_set, List.length_set⟩
  · exact ⟨rfl, rfl⟩
theorem dExchL {b : Rows} {x0 x1 x2 x7 : Int} {A B C : Rows} : ∀ (n : Nat) (i h : Int) (x : Xc), Cu b i → n ≤ 100 → Xs 100 x →
    ∃ (y : Xc) (i' h' : Int), L_spec_l26Exch_0 x0 x1 x2 n b i h x7 x.cap A B C (x.pend.map rsE) (x.que.map rsE) (x.got.map rsE) = some [.sl (y.pend.map rsE), .sl (y.que.map rsE), .sl (y.got.map rsE), .int y.cap, .sl b, .int i', .int h'] ∧ Cu b i' ∧ y.sz ≤ 101
  | 0, i, h, x, c, _, hx => by
    obtain ⟨t, i1, h1, e1, c1, _⟩ := dBelow (h := h) 14 c
    obtain ⟨k, i2, h2, e2, c2, _⟩ := dPickInt (h := h1) [[.int 0], [.int 10]] (fun _ => true) (by decide) rfl c1
    obtain ⟨r, i3, h3, e3, c3, _⟩ := dRow (h := h1) 10 c1 (by omega) (by omega)
    obtain ⟨z1, z2, z3⟩ := hx
    obtain ⟨pend, que, got, cap⟩ := x
    simp only [Xc.sz] at z1 z2 z3
    rw [L_spec_l26Exch_0_eq, ltF (by omega), cond_false, e1]
    simp only [gn_c, gb_c, gs_c, gl_c, tk_s, tk_0, List.drop_succ_cons, List.drop_zero, List.headD_cons, List.getD_cons_zero, List.getD_cons_succ, bind_s, e2, e3]
    cases eqI t 0
    · cases eqI t 1
      · cases eqI t 2
        · exact ⟨⟨pend, que, got, cap⟩, i1, h1, rfl, c1, by simp only [Xc.sz]; omega⟩
        · cases got with
          | nil => simp at z3
          | cons g gs =>
            have hg : lenI ((g :: gs).map rsE) = ((gs.length + 1 : Nat) : Int) := by rw [lenI_map]; simp
            have ht : List.take (tn (((gs.length + 1 : Nat) : Int) - 1)) (List.drop (tn 1) ((g :: gs).map rsE)) = gs.map rsE := by
              show List.take (((gs.length + 1 : Nat) : Int) - 1).toNat (List.drop 1 (rsE g :: gs.map rsE)) = _
              rw [show (((gs.length + 1 : Nat) : Int) - 1).toNat = gs.length by omega]
              simp [List.take_of_length_le]
            rw [cond_false, cond_false, cond_true, hg, leT (show (0 : Int) ≤ 1 by omega), leT (show (1 : Int) ≤ ((gs.length + 1 : Nat) : Int) by omega), Bool.and_self, cond_true, ht]
            refine ⟨⟨pend, que, gs, cap⟩, i1, h1, rfl, c1, ?_⟩
            simp only [szL] at z1
            simp only [Xc.sz]; omega
      · cases que with
        | nil => simp at z2
        | cons q qs =>
          have hq : q.length ≤ 100 := by simp only [szL] at z1; omega
          have hin : inR 0 (lenI ((q :: qs).map rsE)) = true := inRT (by omega) (by rw [lenI_map]; (first | omega | (simp only [List.length_append, List.length_cons, List.length_nil, List.length_map, List.length_take, List.length_drop, List.length_replicate, szI_S] at * <;> omega)))
          have hat : at' ((q :: qs).map rsE) (tn 0) = rsE q := rfl
          have hup : ∀ X : Rows, updR ((q :: qs).map rsE) (tn 0) 0 [.sl X] = [.sl X] :: qs.map rsE := fun X => upd_rs [] qs q X
          rw [cond_false, cond_true, hin, cond_true]
          simp only [hat, rsE, gn_c, gb_c, gs_c, gl_c, tk_s, tk_0, List.drop_succ_cons, List.drop_zero, List.headD_cons, List.getD_cons_zero, List.getD_cons_succ, bind_s, len_map]
          rw [show fitM (Nat.succ q.length) 24 = true from fitT (by omega), cond_true]
          refine ⟨⟨pend, (q ++ [r]) :: qs, got, cap⟩, i3, h3, ?_, c3, ?_⟩
          · rw [cond_true, hup, row_app]; rfl
          · simp only [szL] at z1
            simp only [Xc.sz, szL, List.length_append, List.length_cons, List.length_nil]; omega
    · exact ⟨⟨pend, que, got, k⟩, i2, h2, rfl, c2, by simp only [Xc.sz]; omega⟩
  | n + 1, i, h, x, c, hn, hx => by
    obtain ⟨t, i1, h1, e1, c1⟩ := dOnce (h := h) 2 c
    obtain ⟨k, i2, h2, e2, c2, _⟩ := dBelow (h := h1) 3 c1
    have hb2 : x.B2 := by have := hx.1; unfold Xc.B2; omega
    have e3 := sSend x k hb2
    have e4 := sRecv x k hb2
    have l1 := sendX_l x k
    have l2 := recvX_l x k
    have s1 := sendX_sz x k
    have s2 := recvX_sz x k
    have hw : w64 (((n + 1 : Nat) : Int) - 1) = (n : Int) := by rw [w64_id ⟨by omega, by omega⟩]; omega
    rw [L_spec_l26Exch_0_eq, ltT (by omega), cond_true, e1]
    simp only [gn_c, gb_c, gs_c, gl_c, tk_s, tk_0, List.drop_succ_cons, List.drop_zero, List.headD_cons, List.getD_cons_zero, List.getD_cons_succ, bind_s, e2, e3, e4, XB, hw]
    cases t
    · rw [cond_false]
      exact dExchL n i2 h2 (recvX x k).1 c2 (by omega) ⟨by rw [s2]; exact hx.1, by rw [l2.1]; exact hx.2.1, by rw [l2.2]; exact hx.2.2⟩
    · rw [cond_true]
      exact dExchL n i2 h2 (sendX x k).1 c2 (by omega) ⟨by rw [s1]; exact hx.1, by rw [l1.1]; exact hx.2.1, by rw [l1.2]; exact hx.2.2⟩
theorem szL_rep' (n : Nat) : szL List.length (List.replicate n ([] : List Rw)) = n := by
  induction n with
  | zero => rfl
  | succ n ih => simp only [List.replicate_succ, szL, ih, List.length_nil]; omega
theorem dExch {b : Rows} {i h : Int} (c : Cu b i) : ∃ (y : Xc) (i' h' : Int), callI tE f_spec_l26Exch [.sl b, .int i, .int h] = some [.sl (y.pend.map rsE), .sl (y.que.map rsE), .sl (y.got.map rsE), .int y.cap, .sl b, .int i', .int h'] ∧ Cu b i' ∧ y.sz ≤ 101 := by
  obtain ⟨p, i1, h1, e1, c1, hp, hp1, hp3⟩ := dFrom (h := h) c
  obtain ⟨r, i2, h2, e2, c2, r1, r2, _⟩ := dBelow (h := h1) 3 c1
  obtain ⟨k, i3, h3, e3, c3, k1, k2, _⟩ := dBelow (h := h2) 3 c2
  obtain ⟨n, i4, h4, e4, c4, n1, n2, _⟩ := dBelow (h := h3) 9 c3
  have := r2 (by omega)
  have := k2 (by omega)
  have := n2 (by omega)
  have hsz : szL List.length p ≤ 21 := Fr.sz ⟨hp1, hp3, fun l hl => by have := (hp l hl).2; omega⟩
  have w1 : w64 (1 + r) = 1 + r := w64_id ⟨by omega, by omega⟩
  have w2 : w64 (1 + k) = 1 + k := w64_id ⟨by omega, by omega⟩
  have e5 := sNewX p (1 + r) (1 + k) (by omega)
  have hNX : NX p (1 + r) (1 + k) = (⟨p, List.replicate (1 + r).toNat [], List.replicate (1 + r).toNat [], 1 + k⟩, true) := by
    unfold NX
    rw [if_pos ⟨by unfold sendOk; rw [Bool.and_eq_true]; exact ⟨List.all_eq_true.mpr fun l hl => (hp l hl).1, win_iff.mpr ⟨by omega, by omega⟩⟩, win_iff.mpr ⟨by omega, by omega⟩, win_iff.mpr ⟨by omega, by omega⟩⟩]
  rw [hNX] at e5
  rw [c_spec_l26Exch, e1]
  simp only [gn_c, gb_c, gs_c, gl_c, tk_s, tk_0, List.drop_succ_cons, List.drop_zero, List.headD_cons, List.getD_cons_zero, List.getD_cons_succ, bind_s, e2, e3, e4, w1, w2, e5, XB]
  obtain ⟨m, rfl⟩ : ∃ m : Nat, n = m := ⟨n.toNat, by omega⟩
  exact dExchL m i4 h4 ⟨p, List.replicate (1 + r).toNat [], List.replicate (1 + r).toNat [], 1 + k⟩ c4 (by omega) ⟨by
    simp only [Xc.sz, szL_rep']; omega, by simp; omega, by simp; omega⟩
theorem dDrawRunX (x : Rows) (hx : x.length ≤ 1048576) : ∃ (y : Xc) (l : List Int), callI tE f_spec_DrawRunExchange [.sl x] = some [.sl (y.pend.map rsE), .sl (y.que.map rsE), .sl (y.got.map rsE), .int y.cap, .sl (l.map intE)] ∧ y.sz ≤ 101 := by
  obtain ⟨h0, e0, c0⟩ := dNew x hx
  obtain ⟨y, i1, h1, e1, c1, hy⟩ := dExch (h := h0) c0
  obtain ⟨n, i2, h2, e2, c2, n1, n2, _⟩ := dBelow (h := h1) 5 c1
  have := n2 (by omega)
  obtain ⟨m, rfl⟩ : ∃ m : Nat, n = m := ⟨n.toNat, by omega⟩
  have key : ∀ (n : Nat) (i h : Int) (acc : List Int), Cu x i → acc.length + n ≤ 100 → ∀ (x0 x1 x2 x4 : Int) (A B C : Rows), ∃ l : List Int, L_spec_DrawRunExchange_0 x0 x1 x2 n x4 x i h y.cap (acc.map intE) A B C (y.pend.map rsE) (y.que.map rsE) (y.got.map rsE) = some [.sl (y.pend.map rsE), .sl (y.que.map rsE), .sl (y.got.map rsE), .int y.cap, .sl (l.map intE)] := by
    intro n
    induction n with
    | zero =>
      intro i h acc c hl x0 x1 x2 x4 A B C
      rw [L_spec_DrawRunExchange_0_eq, ltF (by omega), cond_false]
      exact ⟨acc, rfl⟩
    | succ n ih =>
      intro i h acc c hl x0 x1 x2 x4 A B C
      obtain ⟨r, i1, h1, e1, c1, _⟩ := dBelow (h := h) 9 c
      rw [L_spec_DrawRunExchange_0_eq, ltT (by omega), cond_true, e1]
      simp only [gn_c, gb_c, gs_c, gl_c, tk_s, tk_0, List.drop_succ_cons, List.drop_zero, List.headD_cons, List.getD_cons_zero, List.getD_cons_succ, bind_s, len_map]
      rw [show fitM (Nat.succ acc.length) 8 = true from fitT (by omega), cond_true, show w64 (((n + 1 : Nat) : Int) - 1) = (n : Int) by rw [w64_id ⟨by omega, by omega⟩]; omega, show List.append (acc.map intE) [[Dat.int (w64 (r - 2))]] = (acc ++ [w64 (r - 2)]).map intE by simp [intE]]
      exact ih i1 h1 (acc ++ [w64 (r - 2)]) c1 (by simp; omega) _ _ _ _ _ _ _
  rw [c_spec_DrawRunExchange]
  simp only [e0, e1, e2, gn_c, gb_c, gs_c, gl_c, tk_s, tk_0, List.drop_succ_cons, List.drop_zero, List.headD_cons, List.getD_cons_zero, List.getD_cons_succ, bind_s]
  obtain ⟨l, hl⟩ := key m i2 h2 [] c2 (by simp; omega) 0 0 0 0 [] [] []
  exact ⟨y, l, hl, hy⟩
theorem dDrawSend (x : Rows) (hx : x.length ≤ 1048576) : ∃ (y : Xc) (i : Int), callI tE f_spec_DrawSendRow [.sl x] = some [.sl (y.pend.map rsE), .sl (y.que.map rsE), .sl (y.got.map rsE), .int y.cap, .int i] ∧ y.sz ≤ 101 := by
  obtain ⟨h0, e0, c0⟩ := dNew x hx
  obtain ⟨y, i1, h1, e1, c1, hy⟩ := dExch (h := h0) c0
  obtain ⟨n, i2, h2, e2, c2, _⟩ := dBelow (h := h1) 5 c1
  rw [c_spec_DrawSendRow]
  simp only [e0, e1, e2, gn_c, gb_c, gs_c, gl_c, tk_s, tk_0, List.drop_succ_cons, List.drop_zero, List.headD_cons, List.getD_cons_zero, List.getD_cons_succ, bind_s]
  exact ⟨y, _, rfl, hy⟩
theorem dDrawRecv (x : Rows) (hx : x.length ≤ 1048576) : ∃ (y : Xc) (i : Int), callI tE f_spec_DrawReceiveRow [.sl x] = some [.sl (y.pend.map rsE), .sl (y.que.map rsE), .sl (y.got.map rsE), .int y.cap, .int i] ∧ y.sz ≤ 101 := by
  obtain ⟨y, i, e, hy⟩ := dDrawSend x hx
  rw [c_spec_DrawReceiveRow]
  simp only [e, gn_c, gb_c, gs_c, gl_c, tk_s, tk_0, List.drop_succ_cons, List.drop_zero, List.headD_cons, List.getD_cons_zero, List.getD_cons_succ, bind_s]
  exact ⟨y, _, rfl, hy⟩
theorem dDrawNewX (x : Rows) (hx : x.length ≤ 1048576) : ∃ (p : List (List Rw)) (r k : Int), callI tE f_spec_DrawNewExchange [.sl x] = some [.sl (p.map rsE), .int r, .int k] ∧ szL List.length p ≤ 22 := by
  obtain ⟨h0, e0, c0⟩ := dNew x hx
  obtain ⟨p, i1, h1, e1, c1, hp, hp1, hp3⟩ := dFrom (h := h0) c0
  have hsz : szL List.length p ≤ 21 := Fr.sz ⟨hp1, hp3, fun l hl => by have := (hp l hl).2; omega⟩
  obtain ⟨t, i2, h2, e2, c2, _⟩ := dBelow (h := h1) 8 c1
  obtain ⟨r, i3, h3, e3, c3, _⟩ := dBelow (h := h2) 5 c2
  obtain ⟨k, i4, h4, e4, c4, _⟩ := dPickInt (h := h3) [[.int 0], [.int 1], [.int 2], [.int 9], [.int 10]] (fun _ => true) (by decide) rfl c3
  obtain ⟨a, i5, h5, e5, c5, _⟩ := dAny (h := h2) c2
  obtain ⟨r', i6, h6, e6, c6, _⟩ := dBelow (h := h5) 5 c5
  obtain ⟨k', i7, h7, e7, c7, _⟩ := dPickInt (h := h6) [[.int 0], [.int 1], [.int 2], [.int 9], [.int 10]] (fun _ => true) (by decide) rfl c6
  cases p with
  | nil => simp at hp1
  | cons q qs =>
    have hq : q.length ≤ 100 := by simp only [szL] at hsz; omega
    have hin : inR 0 (lenI ((q :: qs).map rsE)) = true := inRT (by omega) (by rw [lenI_map]; (first | omega | (simp only [List.length_append, List.length_cons, List.length_nil, List.length_map, List.length_take, List.length_drop, List.length_replicate, szI_S] at * <;> omega)))
    have hat : at' ((q :: qs).map rsE) (tn 0) = [.sl (q.map Rw.e)] := rfl
    have hup : ∀ X : Rows, updR ((q :: qs).map rsE) (tn 0) 0 [.sl X] = [.sl X] :: qs.map rsE := fun X => upd_rs [] qs q X
    have hf : fitM (Nat.succ q.length) 24 = true := fitT (by omega)
    rw [c_spec_DrawNewExchange]
    simp only [e0, e1, e2, e3, e4, e5, e6, e7, gn_c, gb_c, gs_c, gl_c, tk_s, tk_0, List.drop_succ_cons, List.drop_zero, List.headD_cons, List.getD_cons_zero, List.getD_cons_succ, bind_s, hin, cond_true, hat, len_map, hf, hup, row_app]
    cases eqI t 0
    · cases eqI t 1
      · exact ⟨q :: qs, r, k, rfl, by omega⟩
      · refine ⟨(q ++ [a]) :: qs, r', k', rfl, ?_⟩
        simp only [szL, List.length_append, List.length_cons, List.length_nil] at hsz ⊢; omega
    · exact ⟨[], r, k, rfl, by simp [szL]⟩
theorem dDrawEqX (x : Rows) (hx : x.length ≤ 1048576) : ∃ (y z : Xc), callI tE f_spec_DrawEqualExchanges [.sl x] = some [.sl (y.pend.map rsE), .sl (y.que.map rsE), .sl (y.got.map rsE), .int y.cap, .sl (z.pend.map rsE), .sl (z.que.map rsE), .sl (z.got.map rsE), .int z.cap] ∧ y.sz ≤ 101 := by
  obtain ⟨h0, e0, c0⟩ := dNew x hx
  obtain ⟨y, i1, h1, e1, c1, hy⟩ := dExch (h := h0) c0
  obtain ⟨t, i2, h2, e2, c2⟩ := dOnce (h := h1) 2 c1
  obtain ⟨z, i3, h3, e3, c3, hz⟩ := dExch (h := h2) c2
  have e4 := sCopyX y (by unfold Xc.B; omega)
  rw [c_spec_DrawEqualExchanges]
  simp only [e0, e1, e2, e3, e4, gn_c, gb_c, gs_c, gl_c, tk_s, tk_0, List.drop_succ_cons, List.drop_zero, List.headD_cons, List.getD_cons_zero, List.getD_cons_succ, bind_s]
  cases t
  · exact ⟨y, y, rfl, hy⟩
  · exact ⟨y, z, rfl, hy⟩
theorem dDrawDone (x : Rows) (hx : x.length ≤ 1048576) : ∃ (y : Xc), callI tE f_spec_DrawIsExchangeDone [.sl x] = some [.sl (y.pend.map rsE), .sl (y.que.map rsE), .sl (y.got.map rsE), .int y.cap] ∧ y.sz ≤ 101 := by
  obtain ⟨h0, e0, c0⟩ := dNew x hx
  obtain ⟨y, i1, h1, e1, c1, hy⟩ := dExch (h := h0) c0
  obtain ⟨t, i2, h2, e2, c2⟩ := dOnce (h := h1) 2 c1
  have e3 := sRun y [] (by unfold Xc.B2; omega)
  rw [List.map_nil] at e3
  rw [c_spec_DrawIsExchangeDone]
  simp only [e0, e1, e2, e3, gn_c, gb_c, gs_c, gl_c, tk_s, tk_0, List.drop_succ_cons, List.drop_zero, List.headD_cons, List.getD_cons_zero, List.getD_cons_succ, bind_s]
  cases t
  · exact ⟨y, rfl, hy⟩
  · by_cases hv : exOk y = true
    · rw [if_pos hv]
      obtain ⟨_, q2, _⟩ := runX_ok [] (mu y) y 0 hv
      exact ⟨(runX [] (mu y) y 0).1, rfl, by rw [q2]; exact hy⟩
    · rw [if_neg hv]
      exact ⟨y, rfl, hy⟩
theorem dDrawRecvFor (x : Rows) (hx : x.length ≤ 1048576) : ∃ (r : Rw) (n : Int), callI tE f_spec_DrawReceiverFor [.sl x] = some [.int r.k, .int r.v, .int r.w, .int n] := by
  obtain ⟨h0, e0, c0⟩ := dNew x hx
  obtain ⟨r, i1, h1, e1, c1, _⟩ := dAny (h := h0) c0
  obtain ⟨n, i2, h2, e2, c2, _⟩ := dBelow (h := h1) 5 c1
  rw [c_spec_DrawReceiverFor]
  simp only [e0, e1, e2, gn_c, gb_c, gs_c, gl_c, tk_s, tk_0, List.drop_succ_cons, List.drop_zero, List.headD_cons, List.getD_cons_zero, List.getD_cons_succ, bind_s]
  exact ⟨r, n, rfl⟩
end Go.Proofs.Ytbmafhpbinjgaaa.Vai
