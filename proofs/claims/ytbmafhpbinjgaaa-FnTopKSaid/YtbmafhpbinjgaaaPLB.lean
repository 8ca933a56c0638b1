/- The laws' words over named data: made anew, measured, compared, marked, looked at; no condition. -/
import Derived.Test.YtbmafhpbinjgaaaEqB
import Derived.Test.YtbmafhpbinjgaaaT2
import Derived.Test.YtbmafhpbinjgaaaPLA
namespace Go.Proofs.Ytbmafhpbinjgaaa.Vai
open Go
set_option linter.unusedSimpArgs false
set_option linter.unusedVariables false
set_option linter.unnecessarySimpa false
set_option maxRecDepth 10000
theorem to_RowSS (l : List (List Rw)) (h : szL List.length l ≤ 1048576) : callI tE f_laws_toRowSS [.sl (l.map rsE)] = some [.sl (l.map rsE)] := by
  have hl : l.length ≤ 1048576 := (Nat.le_trans (szL_len _ _) h)
  rw [c_laws_toRowSS]
  have := to_loop (L := L_laws_toRowSS_0) (e := rsE) (z := [.sl []]) (P := fun a => List.length a ≤ 1048576) (fun p q p' q' a hP hpl hlt => by
    rw [L_laws_toRowSS_0_eq]
    simp only [lt_mid, in_mid, tn_c, at_mid, cond_true, cond_false, gn_c, gb_c, gs_c, gl_c, tk_s, tk_0, List.drop_succ_cons, List.drop_zero, List.headD_cons, List.getD_cons_zero, List.getD_cons_succ, bind_s, in_mid' hpl, upd_mid' hpl, rsE, to_RowS a hP, setRange, List.set_cons_zero, List.set_cons_succ]) (fun p p' hpl => by
    rw [L_laws_toRowSS_0_eq, lt_end, cond_false]) l [] [] rfl (fun a ha => Nat.le_trans (szL_mem ha) h) (by simp; omega)
  simp only [List.nil_append, List.length_nil, Int.ofNat_zero, Int.natCast_zero] at this
  rw [le0_len, eqI_self, fitT (by show (l.map rsE).length * _ ≤ _; rw [List.length_map]; omega)]
  simp only [Bool.and_self, cond_true]
  rw [show tn (lenI (l.map rsE)) = l.length by show (l.map rsE).length = _; simp]
  exact this
theorem sz_RowSS (l : List (List Rw)) (n : Int) (h0 : 0 ≤ n) (h1 : n ≤ 1048576) (h : BdL rsB l) : callI tE f_laws_szRowSS [.sl (l.map rsE), .int n] = some [.int (szv n (szL List.length l))] := by
  have hl : l.length ≤ 1152921504606846976 := h.1
  rw [c_laws_szRowSS, szL_cnt]
  refine sz_len (X := fun m => L_laws_szRowSS_0 (l.map rsE) m 0) h0 h1 (List.length_map _) hl fun h2 => ?_
  have := sz_loop (L := L_laws_szRowSS_0) (e := rsE) (g := List.length) (P := rsB) (fun p q a n hP h0 h1 hlt => by
    rw [L_laws_szRowSS_0_eq]
    simp only [lt_mid, in_mid, tn_c, at_mid, cond_true, cond_false, gn_c, gb_c, gs_c, gl_c, tk_s, tk_0, List.drop_succ_cons, List.drop_zero, List.headD_cons, List.getD_cons_zero, List.getD_cons_succ, bind_s, rsE, sz_RowS a n h0 h1 hP]) (fun p n => by
    rw [L_laws_szRowSS_0_eq, lt_end, cond_false]) l [] (n - l.length) (fun a ha => h.2 a ha) (by omega) (by omega) (by simp; omega)
  simpa using this
theorem eq_RowSS (l l' : List (List Rw)) (h : szL List.length l ≤ 1152921504606846976) : callI tE f_laws_eqRowSS [.sl (l.map rsE), .sl (l'.map rsE)] = some [.bool (decide (l = l'))] := by
  have hl : l.length ≤ 1152921504606846976 := (Nat.le_trans (szL_len _ _) h)
  rw [c_laws_eqRowSS]
  by_cases hll : l.length = l'.length
  · rw [eq_len hll, Bool.not_true, cond_false]
    have := eq_loop (L := L_laws_eqRowSS_0) (e := rsE) (P := fun a => List.length a ≤ 1152921504606846976) (fun p q p' q' a b hP hpl hlt => by
      rw [L_laws_eqRowSS_0_eq]
      simp only [lt_mid, in_mid, tn_c, at_mid, cond_true, cond_false, gn_c, gb_c, gs_c, gl_c, tk_s, tk_0, List.drop_succ_cons, List.drop_zero, List.headD_cons, List.getD_cons_zero, List.getD_cons_succ, bind_s, in_mid' hpl, at_mid' hpl, rsE, eq_RowS a b hP, bifn]) (fun p p' hpl => by
      rw [L_laws_eqRowSS_0_eq, lt_end, cond_false]) l l' [] [] rfl hll (fun a ha => Nat.le_trans (szL_mem ha) h) (by simp; omega)
    simpa using this
  · rw [ne_len hll, Bool.not_false, cond_true, decide_eq_false (fun e => hll (by rw [e]))]
theorem mark_RowSS (l : List (List Rw)) (k : Int) (h0 : 0 ≤ k) (h1 : k + cntL (cntL Rw.ct) l < 4611686018427387904) (h2 : szL List.length l ≤ 1152921504606846976) : callI tE f_laws_markRowSS [.sl (l.map rsE), .int k] = some [.int (k + cntL (cntL Rw.ct) l), .sl ((mkL (mkL Rw.mkm Rw.ct) (cntL Rw.ct) l k).map rsE)] := by
  have hl : l.length ≤ 1152921504606846976 := (Nat.le_trans (szL_len _ _) h2)
  rw [c_laws_markRowSS]
  have := mark_loop (L := L_laws_markRowSS_0) (e := rsE) (f := (mkL Rw.mkm Rw.ct)) (c := (cntL Rw.ct)) (g := List.length) (fun p q a k h0 hc hg hlt => by
    rw [L_laws_markRowSS_0_eq]
    simp only [lt_mid, in_mid, tn_c, at_mid, cond_true, cond_false, gn_c, gb_c, gs_c, gl_c, tk_s, tk_0, List.drop_succ_cons, List.drop_zero, List.headD_cons, List.getD_cons_zero, List.getD_cons_succ, bind_s, upd_mid, rsE, mark_RowS a k h0 hc hg, setRange, List.set_cons_zero, List.set_cons_succ]) (fun p k => by
    rw [L_laws_markRowSS_0_eq, lt_end, cond_false]) l [] k h0 h1 (by exact h2) (by simp; omega)
  simpa using this
theorem held_RowSS (l : List (List Rw)) (k : Int) (h0 : 0 ≤ k) (h1 : k + cntL (cntL Rw.ct) l < 4611686018427387904) (h2 : szL List.length l ≤ 1152921504606846976) : callI tE f_laws_heldRowSS [.sl ((mkL (mkL Rw.mkm Rw.ct) (cntL Rw.ct) l k).map rsE), .int k] = some [.int (k + cntL (cntL Rw.ct) l)] := by
  have hl : l.length ≤ 1152921504606846976 := (Nat.le_trans (szL_len _ _) h2)
  rw [c_laws_heldRowSS]
  have := held_loop (L := L_laws_heldRowSS_0) (e := rsE) (f := (mkL Rw.mkm Rw.ct)) (c := (cntL Rw.ct)) (g := List.length) (fun p q a k h0 hc hg hlt => by
    rw [L_laws_heldRowSS_0_eq]
    simp only [lt_mid, in_mid, tn_c, at_mid, cond_true, cond_false, gn_c, gb_c, gs_c, gl_c, tk_s, tk_0, List.drop_succ_cons, List.drop_zero, List.headD_cons, List.getD_cons_zero, List.getD_cons_succ, bind_s, rsE, held_RowS a k h0 hc hg, eqI_self, eqBo_self, Bool.not_true, ltF_nn h0]) (fun p k => by
    rw [L_laws_heldRowSS_0_eq, lt_end, cond_false]) l [] k h0 h1 (by exact h2) (by simp; omega)
  simpa using this
theorem to_Exchange (x : Xc) (h : x.sz ≤ 1048576) : callI tE f_laws_toExchange [.sl (x.pend.map rsE), .sl (x.que.map rsE), .sl (x.got.map rsE), .int x.cap] = some [.sl (x.pend.map rsE), .sl (x.que.map rsE), .sl (x.got.map rsE), .int x.cap] := by
  simp only [c_laws_toExchange, to_RowSS x.pend (by simp only [Xc.sz] at h; omega), to_RowSS x.que (by simp only [Xc.sz] at h; omega), to_RowSS x.got (by simp only [Xc.sz] at h; omega), gn_c, gb_c, gs_c, gl_c, tk_s, tk_0, List.drop_succ_cons, List.drop_zero, List.headD_cons, List.getD_cons_zero, List.getD_cons_succ, bind_s]
theorem sz_Exchange (x : Xc) (n : Int) (h0 : 0 ≤ n) (h1 : n ≤ 1048576) (h : x.bd) : callI tE f_laws_szExchange [.sl (x.pend.map rsE), .sl (x.que.map rsE), .sl (x.got.map rsE), .int x.cap, .int n] = some [.int (szv n (x.sz))] := by
  rw [c_laws_szExchange]
  simp only [Xc.sz]
  obtain ⟨b0, b1, b2, _⟩ := h
  rw [sz_RowSS x.pend n (by omega) (by omega) b0]
  simp only [gn_c, gb_c, gs_c, gl_c, tk_s, tk_0, List.drop_succ_cons, List.drop_zero, List.headD_cons, List.getD_cons_zero, List.getD_cons_succ, bind_s]
  refine sz_chain (by omega) fun h0 g0 => ?_
  rw [g0]
  rw [sz_RowSS x.que (n - (szL List.length x.pend : Nat)) (by omega) (by omega) b1]
  simp only [gn_c, gb_c, gs_c, gl_c, tk_s, tk_0, List.drop_succ_cons, List.drop_zero, List.headD_cons, List.getD_cons_zero, List.getD_cons_succ, bind_s]
  refine sz_chain (by omega) fun h1 g1 => ?_
  rw [g1]
  rw [sz_RowSS x.got (n - (szL List.length x.pend : Nat) - (szL List.length x.que : Nat)) (by omega) (by omega) b2]
  simp only [gn_c, gb_c, gs_c, gl_c, tk_s, tk_0, List.drop_succ_cons, List.drop_zero, List.headD_cons, List.getD_cons_zero, List.getD_cons_succ, bind_s]
  exact sz_last (by omega)
theorem eq_Exchange (x y : Xc) (h : x.sz ≤ 1152921504606846976) : callI tE f_laws_eqExchange [.sl (x.pend.map rsE), .sl (x.que.map rsE), .sl (x.got.map rsE), .int x.cap, .sl (y.pend.map rsE), .sl (y.que.map rsE), .sl (y.got.map rsE), .int y.cap] = some [.bool (decide (x = y))] := by
  have e : decide (x = y) = (decide (x.pend = y.pend) && (decide (x.que = y.que) && (decide (x.got = y.got) && (decide (x.cap = y.cap))))) := by
    cases x; cases y
    simp only [Xc.mk.injEq, Bool.decide_and]
  simp only [eq_RowSS x.pend y.pend (by simp only [Xc.sz] at h; omega), eq_RowSS x.que y.que (by simp only [Xc.sz] at h; omega), eq_RowSS x.got y.got (by simp only [Xc.sz] at h; omega), gn_c, gb_c, gs_c, gl_c, tk_s, tk_0, List.drop_succ_cons, List.drop_zero, List.headD_cons, List.getD_cons_zero, List.getD_cons_succ, bind_s, eqI, eqBo, e, bif_and, Bool.and_true, c_laws_eqExchange]
theorem mark_Exchange (x : Xc) (k : Int) (h0 : 0 ≤ k) (h1 : k + (cntL (cntL Rw.ct) x.pend : Nat) + (cntL (cntL Rw.ct) x.que : Nat) + (cntL (cntL Rw.ct) x.got : Nat) < 4611686018427387904) (h2 : x.sz ≤ 1152921504606846976) : callI tE f_laws_markExchange [.sl (x.pend.map rsE), .sl (x.que.map rsE), .sl (x.got.map rsE), .int x.cap, .int k] = some [.int (k + (cntL (cntL Rw.ct) x.pend : Nat) + (cntL (cntL Rw.ct) x.que : Nat) + (cntL (cntL Rw.ct) x.got : Nat)), .sl ((mkL (mkL Rw.mkm Rw.ct) (cntL Rw.ct) x.pend k).map rsE), .sl ((mkL (mkL Rw.mkm Rw.ct) (cntL Rw.ct) x.que (k + (cntL (cntL Rw.ct) x.pend : Nat))).map rsE), .sl ((mkL (mkL Rw.mkm Rw.ct) (cntL Rw.ct) x.got (k + (cntL (cntL Rw.ct) x.pend : Nat) + (cntL (cntL Rw.ct) x.que : Nat))).map rsE)] := by
  simp only [c_laws_markExchange, mark_RowSS x.pend k (by omega) (by omega) (by simp only [Xc.sz] at h2; omega), mark_RowSS x.que (k + (cntL (cntL Rw.ct) x.pend : Nat)) (by omega) (by omega) (by simp only [Xc.sz] at h2; omega), mark_RowSS x.got (k + (cntL (cntL Rw.ct) x.pend : Nat) + (cntL (cntL Rw.ct) x.que : Nat)) (by omega) (by omega) (by simp only [Xc.sz] at h2; omega), gn_c, gb_c, gs_c, gl_c, tk_s, tk_0, List.drop_succ_cons, List.drop_zero, List.headD_cons, List.getD_cons_zero, List.getD_cons_succ, bind_s]
theorem held_Exchange (x : Xc) (k : Int) (h0 : 0 ≤ k) (h1 : k + (cntL (cntL Rw.ct) x.pend : Nat) + (cntL (cntL Rw.ct) x.que : Nat) + (cntL (cntL Rw.ct) x.got : Nat) < 4611686018427387904) (h2 : x.sz ≤ 1152921504606846976) : callI tE f_laws_heldExchange [.sl ((mkL (mkL Rw.mkm Rw.ct) (cntL Rw.ct) x.pend k).map rsE), .sl ((mkL (mkL Rw.mkm Rw.ct) (cntL Rw.ct) x.que (k + (cntL (cntL Rw.ct) x.pend : Nat))).map rsE), .sl ((mkL (mkL Rw.mkm Rw.ct) (cntL Rw.ct) x.got (k + (cntL (cntL Rw.ct) x.pend : Nat) + (cntL (cntL Rw.ct) x.que : Nat))).map rsE), .int x.cap, .int k] = some [.int (k + (cntL (cntL Rw.ct) x.pend : Nat) + (cntL (cntL Rw.ct) x.que : Nat) + (cntL (cntL Rw.ct) x.got : Nat))] := by
  simp only [c_laws_heldExchange, held_RowSS x.pend k (by omega) (by omega) (by simp only [Xc.sz] at h2; omega), held_RowSS x.que (k + (cntL (cntL Rw.ct) x.pend : Nat)) (by omega) (by omega) (by simp only [Xc.sz] at h2; omega), held_RowSS x.got (k + (cntL (cntL Rw.ct) x.pend : Nat) + (cntL (cntL Rw.ct) x.que : Nat)) (by omega) (by omega) (by simp only [Xc.sz] at h2; omega), gn_c, gb_c, gs_c, gl_c, tk_s, tk_0, List.drop_succ_cons, List.drop_zero, List.headD_cons, List.getD_cons_zero, List.getD_cons_succ, bind_s, ltF (a := k + (cntL (cntL Rw.ct) x.pend : Nat)) (b := 0) (by omega), ltF (a := k + (cntL (cntL Rw.ct) x.pend : Nat) + (cntL (cntL Rw.ct) x.que : Nat)) (b := 0) (by omega), ltF (a := k + (cntL (cntL Rw.ct) x.pend : Nat) + (cntL (cntL Rw.ct) x.que : Nat) + (cntL (cntL Rw.ct) x.got : Nat)) (b := 0) (by omega), cond_false]
end Go.Proofs.Ytbmafhpbinjgaaa.Vai
