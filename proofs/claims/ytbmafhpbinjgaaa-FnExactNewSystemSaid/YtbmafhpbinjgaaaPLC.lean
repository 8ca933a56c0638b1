/- The laws' words over named data: made anew, measured, compared, marked, looked at; no condition. -/
import Derived.Test.YtbmafhpbinjgaaaEqC
import Derived.Test.YtbmafhpbinjgaaaT2
import Derived.Test.YtbmafhpbinjgaaaPLA
namespace Go.Proofs.Ytbmafhpbinjgaaa.Vai
open Go
set_option linter.unusedSimpArgs false
set_option linter.unusedVariables false
set_option linter.unnecessarySimpa false
set_option maxRecDepth 10000
theorem to_Run (x : List Rw) (h : x.length ≤ 1048576) : callI tE f_laws_toRun [.sl (x.map Rw.e)] = some [.sl (x.map Rw.e)] := by
  simp only [c_laws_toRun, to_RowS x (by exact h), gn_c, gb_c, gs_c, gl_c, tk_s, tk_0, List.drop_succ_cons, List.drop_zero, List.headD_cons, List.getD_cons_zero, List.getD_cons_succ, bind_s]
theorem to_RunS (l : List (List Rw)) (h : szL List.length l ≤ 1048576) : callI tE f_laws_toRunS [.sl (l.map rsE)] = some [.sl (l.map rsE)] := by
  have hl : l.length ≤ 1048576 := (Nat.le_trans (szL_len _ _) h)
  rw [c_laws_toRunS]
  have := to_loop (L := L_laws_toRunS_0) (e := rsE) (z := [.sl []]) (P := fun a => List.length a ≤ 1048576) (fun p q p' q' a hP hpl hlt => by
    rw [L_laws_toRunS_0_eq]
    simp only [lt_mid, in_mid, tn_c, at_mid, cond_true, cond_false, gn_c, gb_c, gs_c, gl_c, tk_s, tk_0, List.drop_succ_cons, List.drop_zero, List.headD_cons, List.getD_cons_zero, List.getD_cons_succ, bind_s, in_mid' hpl, upd_mid' hpl, rsE, to_Run a hP, setRange, List.set_cons_zero, List.set_cons_succ]) (fun p p' hpl => by
    rw [L_laws_toRunS_0_eq, lt_end, cond_false]) l [] [] rfl (fun a ha => Nat.le_trans (szL_mem ha) h) (by simp; omega)
  simp only [List.nil_append, List.length_nil, Int.ofNat_zero, Int.natCast_zero] at this
  rw [le0_len, eqI_self, fitT (by show (l.map rsE).length * _ ≤ _; rw [List.length_map]; omega)]
  simp only [Bool.and_self, cond_true]
  rw [show tn (lenI (l.map rsE)) = l.length by show (l.map rsE).length = _; simp]
  exact this
theorem sz_Run (x : List Rw) (n : Int) (h0 : 0 ≤ n) (h1 : n ≤ 1048576) (h : rsB x) : callI tE f_laws_szRun [.sl (x.map Rw.e), .int n] = some [.int (szv n (x.length))] := by
  rw [c_laws_szRun]
  have b0 : BdL Rw.bd x := h
  rw [sz_RowS x n (by omega) (by omega) b0]
  simp only [gn_c, gb_c, gs_c, gl_c, tk_s, tk_0, List.drop_succ_cons, List.drop_zero, List.headD_cons, List.getD_cons_zero, List.getD_cons_succ, bind_s]
  exact sz_last (by omega)
theorem sz_RunS (l : List (List Rw)) (n : Int) (h0 : 0 ≤ n) (h1 : n ≤ 1048576) (h : BdL rsB l) : callI tE f_laws_szRunS [.sl (l.map rsE), .int n] = some [.int (szv n (szL List.length l))] := by
  have hl : l.length ≤ 1152921504606846976 := h.1
  rw [c_laws_szRunS, szL_cnt]
  refine sz_len (X := fun m => L_laws_szRunS_0 (l.map rsE) m 0) h0 h1 (List.length_map _) hl fun h2 => ?_
  have := sz_loop (L := L_laws_szRunS_0) (e := rsE) (g := List.length) (P := rsB) (fun p q a n hP h0 h1 hlt => by
    rw [L_laws_szRunS_0_eq]
    simp only [lt_mid, in_mid, tn_c, at_mid, cond_true, cond_false, gn_c, gb_c, gs_c, gl_c, tk_s, tk_0, List.drop_succ_cons, List.drop_zero, List.headD_cons, List.getD_cons_zero, List.getD_cons_succ, bind_s, rsE, sz_Run a n h0 h1 hP]) (fun p n => by
    rw [L_laws_szRunS_0_eq, lt_end, cond_false]) l [] (n - l.length) (fun a ha => h.2 a ha) (by omega) (by omega) (by simp; omega)
  simpa using this
theorem eq_Run (x y : List Rw) (h : x.length ≤ 1152921504606846976) : callI tE f_laws_eqRun [.sl (x.map Rw.e), .sl (y.map Rw.e)] = some [.bool (decide (x = y))] := by
  simp only [c_laws_eqRun, eq_RowS x y h, gn_c, gb_c, gs_c, gl_c, tk_s, tk_0, List.drop_succ_cons, List.drop_zero, List.headD_cons, List.getD_cons_zero, List.getD_cons_succ, bind_s, bif_and, Bool.and_true]
theorem eq_RunS (l l' : List (List Rw)) (h : szL List.length l ≤ 1152921504606846976) : callI tE f_laws_eqRunS [.sl (l.map rsE), .sl (l'.map rsE)] = some [.bool (decide (l = l'))] := by
  have hl : l.length ≤ 1152921504606846976 := (Nat.le_trans (szL_len _ _) h)
  rw [c_laws_eqRunS]
  by_cases hll : l.length = l'.length
  · rw [eq_len hll, Bool.not_true, cond_false]
    have := eq_loop (L := L_laws_eqRunS_0) (e := rsE) (P := fun a => List.length a ≤ 1152921504606846976) (fun p q p' q' a b hP hpl hlt => by
      rw [L_laws_eqRunS_0_eq]
      simp only [lt_mid, in_mid, tn_c, at_mid, cond_true, cond_false, gn_c, gb_c, gs_c, gl_c, tk_s, tk_0, List.drop_succ_cons, List.drop_zero, List.headD_cons, List.getD_cons_zero, List.getD_cons_succ, bind_s, in_mid' hpl, at_mid' hpl, rsE, eq_Run a b hP, bifn]) (fun p p' hpl => by
      rw [L_laws_eqRunS_0_eq, lt_end, cond_false]) l l' [] [] rfl hll (fun a ha => Nat.le_trans (szL_mem ha) h) (by simp; omega)
    simpa using this
  · rw [ne_len hll, Bool.not_false, cond_true, decide_eq_false (fun e => hll (by rw [e]))]
theorem mark_RunS (l : List (List Rw)) (k : Int) (h0 : 0 ≤ k) (h1 : k + cntL (cntL Rw.ct) l < 4611686018427387904) (h2 : szL List.length l ≤ 1152921504606846976) : callI tE f_laws_markRunS [.sl (l.map rsE), .int k] = some [.int (k + cntL (cntL Rw.ct) l), .sl ((mkL (mkL Rw.mkm Rw.ct) (cntL Rw.ct) l k).map rsE)] := by
  have hl : l.length ≤ 1152921504606846976 := (Nat.le_trans (szL_len _ _) h2)
  rw [c_laws_markRunS]
  have := mark_loop (L := L_laws_markRunS_0) (e := rsE) (f := (mkL Rw.mkm Rw.ct)) (c := (cntL Rw.ct)) (g := List.length) (fun p q a k h0 hc hg hlt => by
    rw [L_laws_markRunS_0_eq]
    simp only [lt_mid, in_mid, tn_c, at_mid, cond_true, cond_false, gn_c, gb_c, gs_c, gl_c, tk_s, tk_0, List.drop_succ_cons, List.drop_zero, List.headD_cons, List.getD_cons_zero, List.getD_cons_succ, bind_s, upd_mid, rsE, mark_RowS a k h0 hc hg, setRange, List.set_cons_zero, List.set_cons_succ]) (fun p k => by
    rw [L_laws_markRunS_0_eq, lt_end, cond_false]) l [] k h0 h1 (by exact h2) (by simp; omega)
  simpa using this
theorem held_RunS (l : List (List Rw)) (k : Int) (h0 : 0 ≤ k) (h1 : k + cntL (cntL Rw.ct) l < 4611686018427387904) (h2 : szL List.length l ≤ 1152921504606846976) : callI tE f_laws_heldRunS [.sl ((mkL (mkL Rw.mkm Rw.ct) (cntL Rw.ct) l k).map rsE), .int k] = some [.int (k + cntL (cntL Rw.ct) l)] := by
  have hl : l.length ≤ 1152921504606846976 := (Nat.le_trans (szL_len _ _) h2)
  rw [c_laws_heldRunS]
  have := held_loop (L := L_laws_heldRunS_0) (e := rsE) (f := (mkL Rw.mkm Rw.ct)) (c := (cntL Rw.ct)) (g := List.length) (fun p q a k h0 hc hg hlt => by
    rw [L_laws_heldRunS_0_eq]
    simp only [lt_mid, in_mid, tn_c, at_mid, cond_true, cond_false, gn_c, gb_c, gs_c, gl_c, tk_s, tk_0, List.drop_succ_cons, List.drop_zero, List.headD_cons, List.getD_cons_zero, List.getD_cons_succ, bind_s, rsE, held_RowS a k h0 hc hg, eqI_self, eqBo_self, Bool.not_true, ltF_nn h0]) (fun p k => by
    rw [L_laws_heldRunS_0_eq, lt_end, cond_false]) l [] k h0 h1 (by exact h2) (by simp; omega)
  simpa using this
theorem eq_Sorter (x y : So) (h : x.sz ≤ 1152921504606846976) : callI tE f_laws_eqSorter [.sl (x.inp.map Rw.e), .int x.pos, .sl (x.heap.map Rw.e), .sl (x.dfd.map Rw.e), .sl (x.out.map Rw.e), .sl (x.runs.map rsE), .int x.lp, .int x.rp, .int x.ph, .int x.wr, .sl (y.inp.map Rw.e), .int y.pos, .sl (y.heap.map Rw.e), .sl (y.dfd.map Rw.e), .sl (y.out.map Rw.e), .sl (y.runs.map rsE), .int y.lp, .int y.rp, .int y.ph, .int y.wr] = some [.bool (decide (x = y))] := by
  have e : decide (x = y) = (decide (x.inp = y.inp) && (decide (x.pos = y.pos) && (decide (x.heap = y.heap) && (decide (x.dfd = y.dfd) && (decide (x.out = y.out) && (decide (x.runs = y.runs) && (decide (x.lp = y.lp) && (decide (x.rp = y.rp) && (decide (x.ph = y.ph) && (decide (x.wr = y.wr))))))))))) := by
    cases x; cases y
    simp only [So.mk.injEq, Bool.decide_and]
  simp only [eq_RowS x.inp y.inp (by simp only [So.sz] at h; omega), eq_RowS x.heap y.heap (by simp only [So.sz] at h; omega), eq_RowS x.dfd y.dfd (by simp only [So.sz] at h; omega), eq_RowS x.out y.out (by simp only [So.sz] at h; omega), eq_RunS x.runs y.runs (by simp only [So.sz] at h; omega), gn_c, gb_c, gs_c, gl_c, tk_s, tk_0, List.drop_succ_cons, List.drop_zero, List.headD_cons, List.getD_cons_zero, List.getD_cons_succ, bind_s, eqI, eqBo, e, bif_and, Bool.and_true, c_laws_eqSorter]
theorem to_Sorter (x : So) (h : x.sz ≤ 1048576) : callI tE f_laws_toSorter [.sl (x.inp.map Rw.e), .int x.pos, .sl (x.heap.map Rw.e), .sl (x.dfd.map Rw.e), .sl (x.out.map Rw.e), .sl (x.runs.map rsE), .int x.lp, .int x.rp, .int x.ph, .int x.wr] = some [.sl (x.inp.map Rw.e), .int x.pos, .sl (x.heap.map Rw.e), .sl (x.dfd.map Rw.e), .sl (x.out.map Rw.e), .sl (x.runs.map rsE), .int x.lp, .int x.rp, .int x.ph, .int x.wr] := by
  simp only [c_laws_toSorter, to_RowS x.inp (by simp only [So.sz] at h; omega), to_RowS x.heap (by simp only [So.sz] at h; omega), to_RowS x.dfd (by simp only [So.sz] at h; omega), to_RowS x.out (by simp only [So.sz] at h; omega), to_RunS x.runs (by simp only [So.sz] at h; omega), gn_c, gb_c, gs_c, gl_c, tk_s, tk_0, List.drop_succ_cons, List.drop_zero, List.headD_cons, List.getD_cons_zero, List.getD_cons_succ, bind_s]
theorem sz_Sorter (x : So) (n : Int) (h0 : 0 ≤ n) (h1 : n ≤ 1048576) (h : x.bd) : callI tE f_laws_szSorter [.sl (x.inp.map Rw.e), .int x.pos, .sl (x.heap.map Rw.e), .sl (x.dfd.map Rw.e), .sl (x.out.map Rw.e), .sl (x.runs.map rsE), .int x.lp, .int x.rp, .int x.ph, .int x.wr, .int n] = some [.int (szv n (x.sz))] := by
  rw [c_laws_szSorter]
  simp only [So.sz]
  obtain ⟨b0, _, b2, b3, b4, b5, _, _, _, _⟩ := h
  rw [sz_RowS x.inp n (by omega) (by omega) b0]
  simp only [gn_c, gb_c, gs_c, gl_c, tk_s, tk_0, List.drop_succ_cons, List.drop_zero, List.headD_cons, List.getD_cons_zero, List.getD_cons_succ, bind_s]
  refine sz_chain (by omega) fun h0 g0 => ?_
  rw [g0]
  rw [sz_RowS x.heap (n - (x.inp.length : Nat)) (by omega) (by omega) b2]
  simp only [gn_c, gb_c, gs_c, gl_c, tk_s, tk_0, List.drop_succ_cons, List.drop_zero, List.headD_cons, List.getD_cons_zero, List.getD_cons_succ, bind_s]
  refine sz_chain (by omega) fun h1 g1 => ?_
  rw [g1]
  rw [sz_RowS x.dfd (n - (x.inp.length : Nat) - (x.heap.length : Nat)) (by omega) (by omega) b3]
  simp only [gn_c, gb_c, gs_c, gl_c, tk_s, tk_0, List.drop_succ_cons, List.drop_zero, List.headD_cons, List.getD_cons_zero, List.getD_cons_succ, bind_s]
  refine sz_chain (by omega) fun h2 g2 => ?_
  rw [g2]
  rw [sz_RowS x.out (n - (x.inp.length : Nat) - (x.heap.length : Nat) - (x.dfd.length : Nat)) (by omega) (by omega) b4]
  simp only [gn_c, gb_c, gs_c, gl_c, tk_s, tk_0, List.drop_succ_cons, List.drop_zero, List.headD_cons, List.getD_cons_zero, List.getD_cons_succ, bind_s]
  refine sz_chain (by omega) fun h3 g3 => ?_
  rw [g3]
  rw [sz_RunS x.runs (n - (x.inp.length : Nat) - (x.heap.length : Nat) - (x.dfd.length : Nat) - (x.out.length : Nat)) (by omega) (by omega) b5]
  simp only [gn_c, gb_c, gs_c, gl_c, tk_s, tk_0, List.drop_succ_cons, List.drop_zero, List.headD_cons, List.getD_cons_zero, List.getD_cons_succ, bind_s]
  exact sz_last (by omega)
theorem mark_Sorter (x : So) (k : Int) (h0 : 0 ≤ k) (h1 : k + (cntL Rw.ct x.inp : Nat) + (cntL Rw.ct x.heap : Nat) + (cntL Rw.ct x.dfd : Nat) + (cntL Rw.ct x.out : Nat) + (cntL (cntL Rw.ct) x.runs : Nat) < 4611686018427387904) (h2 : x.sz ≤ 1152921504606846976) : callI tE f_laws_markSorter [.sl (x.inp.map Rw.e), .int x.pos, .sl (x.heap.map Rw.e), .sl (x.dfd.map Rw.e), .sl (x.out.map Rw.e), .sl (x.runs.map rsE), .int x.lp, .int x.rp, .int x.ph, .int x.wr, .int k] = some [.int (k + (cntL Rw.ct x.inp : Nat) + (cntL Rw.ct x.heap : Nat) + (cntL Rw.ct x.dfd : Nat) + (cntL Rw.ct x.out : Nat) + (cntL (cntL Rw.ct) x.runs : Nat)), .sl ((mkL Rw.mkm Rw.ct x.inp k).map Rw.e), .sl ((mkL Rw.mkm Rw.ct x.heap (k + (cntL Rw.ct x.inp : Nat))).map Rw.e), .sl ((mkL Rw.mkm Rw.ct x.dfd (k + (cntL Rw.ct x.inp : Nat) + (cntL Rw.ct x.heap : Nat))).map Rw.e), .sl ((mkL Rw.mkm Rw.ct x.out (k + (cntL Rw.ct x.inp : Nat) + (cntL Rw.ct x.heap : Nat) + (cntL Rw.ct x.dfd : Nat))).map Rw.e), .sl ((mkL (mkL Rw.mkm Rw.ct) (cntL Rw.ct) x.runs (k + (cntL Rw.ct x.inp : Nat) + (cntL Rw.ct x.heap : Nat) + (cntL Rw.ct x.dfd : Nat) + (cntL Rw.ct x.out : Nat))).map rsE)] := by
  simp only [c_laws_markSorter, mark_RowS x.inp k (by omega) (by omega) (by simp only [So.sz] at h2; omega), mark_RowS x.heap (k + (cntL Rw.ct x.inp : Nat)) (by omega) (by omega) (by simp only [So.sz] at h2; omega), mark_RowS x.dfd (k + (cntL Rw.ct x.inp : Nat) + (cntL Rw.ct x.heap : Nat)) (by omega) (by omega) (by simp only [So.sz] at h2; omega), mark_RowS x.out (k + (cntL Rw.ct x.inp : Nat) + (cntL Rw.ct x.heap : Nat) + (cntL Rw.ct x.dfd : Nat)) (by omega) (by omega) (by simp only [So.sz] at h2; omega), mark_RunS x.runs (k + (cntL Rw.ct x.inp : Nat) + (cntL Rw.ct x.heap : Nat) + (cntL Rw.ct x.dfd : Nat) + (cntL Rw.ct x.out : Nat)) (by omega) (by omega) (by simp only [So.sz] at h2; omega), gn_c, gb_c, gs_c, gl_c, tk_s, tk_0, List.drop_succ_cons, List.drop_zero, List.headD_cons, List.getD_cons_zero, List.getD_cons_succ, bind_s]
theorem held_Sorter (x : So) (k : Int) (h0 : 0 ≤ k) (h1 : k + (cntL Rw.ct x.inp : Nat) + (cntL Rw.ct x.heap : Nat) + (cntL Rw.ct x.dfd : Nat) + (cntL Rw.ct x.out : Nat) + (cntL (cntL Rw.ct) x.runs : Nat) < 4611686018427387904) (h2 : x.sz ≤ 1152921504606846976) : callI tE f_laws_heldSorter [.sl ((mkL Rw.mkm Rw.ct x.inp k).map Rw.e), .int x.pos, .sl ((mkL Rw.mkm Rw.ct x.heap (k + (cntL Rw.ct x.inp : Nat))).map Rw.e), .sl ((mkL Rw.mkm Rw.ct x.dfd (k + (cntL Rw.ct x.inp : Nat) + (cntL Rw.ct x.heap : Nat))).map Rw.e), .sl ((mkL Rw.mkm Rw.ct x.out (k + (cntL Rw.ct x.inp : Nat) + (cntL Rw.ct x.heap : Nat) + (cntL Rw.ct x.dfd : Nat))).map Rw.e), .sl ((mkL (mkL Rw.mkm Rw.ct) (cntL Rw.ct) x.runs (k + (cntL Rw.ct x.inp : Nat) + (cntL Rw.ct x.heap : Nat) + (cntL Rw.ct x.dfd : Nat) + (cntL Rw.ct x.out : Nat))).map rsE), .int x.lp, .int x.rp, .int x.ph, .int x.wr, .int k] = some [.int (k + (cntL Rw.ct x.inp : Nat) + (cntL Rw.ct x.heap : Nat) + (cntL Rw.ct x.dfd : Nat) + (cntL Rw.ct x.out : Nat) + (cntL (cntL Rw.ct) x.runs : Nat))] := by
  simp only [c_laws_heldSorter, held_RowS x.inp k (by omega) (by omega) (by simp only [So.sz] at h2; omega), held_RowS x.heap (k + (cntL Rw.ct x.inp : Nat)) (by omega) (by omega) (by simp only [So.sz] at h2; omega), held_RowS x.dfd (k + (cntL Rw.ct x.inp : Nat) + (cntL Rw.ct x.heap : Nat)) (by omega) (by omega) (by simp only [So.sz] at h2; omega), held_RowS x.out (k + (cntL Rw.ct x.inp : Nat) + (cntL Rw.ct x.heap : Nat) + (cntL Rw.ct x.dfd : Nat)) (by omega) (by omega) (by simp only [So.sz] at h2; omega), held_RunS x.runs (k + (cntL Rw.ct x.inp : Nat) + (cntL Rw.ct x.heap : Nat) + (cntL Rw.ct x.dfd : Nat) + (cntL Rw.ct x.out : Nat)) (by omega) (by omega) (by simp only [So.sz] at h2; omega), gn_c, gb_c, gs_c, gl_c, tk_s, tk_0, List.drop_succ_cons, List.drop_zero, List.headD_cons, List.getD_cons_zero, List.getD_cons_succ, bind_s, ltF (a := k + (cntL Rw.ct x.inp : Nat)) (b := 0) (by omega), ltF (a := k + (cntL Rw.ct x.inp : Nat) + (cntL Rw.ct x.heap : Nat)) (b := 0) (by omega), ltF (a := k + (cntL Rw.ct x.inp : Nat) + (cntL Rw.ct x.heap : Nat) + (cntL Rw.ct x.dfd : Nat)) (b := 0) (by omega), ltF (a := k + (cntL Rw.ct x.inp : Nat) + (cntL Rw.ct x.heap : Nat) + (cntL Rw.ct x.dfd : Nat) + (cntL Rw.ct x.out : Nat)) (b := 0) (by omega), ltF (a := k + (cntL Rw.ct x.inp : Nat) + (cntL Rw.ct x.heap : Nat) + (cntL Rw.ct x.dfd : Nat) + (cntL Rw.ct x.out : Nat) + (cntL (cntL Rw.ct) x.runs : Nat)) (b := 0) (by omega), cond_false]
theorem to_Checkpoint (x : Ck) (h : x.sz ≤ 1048576) : callI tE f_laws_toCheckpoint [.sl (x.so.inp.map Rw.e), .int x.so.pos, .sl (x.so.heap.map Rw.e), .sl (x.so.dfd.map Rw.e), .sl (x.so.out.map Rw.e), .sl (x.so.runs.map rsE), .int x.so.lp, .int x.so.rp, .int x.so.ph, .int x.so.wr, .sl (x.em.map Rw.e)] = some [.sl (x.so.inp.map Rw.e), .int x.so.pos, .sl (x.so.heap.map Rw.e), .sl (x.so.dfd.map Rw.e), .sl (x.so.out.map Rw.e), .sl (x.so.runs.map rsE), .int x.so.lp, .int x.so.rp, .int x.so.ph, .int x.so.wr, .sl (x.em.map Rw.e)] := by
  simp only [c_laws_toCheckpoint, to_Sorter x.so (by simp only [Ck.sz] at h; omega), to_RowS x.em (by simp only [Ck.sz] at h; omega), gn_c, gb_c, gs_c, gl_c, tk_s, tk_0, List.drop_succ_cons, List.drop_zero, List.headD_cons, List.getD_cons_zero, List.getD_cons_succ, bind_s]
theorem sz_Checkpoint (x : Ck) (n : Int) (h0 : 0 ≤ n) (h1 : n ≤ 1048576) (h : x.bd) : callI tE f_laws_szCheckpoint [.sl (x.so.inp.map Rw.e), .int x.so.pos, .sl (x.so.heap.map Rw.e), .sl (x.so.dfd.map Rw.e), .sl (x.so.out.map Rw.e), .sl (x.so.runs.map rsE), .int x.so.lp, .int x.so.rp, .int x.so.ph, .int x.so.wr, .sl (x.em.map Rw.e), .int n] = some [.int (szv n (x.sz))] := by
  rw [c_laws_szCheckpoint]
  simp only [Ck.sz]
  obtain ⟨b0, b1⟩ := h
  rw [sz_Sorter x.so n (by omega) (by omega) b0]
  simp only [gn_c, gb_c, gs_c, gl_c, tk_s, tk_0, List.drop_succ_cons, List.drop_zero, List.headD_cons, List.getD_cons_zero, List.getD_cons_succ, bind_s]
  refine sz_chain (by omega) fun h0 g0 => ?_
  rw [g0]
  rw [sz_RowS x.em (n - (x.so.sz : Nat)) (by omega) (by omega) b1]
  simp only [gn_c, gb_c, gs_c, gl_c, tk_s, tk_0, List.drop_succ_cons, List.drop_zero, List.headD_cons, List.getD_cons_zero, List.getD_cons_succ, bind_s]
  exact sz_last (by omega)
theorem eq_Checkpoint (x y : Ck) (h : x.sz ≤ 1152921504606846976) : callI tE f_laws_eqCheckpoint [.sl (x.so.inp.map Rw.e), .int x.so.pos, .sl (x.so.heap.map Rw.e), .sl (x.so.dfd.map Rw.e), .sl (x.so.out.map Rw.e), .sl (x.so.runs.map rsE), .int x.so.lp, .int x.so.rp, .int x.so.ph, .int x.so.wr, .sl (x.em.map Rw.e), .sl (y.so.inp.map Rw.e), .int y.so.pos, .sl (y.so.heap.map Rw.e), .sl (y.so.dfd.map Rw.e), .sl (y.so.out.map Rw.e), .sl (y.so.runs.map rsE), .int y.so.lp, .int y.so.rp, .int y.so.ph, .int y.so.wr, .sl (y.em.map Rw.e)] = some [.bool (decide (x = y))] := by
  have e : decide (x = y) = (decide (x.so = y.so) && (decide (x.em = y.em))) := by
    cases x; cases y
    simp only [Ck.mk.injEq, Bool.decide_and]
  simp only [eq_Sorter x.so y.so (by simp only [Ck.sz] at h; omega), eq_RowS x.em y.em (by simp only [Ck.sz] at h; omega), gn_c, gb_c, gs_c, gl_c, tk_s, tk_0, List.drop_succ_cons, List.drop_zero, List.headD_cons, List.getD_cons_zero, List.getD_cons_succ, bind_s, eqI, eqBo, e, bif_and, Bool.and_true, c_laws_eqCheckpoint]
theorem mark_Checkpoint (x : Ck) (k : Int) (h0 : 0 ≤ k) (h1 : k + (cntL Rw.ct x.so.inp : Nat) + (cntL Rw.ct x.so.heap : Nat) + (cntL Rw.ct x.so.dfd : Nat) + (cntL Rw.ct x.so.out : Nat) + (cntL (cntL Rw.ct) x.so.runs : Nat) + (cntL Rw.ct x.em : Nat) < 4611686018427387904) (h2 : x.sz ≤ 1152921504606846976) : callI tE f_laws_markCheckpoint [.sl (x.so.inp.map Rw.e), .int x.so.pos, .sl (x.so.heap.map Rw.e), .sl (x.so.dfd.map Rw.e), .sl (x.so.out.map Rw.e), .sl (x.so.runs.map rsE), .int x.so.lp, .int x.so.rp, .int x.so.ph, .int x.so.wr, .sl (x.em.map Rw.e), .int k] = some [.int (k + (cntL Rw.ct x.so.inp : Nat) + (cntL Rw.ct x.so.heap : Nat) + (cntL Rw.ct x.so.dfd : Nat) + (cntL Rw.ct x.so.out : Nat) + (cntL (cntL Rw.ct) x.so.runs : Nat) + (cntL Rw.ct x.em : Nat)), .sl ((mkL Rw.mkm Rw.ct x.so.inp k).map Rw.e), .sl ((mkL Rw.mkm Rw.ct x.so.heap (k + (cntL Rw.ct x.so.inp : Nat))).map Rw.e), .sl ((mkL Rw.mkm Rw.ct x.so.dfd (k + (cntL Rw.ct x.so.inp : Nat) + (cntL Rw.ct x.so.heap : Nat))).map Rw.e), .sl ((mkL Rw.mkm Rw.ct x.so.out (k + (cntL Rw.ct x.so.inp : Nat) + (cntL Rw.ct x.so.heap : Nat) + (cntL Rw.ct x.so.dfd : Nat))).map Rw.e), .sl ((mkL (mkL Rw.mkm Rw.ct) (cntL Rw.ct) x.so.runs (k + (cntL Rw.ct x.so.inp : Nat) + (cntL Rw.ct x.so.heap : Nat) + (cntL Rw.ct x.so.dfd : Nat) + (cntL Rw.ct x.so.out : Nat))).map rsE), .sl ((mkL Rw.mkm Rw.ct x.em (k + (cntL Rw.ct x.so.inp : Nat) + (cntL Rw.ct x.so.heap : Nat) + (cntL Rw.ct x.so.dfd : Nat) + (cntL Rw.ct x.so.out : Nat) + (cntL (cntL Rw.ct) x.so.runs : Nat))).map Rw.e)] := by
  simp only [c_laws_markCheckpoint, mark_Sorter x.so k (by omega) (by omega) (by simp only [Ck.sz] at h2; omega), mark_RowS x.em (k + (cntL Rw.ct x.so.inp : Nat) + (cntL Rw.ct x.so.heap : Nat) + (cntL Rw.ct x.so.dfd : Nat) + (cntL Rw.ct x.so.out : Nat) + (cntL (cntL Rw.ct) x.so.runs : Nat)) (by omega) (by omega) (by simp only [Ck.sz] at h2; omega), gn_c, gb_c, gs_c, gl_c, tk_s, tk_0, List.drop_succ_cons, List.drop_zero, List.headD_cons, List.getD_cons_zero, List.getD_cons_succ, bind_s]
theorem held_Checkpoint (x : Ck) (k : Int) (h0 : 0 ≤ k) (h1 : k + (cntL Rw.ct x.so.inp : Nat) + (cntL Rw.ct x.so.heap : Nat) + (cntL Rw.ct x.so.dfd : Nat) + (cntL Rw.ct x.so.out : Nat) + (cntL (cntL Rw.ct) x.so.runs : Nat) + (cntL Rw.ct x.em : Nat) < 4611686018427387904) (h2 : x.sz ≤ 1152921504606846976) : callI tE f_laws_heldCheckpoint [.sl ((mkL Rw.mkm Rw.ct x.so.inp k).map Rw.e), .int x.so.pos, .sl ((mkL Rw.mkm Rw.ct x.so.heap (k + (cntL Rw.ct x.so.inp : Nat))).map Rw.e), .sl ((mkL Rw.mkm Rw.ct x.so.dfd (k + (cntL Rw.ct x.so.inp : Nat) + (cntL Rw.ct x.so.heap : Nat))).map Rw.e), .sl ((mkL Rw.mkm Rw.ct x.so.out (k + (cntL Rw.ct x.so.inp : Nat) + (cntL Rw.ct x.so.heap : Nat) + (cntL Rw.ct x.so.dfd : Nat))).map Rw.e), .sl ((mkL (mkL Rw.mkm Rw.ct) (cntL Rw.ct) x.so.runs (k + (cntL Rw.ct x.so.inp : Nat) + (cntL Rw.ct x.so.heap : Nat) + (cntL Rw.ct x.so.dfd : Nat) + (cntL Rw.ct x.so.out : Nat))).map rsE), .int x.so.lp, .int x.so.rp, .int x.so.ph, .int x.so.wr, .sl ((mkL Rw.mkm Rw.ct x.em (k + (cntL Rw.ct x.so.inp : Nat) + (cntL Rw.ct x.so.heap : Nat) + (cntL Rw.ct x.so.dfd : Nat) + (cntL Rw.ct x.so.out : Nat) + (cntL (cntL Rw.ct) x.so.runs : Nat))).map Rw.e), .int k] = some [.int (k + (cntL Rw.ct x.so.inp : Nat) + (cntL Rw.ct x.so.heap : Nat) + (cntL Rw.ct x.so.dfd : Nat) + (cntL Rw.ct x.so.out : Nat) + (cntL (cntL Rw.ct) x.so.runs : Nat) + (cntL Rw.ct x.em : Nat))] := by
  simp only [c_laws_heldCheckpoint, held_Sorter x.so k (by omega) (by omega) (by simp only [Ck.sz] at h2; omega), held_RowS x.em (k + (cntL Rw.ct x.so.inp : Nat) + (cntL Rw.ct x.so.heap : Nat) + (cntL Rw.ct x.so.dfd : Nat) + (cntL Rw.ct x.so.out : Nat) + (cntL (cntL Rw.ct) x.so.runs : Nat)) (by omega) (by omega) (by simp only [Ck.sz] at h2; omega), gn_c, gb_c, gs_c, gl_c, tk_s, tk_0, List.drop_succ_cons, List.drop_zero, List.headD_cons, List.getD_cons_zero, List.getD_cons_succ, bind_s, ltF (a := k + (cntL Rw.ct x.so.inp : Nat) + (cntL Rw.ct x.so.heap : Nat) + (cntL Rw.ct x.so.dfd : Nat) + (cntL Rw.ct x.so.out : Nat) + (cntL (cntL Rw.ct) x.so.runs : Nat)) (b := 0) (by omega), ltF (a := k + (cntL Rw.ct x.so.inp : Nat) + (cntL Rw.ct x.so.heap : Nat) + (cntL Rw.ct x.so.dfd : Nat) + (cntL Rw.ct x.so.out : Nat) + (cntL (cntL Rw.ct) x.so.runs : Nat) + (cntL Rw.ct x.em : Nat)) (b := 0) (by omega), cond_false]
end Go.Proofs.Ytbmafhpbinjgaaa.Vai
