/- The laws' words over named data: made anew, measured, compared, marked, looked at; no condition. -/
import Derived.Test.YtbmafhpbinjgaaaEqD
import Derived.Test.YtbmafhpbinjgaaaT2
import Derived.Test.YtbmafhpbinjgaaaPLA
import Derived.Test.YtbmafhpbinjgaaaPLC
namespace Go.Proofs.Ytbmafhpbinjgaaa.Vai
open Go
set_option linter.unusedSimpArgs false
set_option linter.unusedVariables false
set_option linter.unnecessarySimpa false
set_option maxRecDepth 10000
theorem to_Pair (x : Pr) : callI tE f_laws_toPair [.int x.l.k, .int x.l.v, .int x.l.w, .int x.r.k, .int x.r.v, .int x.r.w, .bool x.m] = some [.int x.l.k, .int x.l.v, .int x.l.w, .int x.r.k, .int x.r.v, .int x.r.w, .bool x.m] := by
  simp only [c_laws_toPair, to_Row x.l, to_Row x.r, gn_c, gb_c, gs_c, gl_c, tk_s, tk_0, List.drop_succ_cons, List.drop_zero, List.headD_cons, List.getD_cons_zero, List.getD_cons_succ, bind_s]
theorem to_PairS (l : List Pr) (h : l.length ≤ 1048576) : callI tE f_laws_toPairS [.sl (l.map Pr.e)] = some [.sl (l.map Pr.e)] := by
  have hl : l.length ≤ 1048576 := h
  rw [c_laws_toPairS]
  have := to_loop (L := L_laws_toPairS_0) (e := Pr.e) (z := [.int 0, .int 0, .int 0, .int 0, .int 0, .int 0, .bool false]) (P := fun a => (fun _ => 0) a ≤ 1048576) (fun p q p' q' a _ hpl hlt => by
    rw [L_laws_toPairS_0_eq]
    simp only [lt_mid, in_mid, tn_c, at_mid, cond_true, cond_false, gn_c, gb_c, gs_c, gl_c, tk_s, tk_0, List.drop_succ_cons, List.drop_zero, List.headD_cons, List.getD_cons_zero, List.getD_cons_succ, bind_s, in_mid' hpl, upd_mid' hpl, Pr.e, to_Pair a, setRange, List.set_cons_zero, List.set_cons_succ]) (fun p p' hpl => by
    rw [L_laws_toPairS_0_eq, lt_end, cond_false]) l [] [] rfl (fun a ha => Nat.zero_le _) (by simp; omega)
  simp only [List.nil_append, List.length_nil, Int.ofNat_zero, Int.natCast_zero] at this
  rw [le0_len, eqI_self, fitT (by show (l.map Pr.e).length * _ ≤ _; rw [List.length_map]; omega)]
  simp only [Bool.and_self, cond_true]
  rw [show tn (lenI (l.map Pr.e)) = l.length by show (l.map Pr.e).length = _; simp]
  exact this
theorem sz_PairS (l : List Pr) (n : Int) (h0 : 0 ≤ n) (h1 : n ≤ 1048576) (h : BdL Pr.bd l) : callI tE f_laws_szPairS [.sl (l.map Pr.e), .int n] = some [.int (szv n l.length)] := by
  rw [c_laws_szPairS]
  exact sz_flat h0 h1 (by simp) h.1
theorem eq_Pair (x y : Pr) : callI tE f_laws_eqPair [.int x.l.k, .int x.l.v, .int x.l.w, .int x.r.k, .int x.r.v, .int x.r.w, .bool x.m, .int y.l.k, .int y.l.v, .int y.l.w, .int y.r.k, .int y.r.v, .int y.r.w, .bool y.m] = some [.bool (decide (x = y))] := by
  have e : decide (x = y) = (decide (x.l = y.l) && (decide (x.r = y.r) && (decide (x.m = y.m)))) := by
    cases x; cases y
    simp only [Pr.mk.injEq, Bool.decide_and]
  simp only [eq_Row x.l y.l, eq_Row x.r y.r, gn_c, gb_c, gs_c, gl_c, tk_s, tk_0, List.drop_succ_cons, List.drop_zero, List.headD_cons, List.getD_cons_zero, List.getD_cons_succ, bind_s, eqI, eqBo, e, bif_and, Bool.and_true, c_laws_eqPair]
theorem eq_PairS (l l' : List Pr) (h : l.length ≤ 1152921504606846976) : callI tE f_laws_eqPairS [.sl (l.map Pr.e), .sl (l'.map Pr.e)] = some [.bool (decide (l = l'))] := by
  have hl : l.length ≤ 1152921504606846976 := h
  rw [c_laws_eqPairS]
  by_cases hll : l.length = l'.length
  · rw [eq_len hll, Bool.not_true, cond_false]
    have := eq_loop (L := L_laws_eqPairS_0) (e := Pr.e) (P := fun a => (fun _ => 0) a ≤ 1152921504606846976) (fun p q p' q' a b _ hpl hlt => by
      rw [L_laws_eqPairS_0_eq]
      simp only [lt_mid, in_mid, tn_c, at_mid, cond_true, cond_false, gn_c, gb_c, gs_c, gl_c, tk_s, tk_0, List.drop_succ_cons, List.drop_zero, List.headD_cons, List.getD_cons_zero, List.getD_cons_succ, bind_s, in_mid' hpl, at_mid' hpl, Pr.e, eq_Pair a b, bifn]) (fun p p' hpl => by
      rw [L_laws_eqPairS_0_eq, lt_end, cond_false]) l l' [] [] rfl hll (fun a ha => Nat.zero_le _) (by simp; omega)
    simpa using this
  · rw [ne_len hll, Bool.not_false, cond_true, decide_eq_false (fun e => hll (by rw [e]))]
theorem mark_PairS (l : List Pr) (k : Int) (h0 : 0 ≤ k) (h1 : k + cntL Pr.ct l < 4611686018427387904) (h2 : l.length ≤ 1152921504606846976) : callI tE f_laws_markPairS [.sl (l.map Pr.e), .int k] = some [.int (k + cntL Pr.ct l), .sl ((mkL Pr.mkm Pr.ct l k).map Pr.e)] := by
  have hl : l.length ≤ 1152921504606846976 := h2
  rw [c_laws_markPairS]
  have := mark_loop (L := L_laws_markPairS_0) (e := Pr.e) (f := Pr.mkm) (c := Pr.ct) (g := (fun _ => 0)) (fun p q a k h0 hc hg hlt => by
    rw [show k + ((Pr.ct a : Nat) : Int) = k + 1 + 1 + 1 + 1 + 1 + 1 + 1 by simp only [Pr.ct]; omega]
    rw [L_laws_markPairS_0_eq]
    simp only [lt_mid, in_mid, tn_c, at_mid, cond_true, cond_false, gn_c, gb_c, gs_c, gl_c, tk_s, tk_0, List.drop_succ_cons, List.drop_zero, List.headD_cons, List.getD_cons_zero, List.getD_cons_succ, bind_s, upd_mid, Pr.e, Pr.mkm, w64_id (n := k + 1) (by simp only [Pr.ct] at hc; omega), w64_id (n := k + 1 + 1) (by simp only [Pr.ct] at hc; omega), w64_id (n := k + 1 + 1 + 1) (by simp only [Pr.ct] at hc; omega), w64_id (n := k + 1 + 1 + 1 + 1) (by simp only [Pr.ct] at hc; omega), w64_id (n := k + 1 + 1 + 1 + 1 + 1) (by simp only [Pr.ct] at hc; omega), w64_id (n := k + 1 + 1 + 1 + 1 + 1 + 1) (by simp only [Pr.ct] at hc; omega), w64_id (n := k + 1 + 1 + 1 + 1 + 1 + 1 + 1) (by simp only [Pr.ct] at hc; omega), setRange, List.set_cons_zero, List.set_cons_succ]) (fun p k => by
    rw [L_laws_markPairS_0_eq, lt_end, cond_false]) l [] k h0 h1 (by rw [szL_flat]; exact h2) (by simp; omega)
  simpa using this
theorem held_PairS (l : List Pr) (k : Int) (h0 : 0 ≤ k) (h1 : k + cntL Pr.ct l < 4611686018427387904) (h2 : l.length ≤ 1152921504606846976) : callI tE f_laws_heldPairS [.sl ((mkL Pr.mkm Pr.ct l k).map Pr.e), .int k] = some [.int (k + cntL Pr.ct l)] := by
  have hl : l.length ≤ 1152921504606846976 := h2
  rw [c_laws_heldPairS]
  have := held_loop (L := L_laws_heldPairS_0) (e := Pr.e) (f := Pr.mkm) (c := Pr.ct) (g := (fun _ => 0)) (fun p q a k h0 hc hg hlt => by
    rw [show k + ((Pr.ct a : Nat) : Int) = k + 1 + 1 + 1 + 1 + 1 + 1 + 1 by simp only [Pr.ct]; omega]
    rw [L_laws_heldPairS_0_eq]
    simp only [lt_mid, in_mid, tn_c, at_mid, cond_true, cond_false, gn_c, gb_c, gs_c, gl_c, tk_s, tk_0, List.drop_succ_cons, List.drop_zero, List.headD_cons, List.getD_cons_zero, List.getD_cons_succ, bind_s, Pr.e, Pr.mkm, w64_id (n := k + 1) (by simp only [Pr.ct] at hc; omega), w64_id (n := k + 1 + 1) (by simp only [Pr.ct] at hc; omega), w64_id (n := k + 1 + 1 + 1) (by simp only [Pr.ct] at hc; omega), w64_id (n := k + 1 + 1 + 1 + 1) (by simp only [Pr.ct] at hc; omega), w64_id (n := k + 1 + 1 + 1 + 1 + 1) (by simp only [Pr.ct] at hc; omega), w64_id (n := k + 1 + 1 + 1 + 1 + 1 + 1) (by simp only [Pr.ct] at hc; omega), w64_id (n := k + 1 + 1 + 1 + 1 + 1 + 1 + 1) (by simp only [Pr.ct] at hc; omega), eqI_self, eqBo_self, Bool.not_true, ltF_nn h0]) (fun p k => by
    rw [L_laws_heldPairS_0_eq, lt_end, cond_false]) l [] k h0 h1 (by rw [szL_flat]; exact h2) (by simp; omega)
  simpa using this
theorem to_Group (x : Gr) : callI tE f_laws_toGroup [.int x.key, .int x.cnt, .int x.sum, .int x.lo, .int x.hi] = some [.int x.key, .int x.cnt, .int x.sum, .int x.lo, .int x.hi] := by
  simp only [c_laws_toGroup, gn_c, gb_c, gs_c, gl_c, tk_s, tk_0, List.drop_succ_cons, List.drop_zero, List.headD_cons, List.getD_cons_zero, List.getD_cons_succ, bind_s]
theorem to_GroupS (l : List Gr) (h : l.length ≤ 1048576) : callI tE f_laws_toGroupS [.sl (l.map Gr.e)] = some [.sl (l.map Gr.e)] := by
  have hl : l.length ≤ 1048576 := h
  rw [c_laws_toGroupS]
  have := to_loop (L := L_laws_toGroupS_0) (e := Gr.e) (z := [.int 0, .int 0, .int 0, .int 0, .int 0]) (P := fun a => (fun _ => 0) a ≤ 1048576) (fun p q p' q' a _ hpl hlt => by
    rw [L_laws_toGroupS_0_eq]
    simp only [lt_mid, in_mid, tn_c, at_mid, cond_true, cond_false, gn_c, gb_c, gs_c, gl_c, tk_s, tk_0, List.drop_succ_cons, List.drop_zero, List.headD_cons, List.getD_cons_zero, List.getD_cons_succ, bind_s, in_mid' hpl, upd_mid' hpl, Gr.e, to_Group a, setRange, List.set_cons_zero, List.set_cons_succ]) (fun p p' hpl => by
    rw [L_laws_toGroupS_0_eq, lt_end, cond_false]) l [] [] rfl (fun a ha => Nat.zero_le _) (by simp; omega)
  simp only [List.nil_append, List.length_nil, Int.ofNat_zero, Int.natCast_zero] at this
  rw [le0_len, eqI_self, fitT (by show (l.map Gr.e).length * _ ≤ _; rw [List.length_map]; omega)]
  simp only [Bool.and_self, cond_true]
  rw [show tn (lenI (l.map Gr.e)) = l.length by show (l.map Gr.e).length = _; simp]
  exact this
theorem sz_GroupS (l : List Gr) (n : Int) (h0 : 0 ≤ n) (h1 : n ≤ 1048576) (h : BdL Gr.bd l) : callI tE f_laws_szGroupS [.sl (l.map Gr.e), .int n] = some [.int (szv n l.length)] := by
  rw [c_laws_szGroupS]
  exact sz_flat h0 h1 (by simp) h.1
theorem eq_Group (x y : Gr) : callI tE f_laws_eqGroup [.int x.key, .int x.cnt, .int x.sum, .int x.lo, .int x.hi, .int y.key, .int y.cnt, .int y.sum, .int y.lo, .int y.hi] = some [.bool (decide (x = y))] := by
  have e : decide (x = y) = (decide (x.key = y.key) && (decide (x.cnt = y.cnt) && (decide (x.sum = y.sum) && (decide (x.lo = y.lo) && (decide (x.hi = y.hi)))))) := by
    cases x; cases y
    simp only [Gr.mk.injEq, Bool.decide_and]
  simp only [gn_c, gb_c, gs_c, gl_c, tk_s, tk_0, List.drop_succ_cons, List.drop_zero, List.headD_cons, List.getD_cons_zero, List.getD_cons_succ, bind_s, eqI, eqBo, e, bif_and, Bool.and_true, c_laws_eqGroup]
theorem eq_GroupS (l l' : List Gr) (h : l.length ≤ 1152921504606846976) : callI tE f_laws_eqGroupS [.sl (l.map Gr.e), .sl (l'.map Gr.e)] = some [.bool (decide (l = l'))] := by
  have hl : l.length ≤ 1152921504606846976 := h
  rw [c_laws_eqGroupS]
  by_cases hll : l.length = l'.length
  · rw [eq_len hll, Bool.not_true, cond_false]
    have := eq_loop (L := L_laws_eqGroupS_0) (e := Gr.e) (P := fun a => (fun _ => 0) a ≤ 1152921504606846976) (fun p q p' q' a b _ hpl hlt => by
      rw [L_laws_eqGroupS_0_eq]
      simp only [lt_mid, in_mid, tn_c, at_mid, cond_true, cond_false, gn_c, gb_c, gs_c, gl_c, tk_s, tk_0, List.drop_succ_cons, List.drop_zero, List.headD_cons, List.getD_cons_zero, List.getD_cons_succ, bind_s, in_mid' hpl, at_mid' hpl, Gr.e, eq_Group a b, bifn]) (fun p p' hpl => by
      rw [L_laws_eqGroupS_0_eq, lt_end, cond_false]) l l' [] [] rfl hll (fun a ha => Nat.zero_le _) (by simp; omega)
    simpa using this
  · rw [ne_len hll, Bool.not_false, cond_true, decide_eq_false (fun e => hll (by rw [e]))]
theorem mark_GroupS (l : List Gr) (k : Int) (h0 : 0 ≤ k) (h1 : k + cntL Gr.ct l < 4611686018427387904) (h2 : l.length ≤ 1152921504606846976) : callI tE f_laws_markGroupS [.sl (l.map Gr.e), .int k] = some [.int (k + cntL Gr.ct l), .sl ((mkL Gr.mkm Gr.ct l k).map Gr.e)] := by
  have hl : l.length ≤ 1152921504606846976 := h2
  rw [c_laws_markGroupS]
  have := mark_loop (L := L_laws_markGroupS_0) (e := Gr.e) (f := Gr.mkm) (c := Gr.ct) (g := (fun _ => 0)) (fun p q a k h0 hc hg hlt => by
    rw [show k + ((Gr.ct a : Nat) : Int) = k + 1 + 1 + 1 + 1 + 1 by simp only [Gr.ct]; omega]
    rw [L_laws_markGroupS_0_eq]
    simp only [lt_mid, in_mid, tn_c, at_mid, cond_true, cond_false, gn_c, gb_c, gs_c, gl_c, tk_s, tk_0, List.drop_succ_cons, List.drop_zero, List.headD_cons, List.getD_cons_zero, List.getD_cons_succ, bind_s, upd_mid, Gr.e, Gr.mkm, w64_id (n := k + 1) (by simp only [Gr.ct] at hc; omega), w64_id (n := k + 1 + 1) (by simp only [Gr.ct] at hc; omega), w64_id (n := k + 1 + 1 + 1) (by simp only [Gr.ct] at hc; omega), w64_id (n := k + 1 + 1 + 1 + 1) (by simp only [Gr.ct] at hc; omega), w64_id (n := k + 1 + 1 + 1 + 1 + 1) (by simp only [Gr.ct] at hc; omega), setRange, List.set_cons_zero, List.set_cons_succ]) (fun p k => by
    rw [L_laws_markGroupS_0_eq, lt_end, cond_false]) l [] k h0 h1 (by rw [szL_flat]; exact h2) (by simp; omega)
  simpa using this
theorem held_GroupS (l : List Gr) (k : Int) (h0 : 0 ≤ k) (h1 : k + cntL Gr.ct l < 4611686018427387904) (h2 : l.length ≤ 1152921504606846976) : callI tE f_laws_heldGroupS [.sl ((mkL Gr.mkm Gr.ct l k).map Gr.e), .int k] = some [.int (k + cntL Gr.ct l)] := by
  have hl : l.length ≤ 1152921504606846976 := h2
  rw [c_laws_heldGroupS]
  have := held_loop (L := L_laws_heldGroupS_0) (e := Gr.e) (f := Gr.mkm) (c := Gr.ct) (g := (fun _ => 0)) (fun p q a k h0 hc hg hlt => by
    rw [show k + ((Gr.ct a : Nat) : Int) = k + 1 + 1 + 1 + 1 + 1 by simp only [Gr.ct]; omega]
    rw [L_laws_heldGroupS_0_eq]
    simp only [lt_mid, in_mid, tn_c, at_mid, cond_true, cond_false, gn_c, gb_c, gs_c, gl_c, tk_s, tk_0, List.drop_succ_cons, List.drop_zero, List.headD_cons, List.getD_cons_zero, List.getD_cons_succ, bind_s, Gr.e, Gr.mkm, w64_id (n := k + 1) (by simp only [Gr.ct] at hc; omega), w64_id (n := k + 1 + 1) (by simp only [Gr.ct] at hc; omega), w64_id (n := k + 1 + 1 + 1) (by simp only [Gr.ct] at hc; omega), w64_id (n := k + 1 + 1 + 1 + 1) (by simp only [Gr.ct] at hc; omega), w64_id (n := k + 1 + 1 + 1 + 1 + 1) (by simp only [Gr.ct] at hc; omega), eqI_self, eqBo_self, Bool.not_true, ltF_nn h0]) (fun p k => by
    rw [L_laws_heldGroupS_0_eq, lt_end, cond_false]) l [] k h0 h1 (by rw [szL_flat]; exact h2) (by simp; omega)
  simpa using this
theorem to_Task (x : Tk) (h : x.sz ≤ 1048576) : callI tE f_laws_toTask [.int x.kind, .sl (x.left.map Rw.e), .sl (x.right.map Rw.e), .sl (x.mat.map boE), .int x.level] = some [.int x.kind, .sl (x.left.map Rw.e), .sl (x.right.map Rw.e), .sl (x.mat.map boE), .int x.level] := by
  simp only [c_laws_toTask, to_RowS x.left (by simp only [Tk.sz] at h; omega), to_RowS x.right (by simp only [Tk.sz] at h; omega), to_BoolS x.mat (by simp only [Tk.sz] at h; omega), gn_c, gb_c, gs_c, gl_c, tk_s, tk_0, List.drop_succ_cons, List.drop_zero, List.headD_cons, List.getD_cons_zero, List.getD_cons_succ, bind_s]
theorem to_TaskS (l : List Tk) (h : szL Tk.sz l ≤ 1048576) : callI tE f_laws_toTaskS [.sl (l.map Tk.e)] = some [.sl (l.map Tk.e)] := by
  have hl : l.length ≤ 1048576 := (Nat.le_trans (szL_len _ _) h)
  rw [c_laws_toTaskS]
  have := to_loop (L := L_laws_toTaskS_0) (e := Tk.e) (z := [.int 0, .sl [], .sl [], .sl [], .int 0]) (P := fun a => Tk.sz a ≤ 1048576) (fun p q p' q' a hP hpl hlt => by
    rw [L_laws_toTaskS_0_eq]
    simp only [lt_mid, in_mid, tn_c, at_mid, cond_true, cond_false, gn_c, gb_c, gs_c, gl_c, tk_s, tk_0, List.drop_succ_cons, List.drop_zero, List.headD_cons, List.getD_cons_zero, List.getD_cons_succ, bind_s, in_mid' hpl, upd_mid' hpl, Tk.e, to_Task a hP, setRange, List.set_cons_zero, List.set_cons_succ]) (fun p p' hpl => by
    rw [L_laws_toTaskS_0_eq, lt_end, cond_false]) l [] [] rfl (fun a ha => Nat.le_trans (szL_mem ha) h) (by simp; omega)
  simp only [List.nil_append, List.length_nil, Int.ofNat_zero, Int.natCast_zero] at this
  rw [le0_len, eqI_self, fitT (by show (l.map Tk.e).length * _ ≤ _; rw [List.length_map]; omega)]
  simp only [Bool.and_self, cond_true]
  rw [show tn (lenI (l.map Tk.e)) = l.length by show (l.map Tk.e).length = _; simp]
  exact this
theorem sz_Task (x : Tk) (n : Int) (h0 : 0 ≤ n) (h1 : n ≤ 1048576) (h : x.bd) : callI tE f_laws_szTask [.int x.kind, .sl (x.left.map Rw.e), .sl (x.right.map Rw.e), .sl (x.mat.map boE), .int x.level, .int n] = some [.int (szv n (x.sz))] := by
  rw [c_laws_szTask]
  simp only [Tk.sz]
  obtain ⟨_, b1, b2, b3, _⟩ := h
  rw [sz_RowS x.left n (by omega) (by omega) b1]
  simp only [gn_c, gb_c, gs_c, gl_c, tk_s, tk_0, List.drop_succ_cons, List.drop_zero, List.headD_cons, List.getD_cons_zero, List.getD_cons_succ, bind_s]
  refine sz_chain (by omega) fun h0 g0 => ?_
  rw [g0]
  rw [sz_RowS x.right (n - (x.left.length : Nat)) (by omega) (by omega) b2]
  simp only [gn_c, gb_c, gs_c, gl_c, tk_s, tk_0, List.drop_succ_cons, List.drop_zero, List.headD_cons, List.getD_cons_zero, List.getD_cons_succ, bind_s]
  refine sz_chain (by omega) fun h1 g1 => ?_
  rw [g1]
  rw [sz_BoolS x.mat (n - (x.left.length : Nat) - (x.right.length : Nat)) (by omega) (by omega) b3]
  simp only [gn_c, gb_c, gs_c, gl_c, tk_s, tk_0, List.drop_succ_cons, List.drop_zero, List.headD_cons, List.getD_cons_zero, List.getD_cons_succ, bind_s]
  exact sz_last (by omega)
theorem sz_TaskS (l : List Tk) (n : Int) (h0 : 0 ≤ n) (h1 : n ≤ 1048576) (h : BdL Tk.bd l) : callI tE f_laws_szTaskS [.sl (l.map Tk.e), .int n] = some [.int (szv n (szL Tk.sz l))] := by
  have hl : l.length ≤ 1152921504606846976 := h.1
  rw [c_laws_szTaskS, szL_cnt]
  refine sz_len (X := fun m => L_laws_szTaskS_0 (l.map Tk.e) m 0) h0 h1 (List.length_map _) hl fun h2 => ?_
  have := sz_loop (L := L_laws_szTaskS_0) (e := Tk.e) (g := Tk.sz) (P := Tk.bd) (fun p q a n hP h0 h1 hlt => by
    rw [L_laws_szTaskS_0_eq]
    simp only [lt_mid, in_mid, tn_c, at_mid, cond_true, cond_false, gn_c, gb_c, gs_c, gl_c, tk_s, tk_0, List.drop_succ_cons, List.drop_zero, List.headD_cons, List.getD_cons_zero, List.getD_cons_succ, bind_s, Tk.e, sz_Task a n h0 h1 hP]) (fun p n => by
    rw [L_laws_szTaskS_0_eq, lt_end, cond_false]) l [] (n - l.length) (fun a ha => h.2 a ha) (by omega) (by omega) (by simp; omega)
  simpa using this
theorem eq_Task (x y : Tk) (h : x.sz ≤ 1152921504606846976) : callI tE f_laws_eqTask [.int x.kind, .sl (x.left.map Rw.e), .sl (x.right.map Rw.e), .sl (x.mat.map boE), .int x.level, .int y.kind, .sl (y.left.map Rw.e), .sl (y.right.map Rw.e), .sl (y.mat.map boE), .int y.level] = some [.bool (decide (x = y))] := by
  have e : decide (x = y) = (decide (x.kind = y.kind) && (decide (x.left = y.left) && (decide (x.right = y.right) && (decide (x.mat = y.mat) && (decide (x.level = y.level)))))) := by
    cases x; cases y
    simp only [Tk.mk.injEq, Bool.decide_and]
  simp only [eq_RowS x.left y.left (by simp only [Tk.sz] at h; omega), eq_RowS x.right y.right (by simp only [Tk.sz] at h; omega), eq_BoolS x.mat y.mat (by simp only [Tk.sz] at h; omega), gn_c, gb_c, gs_c, gl_c, tk_s, tk_0, List.drop_succ_cons, List.drop_zero, List.headD_cons, List.getD_cons_zero, List.getD_cons_succ, bind_s, eqI, eqBo, e, bif_and, Bool.and_true, c_laws_eqTask]
theorem eq_TaskS (l l' : List Tk) (h : szL Tk.sz l ≤ 1152921504606846976) : callI tE f_laws_eqTaskS [.sl (l.map Tk.e), .sl (l'.map Tk.e)] = some [.bool (decide (l = l'))] := by
  have hl : l.length ≤ 1152921504606846976 := (Nat.le_trans (szL_len _ _) h)
  rw [c_laws_eqTaskS]
  by_cases hll : l.length = l'.length
  · rw [eq_len hll, Bool.not_true, cond_false]
    have := eq_loop (L := L_laws_eqTaskS_0) (e := Tk.e) (P := fun a => Tk.sz a ≤ 1152921504606846976) (fun p q p' q' a b hP hpl hlt => by
      rw [L_laws_eqTaskS_0_eq]
      simp only [lt_mid, in_mid, tn_c, at_mid, cond_true, cond_false, gn_c, gb_c, gs_c, gl_c, tk_s, tk_0, List.drop_succ_cons, List.drop_zero, List.headD_cons, List.getD_cons_zero, List.getD_cons_succ, bind_s, in_mid' hpl, at_mid' hpl, Tk.e, eq_Task a b hP, bifn]) (fun p p' hpl => by
      rw [L_laws_eqTaskS_0_eq, lt_end, cond_false]) l l' [] [] rfl hll (fun a ha => Nat.le_trans (szL_mem ha) h) (by simp; omega)
    simpa using this
  · rw [ne_len hll, Bool.not_false, cond_true, decide_eq_false (fun e => hll (by rw [e]))]
theorem mark_TaskS (l : List Tk) (k : Int) (h0 : 0 ≤ k) (h1 : k + cntL Tk.ct l < 4611686018427387904) (h2 : szL Tk.sz l ≤ 1152921504606846976) : callI tE f_laws_markTaskS [.sl (l.map Tk.e), .int k] = some [.int (k + cntL Tk.ct l), .sl ((mkL Tk.mkm Tk.ct l k).map Tk.e)] := by
  have hl : l.length ≤ 1152921504606846976 := (Nat.le_trans (szL_len _ _) h2)
  rw [c_laws_markTaskS]
  have := mark_loop (L := L_laws_markTaskS_0) (e := Tk.e) (f := Tk.mkm) (c := Tk.ct) (g := Tk.sz) (fun p q a k h0 hc hg hlt => by
    rw [show k + ((Tk.ct a : Nat) : Int) = k + 1 + (cntL Rw.ct a.left : Nat) + (cntL Rw.ct a.right : Nat) + (cntL c1 a.mat : Nat) + 1 by simp only [Tk.ct]; omega]
    rw [L_laws_markTaskS_0_eq]
    simp only [lt_mid, in_mid, tn_c, at_mid, cond_true, cond_false, gn_c, gb_c, gs_c, gl_c, tk_s, tk_0, List.drop_succ_cons, List.drop_zero, List.headD_cons, List.getD_cons_zero, List.getD_cons_succ, bind_s, upd_mid, Tk.e, Tk.mkm, mark_RowS a.left (k + 1) (by omega) (by simp only [Tk.ct] at hc; omega) (by simp only [Tk.sz] at hg; omega), mark_RowS a.right (k + 1 + (cntL Rw.ct a.left : Nat)) (by omega) (by simp only [Tk.ct] at hc; omega) (by simp only [Tk.sz] at hg; omega), mark_BoolS a.mat (k + 1 + (cntL Rw.ct a.left : Nat) + (cntL Rw.ct a.right : Nat)) (by omega) (by simp only [Tk.ct] at hc; omega) (by simp only [Tk.sz] at hg; omega), w64_id (n := k + 1) (by simp only [Tk.ct] at hc; omega), w64_id (n := k + 1 + (cntL Rw.ct a.left : Nat) + (cntL Rw.ct a.right : Nat) + (cntL c1 a.mat : Nat) + 1) (by simp only [Tk.ct] at hc; omega), setRange, List.set_cons_zero, List.set_cons_succ]) (fun p k => by
    rw [L_laws_markTaskS_0_eq, lt_end, cond_false]) l [] k h0 h1 (by exact h2) (by simp; omega)
  simpa using this
theorem held_TaskS (l : List Tk) (k : Int) (h0 : 0 ≤ k) (h1 : k + cntL Tk.ct l < 4611686018427387904) (h2 : szL Tk.sz l ≤ 1152921504606846976) : callI tE f_laws_heldTaskS [.sl ((mkL Tk.mkm Tk.ct l k).map Tk.e), .int k] = some [.int (k + cntL Tk.ct l)] := by
  have hl : l.length ≤ 1152921504606846976 := (Nat.le_trans (szL_len _ _) h2)
  rw [c_laws_heldTaskS]
  have := held_loop (L := L_laws_heldTaskS_0) (e := Tk.e) (f := Tk.mkm) (c := Tk.ct) (g := Tk.sz) (fun p q a k h0 hc hg hlt => by
    rw [show k + ((Tk.ct a : Nat) : Int) = k + 1 + (cntL Rw.ct a.left : Nat) + (cntL Rw.ct a.right : Nat) + (cntL c1 a.mat : Nat) + 1 by simp only [Tk.ct]; omega]
    rw [L_laws_heldTaskS_0_eq]
    simp only [lt_mid, in_mid, tn_c, at_mid, cond_true, cond_false, gn_c, gb_c, gs_c, gl_c, tk_s, tk_0, List.drop_succ_cons, List.drop_zero, List.headD_cons, List.getD_cons_zero, List.getD_cons_succ, bind_s, Tk.e, Tk.mkm, held_RowS a.left (k + 1) (by omega) (by simp only [Tk.ct] at hc; omega) (by simp only [Tk.sz] at hg; omega), ltF (a := k + 1 + (cntL Rw.ct a.left : Nat)) (b := 0) (by omega), held_RowS a.right (k + 1 + (cntL Rw.ct a.left : Nat)) (by omega) (by simp only [Tk.ct] at hc; omega) (by simp only [Tk.sz] at hg; omega), ltF (a := k + 1 + (cntL Rw.ct a.left : Nat) + (cntL Rw.ct a.right : Nat)) (b := 0) (by omega), held_BoolS a.mat (k + 1 + (cntL Rw.ct a.left : Nat) + (cntL Rw.ct a.right : Nat)) (by omega) (by simp only [Tk.ct] at hc; omega) (by simp only [Tk.sz] at hg; omega), ltF (a := k + 1 + (cntL Rw.ct a.left : Nat) + (cntL Rw.ct a.right : Nat) + (cntL c1 a.mat : Nat)) (b := 0) (by omega), w64_id (n := k + 1) (by simp only [Tk.ct] at hc; omega), w64_id (n := k + 1 + (cntL Rw.ct a.left : Nat) + (cntL Rw.ct a.right : Nat) + (cntL c1 a.mat : Nat) + 1) (by simp only [Tk.ct] at hc; omega), eqI_self, eqBo_self, Bool.not_true, ltF_nn h0]) (fun p k => by
    rw [L_laws_heldTaskS_0_eq, lt_end, cond_false]) l [] k h0 h1 (by exact h2) (by simp; omega)
  simpa using this
theorem to_GroupTask (x : Gt) (h : x.sz ≤ 1048576) : callI tE f_laws_toGroupTask [.sl (x.rows.map Rw.e), .int x.level] = some [.sl (x.rows.map Rw.e), .int x.level] := by
  simp only [c_laws_toGroupTask, to_RowS x.rows (by simp only [Gt.sz] at h; omega), gn_c, gb_c, gs_c, gl_c, tk_s, tk_0, List.drop_succ_cons, List.drop_zero, List.headD_cons, List.getD_cons_zero, List.getD_cons_succ, bind_s]
theorem to_GroupTaskS (l : List Gt) (h : szL Gt.sz l ≤ 1048576) : callI tE f_laws_toGroupTaskS [.sl (l.map Gt.e)] = some [.sl (l.map Gt.e)] := by
  have hl : l.length ≤ 1048576 := (Nat.le_trans (szL_len _ _) h)
  rw [c_laws_toGroupTaskS]
  have := to_loop (L := L_laws_toGroupTaskS_0) (e := Gt.e) (z := [.sl [], .int 0]) (P := fun a => Gt.sz a ≤ 1048576) (fun p q p' q' a hP hpl hlt => by
    rw [L_laws_toGroupTaskS_0_eq]
    simp only [lt_mid, in_mid, tn_c, at_mid, cond_true, cond_false, gn_c, gb_c, gs_c, gl_c, tk_s, tk_0, List.drop_succ_cons, List.drop_zero, List.headD_cons, List.getD_cons_zero, List.getD_cons_succ, bind_s, in_mid' hpl, upd_mid' hpl, Gt.e, to_GroupTask a hP, setRange, List.set_cons_zero, List.set_cons_succ]) (fun p p' hpl => by
    rw [L_laws_toGroupTaskS_0_eq, lt_end, cond_false]) l [] [] rfl (fun a ha => Nat.le_trans (szL_mem ha) h) (by simp; omega)
  simp only [List.nil_append, List.length_nil, Int.ofNat_zero, Int.natCast_zero] at this
  rw [le0_len, eqI_self, fitT (by show (l.map Gt.e).length * _ ≤ _; rw [List.length_map]; omega)]
  simp only [Bool.and_self, cond_true]
  rw [show tn (lenI (l.map Gt.e)) = l.length by show (l.map Gt.e).length = _; simp]
  exact this
theorem sz_GroupTask (x : Gt) (n : Int) (h0 : 0 ≤ n) (h1 : n ≤ 1048576) (h : x.bd) : callI tE f_laws_szGroupTask [.sl (x.rows.map Rw.e), .int x.level, .int n] = some [.int (szv n (x.sz))] := by
  rw [c_laws_szGroupTask]
  simp only [Gt.sz]
  obtain ⟨b0, _⟩ := h
  rw [sz_RowS x.rows n (by omega) (by omega) b0]
  simp only [gn_c, gb_c, gs_c, gl_c, tk_s, tk_0, List.drop_succ_cons, List.drop_zero, List.headD_cons, List.getD_cons_zero, List.getD_cons_succ, bind_s]
  exact sz_last (by omega)
theorem sz_GroupTaskS (l : List Gt) (n : Int) (h0 : 0 ≤ n) (h1 : n ≤ 1048576) (h : BdL Gt.bd l) : callI tE f_laws_szGroupTaskS [.sl (l.map Gt.e), .int n] = some [.int (szv n (szL Gt.sz l))] := by
  have hl : l.length ≤ 1152921504606846976 := h.1
  rw [c_laws_szGroupTaskS, szL_cnt]
  refine sz_len (X := fun m => L_laws_szGroupTaskS_0 (l.map Gt.e) m 0) h0 h1 (List.length_map _) hl fun h2 => ?_
  have := sz_loop (L := L_laws_szGroupTaskS_0) (e := Gt.e) (g := Gt.sz) (P := Gt.bd) (fun p q a n hP h0 h1 hlt => by
    rw [L_laws_szGroupTaskS_0_eq]
    simp only [lt_mid, in_mid, tn_c, at_mid, cond_true, cond_false, gn_c, gb_c, gs_c, gl_c, tk_s, tk_0, List.drop_succ_cons, List.drop_zero, List.headD_cons, List.getD_cons_zero, List.getD_cons_succ, bind_s, Gt.e, sz_GroupTask a n h0 h1 hP]) (fun p n => by
    rw [L_laws_szGroupTaskS_0_eq, lt_end, cond_false]) l [] (n - l.length) (fun a ha => h.2 a ha) (by omega) (by omega) (by simp; omega)
  simpa using this
theorem eq_GroupTask (x y : Gt) (h : x.sz ≤ 1152921504606846976) : callI tE f_laws_eqGroupTask [.sl (x.rows.map Rw.e), .int x.level, .sl (y.rows.map Rw.e), .int y.level] = some [.bool (decide (x = y))] := by
  have e : decide (x = y) = (decide (x.rows = y.rows) && (decide (x.level = y.level))) := by
    cases x; cases y
    simp only [Gt.mk.injEq, Bool.decide_and]
  simp only [eq_RowS x.rows y.rows (by simp only [Gt.sz] at h; omega), gn_c, gb_c, gs_c, gl_c, tk_s, tk_0, List.drop_succ_cons, List.drop_zero, List.headD_cons, List.getD_cons_zero, List.getD_cons_succ, bind_s, eqI, eqBo, e, bif_and, Bool.and_true, c_laws_eqGroupTask]
theorem eq_GroupTaskS (l l' : List Gt) (h : szL Gt.sz l ≤ 1152921504606846976) : callI tE f_laws_eqGroupTaskS [.sl (l.map Gt.e), .sl (l'.map Gt.e)] = some [.bool (decide (l = l'))] := by
  have hl : l.length ≤ 1152921504606846976 := (Nat.le_trans (szL_len _ _) h)
  rw [c_laws_eqGroupTaskS]
  by_cases hll : l.length = l'.length
  · rw [eq_len hll, Bool.not_true, cond_false]
    have := eq_loop (L := L_laws_eqGroupTaskS_0) (e := Gt.e) (P := fun a => Gt.sz a ≤ 1152921504606846976) (fun p q p' q' a b hP hpl hlt => by
      rw [L_laws_eqGroupTaskS_0_eq]
      simp only [lt_mid, in_mid, tn_c, at_mid, cond_true, cond_false, gn_c, gb_c, gs_c, gl_c, tk_s, tk_0, List.drop_succ_cons, List.drop_zero, List.headD_cons, List.getD_cons_zero, List.getD_cons_succ, bind_s, in_mid' hpl, at_mid' hpl, Gt.e, eq_GroupTask a b hP, bifn]) (fun p p' hpl => by
      rw [L_laws_eqGroupTaskS_0_eq, lt_end, cond_false]) l l' [] [] rfl hll (fun a ha => Nat.le_trans (szL_mem ha) h) (by simp; omega)
    simpa using this
  · rw [ne_len hll, Bool.not_false, cond_true, decide_eq_false (fun e => hll (by rw [e]))]
theorem mark_GroupTaskS (l : List Gt) (k : Int) (h0 : 0 ≤ k) (h1 : k + cntL Gt.ct l < 4611686018427387904) (h2 : szL Gt.sz l ≤ 1152921504606846976) : callI tE f_laws_markGroupTaskS [.sl (l.map Gt.e), .int k] = some [.int (k + cntL Gt.ct l), .sl ((mkL Gt.mkm Gt.ct l k).map Gt.e)] := by
  have hl : l.length ≤ 1152921504606846976 := (Nat.le_trans (szL_len _ _) h2)
  rw [c_laws_markGroupTaskS]
  have := mark_loop (L := L_laws_markGroupTaskS_0) (e := Gt.e) (f := Gt.mkm) (c := Gt.ct) (g := Gt.sz) (fun p q a k h0 hc hg hlt => by
    rw [show k + ((Gt.ct a : Nat) : Int) = k + (cntL Rw.ct a.rows : Nat) + 1 by simp only [Gt.ct]; omega]
    rw [L_laws_markGroupTaskS_0_eq]
    simp only [lt_mid, in_mid, tn_c, at_mid, cond_true, cond_false, gn_c, gb_c, gs_c, gl_c, tk_s, tk_0, List.drop_succ_cons, List.drop_zero, List.headD_cons, List.getD_cons_zero, List.getD_cons_succ, bind_s, upd_mid, Gt.e, Gt.mkm, mark_RowS a.rows k (by omega) (by simp only [Gt.ct] at hc; omega) (by simp only [Gt.sz] at hg; omega), w64_id (n := k + (cntL Rw.ct a.rows : Nat) + 1) (by simp only [Gt.ct] at hc; omega), setRange, List.set_cons_zero, List.set_cons_succ]) (fun p k => by
    rw [L_laws_markGroupTaskS_0_eq, lt_end, cond_false]) l [] k h0 h1 (by exact h2) (by simp; omega)
  simpa using this
theorem held_GroupTaskS (l : List Gt) (k : Int) (h0 : 0 ≤ k) (h1 : k + cntL Gt.ct l < 4611686018427387904) (h2 : szL Gt.sz l ≤ 1152921504606846976) : callI tE f_laws_heldGroupTaskS [.sl ((mkL Gt.mkm Gt.ct l k).map Gt.e), .int k] = some [.int (k + cntL Gt.ct l)] := by
  have hl : l.length ≤ 1152921504606846976 := (Nat.le_trans (szL_len _ _) h2)
  rw [c_laws_heldGroupTaskS]
  have := held_loop (L := L_laws_heldGroupTaskS_0) (e := Gt.e) (f := Gt.mkm) (c := Gt.ct) (g := Gt.sz) (fun p q a k h0 hc hg hlt => by
    rw [show k + ((Gt.ct a : Nat) : Int) = k + (cntL Rw.ct a.rows : Nat) + 1 by simp only [Gt.ct]; omega]
    rw [L_laws_heldGroupTaskS_0_eq]
    simp only [lt_mid, in_mid, tn_c, at_mid, cond_true, cond_false, gn_c, gb_c, gs_c, gl_c, tk_s, tk_0, List.drop_succ_cons, List.drop_zero, List.headD_cons, List.getD_cons_zero, List.getD_cons_succ, bind_s, Gt.e, Gt.mkm, held_RowS a.rows k (by omega) (by simp only [Gt.ct] at hc; omega) (by simp only [Gt.sz] at hg; omega), ltF (a := k + (cntL Rw.ct a.rows : Nat)) (b := 0) (by omega), w64_id (n := k + (cntL Rw.ct a.rows : Nat) + 1) (by simp only [Gt.ct] at hc; omega), eqI_self, eqBo_self, Bool.not_true, ltF_nn h0]) (fun p k => by
    rw [L_laws_heldGroupTaskS_0_eq, lt_end, cond_false]) l [] k h0 h1 (by exact h2) (by simp; omega)
  simpa using this
theorem eq_Joiner (x y : Jn) (h : x.sz ≤ 1152921504606846976) : callI tE f_laws_eqJoiner [.sl (x.pend.map Tk.e), .int x.wr, .int x.parts, .sl (y.pend.map Tk.e), .int y.wr, .int y.parts] = some [.bool (decide (x = y))] := by
  have e : decide (x = y) = (decide (x.pend = y.pend) && (decide (x.wr = y.wr) && (decide (x.parts = y.parts)))) := by
    cases x; cases y
    simp only [Jn.mk.injEq, Bool.decide_and]
  simp only [eq_TaskS x.pend y.pend (by simp only [Jn.sz] at h; omega), gn_c, gb_c, gs_c, gl_c, tk_s, tk_0, List.drop_succ_cons, List.drop_zero, List.headD_cons, List.getD_cons_zero, List.getD_cons_succ, bind_s, eqI, eqBo, e, bif_and, Bool.and_true, c_laws_eqJoiner]
theorem eq_Aggregator (x y : Ag) (h : x.sz ≤ 1152921504606846976) : callI tE f_laws_eqAggregator [.sl (x.pend.map Gt.e), .int x.wr, .bool x.early, .sl (y.pend.map Gt.e), .int y.wr, .bool y.early] = some [.bool (decide (x = y))] := by
  have e : decide (x = y) = (decide (x.pend = y.pend) && (decide (x.wr = y.wr) && (decide (x.early = y.early)))) := by
    cases x; cases y
    simp only [Ag.mk.injEq, Bool.decide_and]
  simp only [eq_GroupTaskS x.pend y.pend (by simp only [Ag.sz] at h; omega), gn_c, gb_c, gs_c, gl_c, tk_s, tk_0, List.drop_succ_cons, List.drop_zero, List.headD_cons, List.getD_cons_zero, List.getD_cons_succ, bind_s, eqI, eqBo, e, bif_and, Bool.and_true, c_laws_eqAggregator]
theorem eq_Op (x y : Opr) (h : x.sz ≤ 1152921504606846976) : callI tE f_laws_eqOp [.int x.kind, .sl (x.so.inp.map Rw.e), .int x.so.pos, .sl (x.so.heap.map Rw.e), .sl (x.so.dfd.map Rw.e), .sl (x.so.out.map Rw.e), .sl (x.so.runs.map rsE), .int x.so.lp, .int x.so.rp, .int x.so.ph, .int x.so.wr, .sl (x.jn.pend.map Tk.e), .int x.jn.wr, .int x.jn.parts, .sl (x.ag.pend.map Gt.e), .int x.ag.wr, .bool x.ag.early, .int y.kind, .sl (y.so.inp.map Rw.e), .int y.so.pos, .sl (y.so.heap.map Rw.e), .sl (y.so.dfd.map Rw.e), .sl (y.so.out.map Rw.e), .sl (y.so.runs.map rsE), .int y.so.lp, .int y.so.rp, .int y.so.ph, .int y.so.wr, .sl (y.jn.pend.map Tk.e), .int y.jn.wr, .int y.jn.parts, .sl (y.ag.pend.map Gt.e), .int y.ag.wr, .bool y.ag.early] = some [.bool (decide (x = y))] := by
  have e : decide (x = y) = (decide (x.kind = y.kind) && (decide (x.so = y.so) && (decide (x.jn = y.jn) && (decide (x.ag = y.ag))))) := by
    cases x; cases y
    simp only [Opr.mk.injEq, Bool.decide_and]
  simp only [eq_Sorter x.so y.so (by simp only [Opr.sz] at h; omega), eq_Joiner x.jn y.jn (by simp only [Opr.sz] at h; omega), eq_Aggregator x.ag y.ag (by simp only [Opr.sz] at h; omega), gn_c, gb_c, gs_c, gl_c, tk_s, tk_0, List.drop_succ_cons, List.drop_zero, List.headD_cons, List.getD_cons_zero, List.getD_cons_succ, bind_s, eqI, eqBo, e, bif_and, Bool.and_true, c_laws_eqOp]
theorem eq_Output (x y : Ou) (h : x.sz ≤ 1152921504606846976) : callI tE f_laws_eqOutput [.sl (x.rows.map Rw.e), .sl (x.pairs.map Pr.e), .sl (x.groups.map Gr.e), .sl (y.rows.map Rw.e), .sl (y.pairs.map Pr.e), .sl (y.groups.map Gr.e)] = some [.bool (decide (x = y))] := by
  have e : decide (x = y) = (decide (x.rows = y.rows) && (decide (x.pairs = y.pairs) && (decide (x.groups = y.groups)))) := by
    cases x; cases y
    simp only [Ou.mk.injEq, Bool.decide_and]
  simp only [eq_RowS x.rows y.rows (by simp only [Ou.sz] at h; omega), eq_PairS x.pairs y.pairs (by simp only [Ou.sz] at h; omega), eq_GroupS x.groups y.groups (by simp only [Ou.sz] at h; omega), gn_c, gb_c, gs_c, gl_c, tk_s, tk_0, List.drop_succ_cons, List.drop_zero, List.headD_cons, List.getD_cons_zero, List.getD_cons_succ, bind_s, eqI, eqBo, e, bif_and, Bool.and_true, c_laws_eqOutput]
theorem to_Joiner (x : Jn) (h : x.sz ≤ 1048576) : callI tE f_laws_toJoiner [.sl (x.pend.map Tk.e), .int x.wr, .int x.parts] = some [.sl (x.pend.map Tk.e), .int x.wr, .int x.parts] := by
  simp only [c_laws_toJoiner, to_TaskS x.pend (by simp only [Jn.sz] at h; omega), gn_c, gb_c, gs_c, gl_c, tk_s, tk_0, List.drop_succ_cons, List.drop_zero, List.headD_cons, List.getD_cons_zero, List.getD_cons_succ, bind_s]
theorem sz_Joiner (x : Jn) (n : Int) (h0 : 0 ≤ n) (h1 : n ≤ 1048576) (h : x.bd) : callI tE f_laws_szJoiner [.sl (x.pend.map Tk.e), .int x.wr, .int x.parts, .int n] = some [.int (szv n (x.sz))] := by
  rw [c_laws_szJoiner]
  simp only [Jn.sz]
  obtain ⟨b0, _, _⟩ := h
  rw [sz_TaskS x.pend n (by omega) (by omega) b0]
  simp only [gn_c, gb_c, gs_c, gl_c, tk_s, tk_0, List.drop_succ_cons, List.drop_zero, List.headD_cons, List.getD_cons_zero, List.getD_cons_succ, bind_s]
  exact sz_last (by omega)
theorem mark_Joiner (x : Jn) (k : Int) (h0 : 0 ≤ k) (h1 : k + (cntL Tk.ct x.pend : Nat) < 4611686018427387904) (h2 : x.sz ≤ 1152921504606846976) : callI tE f_laws_markJoiner [.sl (x.pend.map Tk.e), .int x.wr, .int x.parts, .int k] = some [.int (k + (cntL Tk.ct x.pend : Nat)), .sl ((mkL Tk.mkm Tk.ct x.pend k).map Tk.e)] := by
  simp only [c_laws_markJoiner, mark_TaskS x.pend k (by omega) (by omega) (by simp only [Jn.sz] at h2; omega), gn_c, gb_c, gs_c, gl_c, tk_s, tk_0, List.drop_succ_cons, List.drop_zero, List.headD_cons, List.getD_cons_zero, List.getD_cons_succ, bind_s]
theorem held_Joiner (x : Jn) (k : Int) (h0 : 0 ≤ k) (h1 : k + (cntL Tk.ct x.pend : Nat) < 4611686018427387904) (h2 : x.sz ≤ 1152921504606846976) : callI tE f_laws_heldJoiner [.sl ((mkL Tk.mkm Tk.ct x.pend k).map Tk.e), .int x.wr, .int x.parts, .int k] = some [.int (k + (cntL Tk.ct x.pend : Nat))] := by
  simp only [c_laws_heldJoiner, held_TaskS x.pend k (by omega) (by omega) (by simp only [Jn.sz] at h2; omega), gn_c, gb_c, gs_c, gl_c, tk_s, tk_0, List.drop_succ_cons, List.drop_zero, List.headD_cons, List.getD_cons_zero, List.getD_cons_succ, bind_s, ltF (a := k + (cntL Tk.ct x.pend : Nat)) (b := 0) (by omega), cond_false]
theorem to_Aggregator (x : Ag) (h : x.sz ≤ 1048576) : callI tE f_laws_toAggregator [.sl (x.pend.map Gt.e), .int x.wr, .bool x.early] = some [.sl (x.pend.map Gt.e), .int x.wr, .bool x.early] := by
  simp only [c_laws_toAggregator, to_GroupTaskS x.pend (by simp only [Ag.sz] at h; omega), gn_c, gb_c, gs_c, gl_c, tk_s, tk_0, List.drop_succ_cons, List.drop_zero, List.headD_cons, List.getD_cons_zero, List.getD_cons_succ, bind_s]
theorem sz_Aggregator (x : Ag) (n : Int) (h0 : 0 ≤ n) (h1 : n ≤ 1048576) (h : x.bd) : callI tE f_laws_szAggregator [.sl (x.pend.map Gt.e), .int x.wr, .bool x.early, .int n] = some [.int (szv n (x.sz))] := by
  rw [c_laws_szAggregator]
  simp only [Ag.sz]
  obtain ⟨b0, _, _⟩ := h
  rw [sz_GroupTaskS x.pend n (by omega) (by omega) b0]
  simp only [gn_c, gb_c, gs_c, gl_c, tk_s, tk_0, List.drop_succ_cons, List.drop_zero, List.headD_cons, List.getD_cons_zero, List.getD_cons_succ, bind_s]
  exact sz_last (by omega)
theorem mark_Aggregator (x : Ag) (k : Int) (h0 : 0 ≤ k) (h1 : k + (cntL Gt.ct x.pend : Nat) < 4611686018427387904) (h2 : x.sz ≤ 1152921504606846976) : callI tE f_laws_markAggregator [.sl (x.pend.map Gt.e), .int x.wr, .bool x.early, .int k] = some [.int (k + (cntL Gt.ct x.pend : Nat)), .sl ((mkL Gt.mkm Gt.ct x.pend k).map Gt.e)] := by
  simp only [c_laws_markAggregator, mark_GroupTaskS x.pend k (by omega) (by omega) (by simp only [Ag.sz] at h2; omega), gn_c, gb_c, gs_c, gl_c, tk_s, tk_0, List.drop_succ_cons, List.drop_zero, List.headD_cons, List.getD_cons_zero, List.getD_cons_succ, bind_s]
theorem held_Aggregator (x : Ag) (k : Int) (h0 : 0 ≤ k) (h1 : k + (cntL Gt.ct x.pend : Nat) < 4611686018427387904) (h2 : x.sz ≤ 1152921504606846976) : callI tE f_laws_heldAggregator [.sl ((mkL Gt.mkm Gt.ct x.pend k).map Gt.e), .int x.wr, .bool x.early, .int k] = some [.int (k + (cntL Gt.ct x.pend : Nat))] := by
  simp only [c_laws_heldAggregator, held_GroupTaskS x.pend k (by omega) (by omega) (by simp only [Ag.sz] at h2; omega), gn_c, gb_c, gs_c, gl_c, tk_s, tk_0, List.drop_succ_cons, List.drop_zero, List.headD_cons, List.getD_cons_zero, List.getD_cons_succ, bind_s, ltF (a := k + (cntL Gt.ct x.pend : Nat)) (b := 0) (by omega), cond_false]
theorem to_Op (x : Opr) (h : x.sz ≤ 1048576) : callI tE f_laws_toOp [.int x.kind, .sl (x.so.inp.map Rw.e), .int x.so.pos, .sl (x.so.heap.map Rw.e), .sl (x.so.dfd.map Rw.e), .sl (x.so.out.map Rw.e), .sl (x.so.runs.map rsE), .int x.so.lp, .int x.so.rp, .int x.so.ph, .int x.so.wr, .sl (x.jn.pend.map Tk.e), .int x.jn.wr, .int x.jn.parts, .sl (x.ag.pend.map Gt.e), .int x.ag.wr, .bool x.ag.early] = some [.int x.kind, .sl (x.so.inp.map Rw.e), .int x.so.pos, .sl (x.so.heap.map Rw.e), .sl (x.so.dfd.map Rw.e), .sl (x.so.out.map Rw.e), .sl (x.so.runs.map rsE), .int x.so.lp, .int x.so.rp, .int x.so.ph, .int x.so.wr, .sl (x.jn.pend.map Tk.e), .int x.jn.wr, .int x.jn.parts, .sl (x.ag.pend.map Gt.e), .int x.ag.wr, .bool x.ag.early] := by
  simp only [c_laws_toOp, to_Sorter x.so (by simp only [Opr.sz] at h; omega), to_Joiner x.jn (by simp only [Opr.sz] at h; omega), to_Aggregator x.ag (by simp only [Opr.sz] at h; omega), gn_c, gb_c, gs_c, gl_c, tk_s, tk_0, List.drop_succ_cons, List.drop_zero, List.headD_cons, List.getD_cons_zero, List.getD_cons_succ, bind_s]
theorem sz_Op (x : Opr) (n : Int) (h0 : 0 ≤ n) (h1 : n ≤ 1048576) (h : x.bd) : callI tE f_laws_szOp [.int x.kind, .sl (x.so.inp.map Rw.e), .int x.so.pos, .sl (x.so.heap.map Rw.e), .sl (x.so.dfd.map Rw.e), .sl (x.so.out.map Rw.e), .sl (x.so.runs.map rsE), .int x.so.lp, .int x.so.rp, .int x.so.ph, .int x.so.wr, .sl (x.jn.pend.map Tk.e), .int x.jn.wr, .int x.jn.parts, .sl (x.ag.pend.map Gt.e), .int x.ag.wr, .bool x.ag.early, .int n] = some [.int (szv n (x.sz))] := by
  rw [c_laws_szOp]
  simp only [Opr.sz]
  obtain ⟨_, b1, b2, b3⟩ := h
  rw [sz_Sorter x.so n (by omega) (by omega) b1]
  simp only [gn_c, gb_c, gs_c, gl_c, tk_s, tk_0, List.drop_succ_cons, List.drop_zero, List.headD_cons, List.getD_cons_zero, List.getD_cons_succ, bind_s]
  refine sz_chain (by omega) fun h0 g0 => ?_
  rw [g0]
  rw [sz_Joiner x.jn (n - (x.so.sz : Nat)) (by omega) (by omega) b2]
  simp only [gn_c, gb_c, gs_c, gl_c, tk_s, tk_0, List.drop_succ_cons, List.drop_zero, List.headD_cons, List.getD_cons_zero, List.getD_cons_succ, bind_s]
  refine sz_chain (by omega) fun h1 g1 => ?_
  rw [g1]
  rw [sz_Aggregator x.ag (n - (x.so.sz : Nat) - (x.jn.sz : Nat)) (by omega) (by omega) b3]
  simp only [gn_c, gb_c, gs_c, gl_c, tk_s, tk_0, List.drop_succ_cons, List.drop_zero, List.headD_cons, List.getD_cons_zero, List.getD_cons_succ, bind_s]
  exact sz_last (by omega)
theorem mark_Op (x : Opr) (k : Int) (h0 : 0 ≤ k) (h1 : k + (cntL Rw.ct x.so.inp : Nat) + (cntL Rw.ct x.so.heap : Nat) + (cntL Rw.ct x.so.dfd : Nat) + (cntL Rw.ct x.so.out : Nat) + (cntL (cntL Rw.ct) x.so.runs : Nat) + (cntL Tk.ct x.jn.pend : Nat) + (cntL Gt.ct x.ag.pend : Nat) < 4611686018427387904) (h2 : x.sz ≤ 1152921504606846976) : callI tE f_laws_markOp [.int x.kind, .sl (x.so.inp.map Rw.e), .int x.so.pos, .sl (x.so.heap.map Rw.e), .sl (x.so.dfd.map Rw.e), .sl (x.so.out.map Rw.e), .sl (x.so.runs.map rsE), .int x.so.lp, .int x.so.rp, .int x.so.ph, .int x.so.wr, .sl (x.jn.pend.map Tk.e), .int x.jn.wr, .int x.jn.parts, .sl (x.ag.pend.map Gt.e), .int x.ag.wr, .bool x.ag.early, .int k] = some [.int (k + (cntL Rw.ct x.so.inp : Nat) + (cntL Rw.ct x.so.heap : Nat) + (cntL Rw.ct x.so.dfd : Nat) + (cntL Rw.ct x.so.out : Nat) + (cntL (cntL Rw.ct) x.so.runs : Nat) + (cntL Tk.ct x.jn.pend : Nat) + (cntL Gt.ct x.ag.pend : Nat)), .sl ((mkL Rw.mkm Rw.ct x.so.inp k).map Rw.e), .sl ((mkL Rw.mkm Rw.ct x.so.heap (k + (cntL Rw.ct x.so.inp : Nat))).map Rw.e), .sl ((mkL Rw.mkm Rw.ct x.so.dfd (k + (cntL Rw.ct x.so.inp : Nat) + (cntL Rw.ct x.so.heap : Nat))).map Rw.e), .sl ((mkL Rw.mkm Rw.ct x.so.out (k + (cntL Rw.ct x.so.inp : Nat) + (cntL Rw.ct x.so.heap : Nat) + (cntL Rw.ct x.so.dfd : Nat))).map Rw.e), .sl ((mkL (mkL Rw.mkm Rw.ct) (cntL Rw.ct) x.so.runs (k + (cntL Rw.ct x.so.inp : Nat) + (cntL Rw.ct x.so.heap : Nat) + (cntL Rw.ct x.so.dfd : Nat) + (cntL Rw.ct x.so.out : Nat))).map rsE), .sl ((mkL Tk.mkm Tk.ct x.jn.pend (k + (cntL Rw.ct x.so.inp : Nat) + (cntL Rw.ct x.so.heap : Nat) + (cntL Rw.ct x.so.dfd : Nat) + (cntL Rw.ct x.so.out : Nat) + (cntL (cntL Rw.ct) x.so.runs : Nat))).map Tk.e), .sl ((mkL Gt.mkm Gt.ct x.ag.pend (k + (cntL Rw.ct x.so.inp : Nat) + (cntL Rw.ct x.so.heap : Nat) + (cntL Rw.ct x.so.dfd : Nat) + (cntL Rw.ct x.so.out : Nat) + (cntL (cntL Rw.ct) x.so.runs : Nat) + (cntL Tk.ct x.jn.pend : Nat))).map Gt.e)] := by
  simp only [c_laws_markOp, mark_Sorter x.so k (by omega) (by omega) (by simp only [Opr.sz] at h2; omega), mark_Joiner x.jn (k + (cntL Rw.ct x.so.inp : Nat) + (cntL Rw.ct x.so.heap : Nat) + (cntL Rw.ct x.so.dfd : Nat) + (cntL Rw.ct x.so.out : Nat) + (cntL (cntL Rw.ct) x.so.runs : Nat)) (by omega) (by omega) (by simp only [Opr.sz] at h2; omega), mark_Aggregator x.ag (k + (cntL Rw.ct x.so.inp : Nat) + (cntL Rw.ct x.so.heap : Nat) + (cntL Rw.ct x.so.dfd : Nat) + (cntL Rw.ct x.so.out : Nat) + (cntL (cntL Rw.ct) x.so.runs : Nat) + (cntL Tk.ct x.jn.pend : Nat)) (by omega) (by omega) (by simp only [Opr.sz] at h2; omega), gn_c, gb_c, gs_c, gl_c, tk_s, tk_0, List.drop_succ_cons, List.drop_zero, List.headD_cons, List.getD_cons_zero, List.getD_cons_succ, bind_s]
theorem held_Op (x : Opr) (k : Int) (h0 : 0 ≤ k) (h1 : k + (cntL Rw.ct x.so.inp : Nat) + (cntL Rw.ct x.so.heap : Nat) + (cntL Rw.ct x.so.dfd : Nat) + (cntL Rw.ct x.so.out : Nat) + (cntL (cntL Rw.ct) x.so.runs : Nat) + (cntL Tk.ct x.jn.pend : Nat) + (cntL Gt.ct x.ag.pend : Nat) < 4611686018427387904) (h2 : x.sz ≤ 1152921504606846976) : callI tE f_laws_heldOp [.int x.kind, .sl ((mkL Rw.mkm Rw.ct x.so.inp k).map Rw.e), .int x.so.pos, .sl ((mkL Rw.mkm Rw.ct x.so.heap (k + (cntL Rw.ct x.so.inp : Nat))).map Rw.e), .sl ((mkL Rw.mkm Rw.ct x.so.dfd (k + (cntL Rw.ct x.so.inp : Nat) + (cntL Rw.ct x.so.heap : Nat))).map Rw.e), .sl ((mkL Rw.mkm Rw.ct x.so.out (k + (cntL Rw.ct x.so.inp : Nat) + (cntL Rw.ct x.so.heap : Nat) + (cntL Rw.ct x.so.dfd : Nat))).map Rw.e), .sl ((mkL (mkL Rw.mkm Rw.ct) (cntL Rw.ct) x.so.runs (k + (cntL Rw.ct x.so.inp : Nat) + (cntL Rw.ct x.so.heap : Nat) + (cntL Rw.ct x.so.dfd : Nat) + (cntL Rw.ct x.so.out : Nat))).map rsE), .int x.so.lp, .int x.so.rp, .int x.so.ph, .int x.so.wr, .sl ((mkL Tk.mkm Tk.ct x.jn.pend (k + (cntL Rw.ct x.so.inp : Nat) + (cntL Rw.ct x.so.heap : Nat) + (cntL Rw.ct x.so.dfd : Nat) + (cntL Rw.ct x.so.out : Nat) + (cntL (cntL Rw.ct) x.so.runs : Nat))).map Tk.e), .int x.jn.wr, .int x.jn.parts, .sl ((mkL Gt.mkm Gt.ct x.ag.pend (k + (cntL Rw.ct x.so.inp : Nat) + (cntL Rw.ct x.so.heap : Nat) + (cntL Rw.ct x.so.dfd : Nat) + (cntL Rw.ct x.so.out : Nat) + (cntL (cntL Rw.ct) x.so.runs : Nat) + (cntL Tk.ct x.jn.pend : Nat))).map Gt.e), .int x.ag.wr, .bool x.ag.early, .int k] = some [.int (k + (cntL Rw.ct x.so.inp : Nat) + (cntL Rw.ct x.so.heap : Nat) + (cntL Rw.ct x.so.dfd : Nat) + (cntL Rw.ct x.so.out : Nat) + (cntL (cntL Rw.ct) x.so.runs : Nat) + (cntL Tk.ct x.jn.pend : Nat) + (cntL Gt.ct x.ag.pend : Nat))] := by
  simp only [c_laws_heldOp, held_Sorter x.so k (by omega) (by omega) (by simp only [Opr.sz] at h2; omega), held_Joiner x.jn (k + (cntL Rw.ct x.so.inp : Nat) + (cntL Rw.ct x.so.heap : Nat) + (cntL Rw.ct x.so.dfd : Nat) + (cntL Rw.ct x.so.out : Nat) + (cntL (cntL Rw.ct) x.so.runs : Nat)) (by omega) (by omega) (by simp only [Opr.sz] at h2; omega), held_Aggregator x.ag (k + (cntL Rw.ct x.so.inp : Nat) + (cntL Rw.ct x.so.heap : Nat) + (cntL Rw.ct x.so.dfd : Nat) + (cntL Rw.ct x.so.out : Nat) + (cntL (cntL Rw.ct) x.so.runs : Nat) + (cntL Tk.ct x.jn.pend : Nat)) (by omega) (by omega) (by simp only [Opr.sz] at h2; omega), gn_c, gb_c, gs_c, gl_c, tk_s, tk_0, List.drop_succ_cons, List.drop_zero, List.headD_cons, List.getD_cons_zero, List.getD_cons_succ, bind_s, ltF (a := k + (cntL Rw.ct x.so.inp : Nat) + (cntL Rw.ct x.so.heap : Nat) + (cntL Rw.ct x.so.dfd : Nat) + (cntL Rw.ct x.so.out : Nat) + (cntL (cntL Rw.ct) x.so.runs : Nat)) (b := 0) (by omega), ltF (a := k + (cntL Rw.ct x.so.inp : Nat) + (cntL Rw.ct x.so.heap : Nat) + (cntL Rw.ct x.so.dfd : Nat) + (cntL Rw.ct x.so.out : Nat) + (cntL (cntL Rw.ct) x.so.runs : Nat) + (cntL Tk.ct x.jn.pend : Nat)) (b := 0) (by omega), ltF (a := k + (cntL Rw.ct x.so.inp : Nat) + (cntL Rw.ct x.so.heap : Nat) + (cntL Rw.ct x.so.dfd : Nat) + (cntL Rw.ct x.so.out : Nat) + (cntL (cntL Rw.ct) x.so.runs : Nat) + (cntL Tk.ct x.jn.pend : Nat) + (cntL Gt.ct x.ag.pend : Nat)) (b := 0) (by omega), cond_false]
theorem to_Output (x : Ou) (h : x.sz ≤ 1048576) : callI tE f_laws_toOutput [.sl (x.rows.map Rw.e), .sl (x.pairs.map Pr.e), .sl (x.groups.map Gr.e)] = some [.sl (x.rows.map Rw.e), .sl (x.pairs.map Pr.e), .sl (x.groups.map Gr.e)] := by
  simp only [c_laws_toOutput, to_RowS x.rows (by simp only [Ou.sz] at h; omega), to_PairS x.pairs (by simp only [Ou.sz] at h; omega), to_GroupS x.groups (by simp only [Ou.sz] at h; omega), gn_c, gb_c, gs_c, gl_c, tk_s, tk_0, List.drop_succ_cons, List.drop_zero, List.headD_cons, List.getD_cons_zero, List.getD_cons_succ, bind_s]
theorem sz_Output (x : Ou) (n : Int) (h0 : 0 ≤ n) (h1 : n ≤ 1048576) (h : x.bd) : callI tE f_laws_szOutput [.sl (x.rows.map Rw.e), .sl (x.pairs.map Pr.e), .sl (x.groups.map Gr.e), .int n] = some [.int (szv n (x.sz))] := by
  rw [c_laws_szOutput]
  simp only [Ou.sz]
  obtain ⟨b0, b1, b2⟩ := h
  rw [sz_RowS x.rows n (by omega) (by omega) b0]
  simp only [gn_c, gb_c, gs_c, gl_c, tk_s, tk_0, List.drop_succ_cons, List.drop_zero, List.headD_cons, List.getD_cons_zero, List.getD_cons_succ, bind_s]
  refine sz_chain (by omega) fun h0 g0 => ?_
  rw [g0]
  rw [sz_PairS x.pairs (n - (x.rows.length : Nat)) (by omega) (by omega) b1]
  simp only [gn_c, gb_c, gs_c, gl_c, tk_s, tk_0, List.drop_succ_cons, List.drop_zero, List.headD_cons, List.getD_cons_zero, List.getD_cons_succ, bind_s]
  refine sz_chain (by omega) fun h1 g1 => ?_
  rw [g1]
  rw [sz_GroupS x.groups (n - (x.rows.length : Nat) - (x.pairs.length : Nat)) (by omega) (by omega) b2]
  simp only [gn_c, gb_c, gs_c, gl_c, tk_s, tk_0, List.drop_succ_cons, List.drop_zero, List.headD_cons, List.getD_cons_zero, List.getD_cons_succ, bind_s]
  exact sz_last (by omega)
end Go.Proofs.Ytbmafhpbinjgaaa.Vai
