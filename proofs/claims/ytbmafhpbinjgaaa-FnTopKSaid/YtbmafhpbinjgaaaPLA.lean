/- The laws' words over named data: made anew, measured, compared, marked, looked at; no condition. -/
import Derived.Test.YtbmafhpbinjgaaaEqA
import Derived.Test.YtbmafhpbinjgaaaT2
import Derived.Test.YtbmafhpbinjgaaaPM
namespace Go.Proofs.Ytbmafhpbinjgaaa.Vai
open Go
set_option linter.unusedSimpArgs false
set_option linter.unusedVariables false
set_option linter.unnecessarySimpa false
set_option maxRecDepth 10000
theorem to_Row (x : Rw) : callI tE f_laws_toRow [.int x.k, .int x.v, .int x.w] = some [.int x.k, .int x.v, .int x.w] := by
  simp only [c_laws_toRow, gn_c, gb_c, gs_c, gl_c, tk_s, tk_0, List.drop_succ_cons, List.drop_zero, List.headD_cons, List.getD_cons_zero, List.getD_cons_succ, bind_s]
theorem to_RowS (l : List Rw) (h : l.length ≤ 1048576) : callI tE f_laws_toRowS [.sl (l.map Rw.e)] = some [.sl (l.map Rw.e)] := by
  have hl : l.length ≤ 1048576 := h
  rw [c_laws_toRowS]
  have := to_loop (L := L_laws_toRowS_0) (e := Rw.e) (z := [.int 0, .int 0, .int 0]) (P := fun a => (fun _ => 0) a ≤ 1048576) (fun p q p' q' a _ hpl hlt => by
    rw [L_laws_toRowS_0_eq]
    simp only [lt_mid, in_mid, tn_c, at_mid, cond_true, cond_false, gn_c, gb_c, gs_c, gl_c, tk_s, tk_0, List.drop_succ_cons, List.drop_zero, List.headD_cons, List.getD_cons_zero, List.getD_cons_succ, bind_s, in_mid' hpl, upd_mid' hpl, Rw.e, to_Row a, setRange, List.set_cons_zero, List.set_cons_succ]) (fun p p' hpl => by
    rw [L_laws_toRowS_0_eq, lt_end, cond_false]) l [] [] rfl (fun a ha => Nat.zero_le _) (by simp; omega)
  simp only [List.nil_append, List.length_nil, Int.ofNat_zero, Int.natCast_zero] at this
  rw [le0_len, eqI_self, fitT (by show (l.map Rw.e).length * _ ≤ _; rw [List.length_map]; omega)]
  simp only [Bool.and_self, cond_true]
  rw [show tn (lenI (l.map Rw.e)) = l.length by show (l.map Rw.e).length = _; simp]
  exact this
theorem sz_RowS (l : List Rw) (n : Int) (h0 : 0 ≤ n) (h1 : n ≤ 1048576) (h : BdL Rw.bd l) : callI tE f_laws_szRowS [.sl (l.map Rw.e), .int n] = some [.int (szv n l.length)] := by
  rw [c_laws_szRowS]
  exact sz_flat h0 h1 (by simp) h.1
theorem eq_Row (x y : Rw) : callI tE f_laws_eqRow [.int x.k, .int x.v, .int x.w, .int y.k, .int y.v, .int y.w] = some [.bool (decide (x = y))] := by
  have e : decide (x = y) = (decide (x.k = y.k) && (decide (x.v = y.v) && (decide (x.w = y.w)))) := by
    cases x; cases y
    simp only [Rw.mk.injEq, Bool.decide_and]
  simp only [gn_c, gb_c, gs_c, gl_c, tk_s, tk_0, List.drop_succ_cons, List.drop_zero, List.headD_cons, List.getD_cons_zero, List.getD_cons_succ, bind_s, eqI, eqBo, e, bif_and, Bool.and_true, c_laws_eqRow]
theorem eq_RowS (l l' : List Rw) (h : l.length ≤ 1152921504606846976) : callI tE f_laws_eqRowS [.sl (l.map Rw.e), .sl (l'.map Rw.e)] = some [.bool (decide (l = l'))] := by
  have hl : l.length ≤ 1152921504606846976 := h
  rw [c_laws_eqRowS]
  by_cases hll : l.length = l'.length
  · rw [eq_len hll, Bool.not_true, cond_false]
    have := eq_loop (L := L_laws_eqRowS_0) (e := Rw.e) (P := fun a => (fun _ => 0) a ≤ 1152921504606846976) (fun p q p' q' a b _ hpl hlt => by
      rw [L_laws_eqRowS_0_eq]
      simp only [lt_mid, in_mid, tn_c, at_mid, cond_true, cond_false, gn_c, gb_c, gs_c, gl_c, tk_s, tk_0, List.drop_succ_cons, List.drop_zero, List.headD_cons, List.getD_cons_zero, List.getD_cons_succ, bind_s, in_mid' hpl, at_mid' hpl, Rw.e, eq_Row a b, bifn]) (fun p p' hpl => by
      rw [L_laws_eqRowS_0_eq, lt_end, cond_false]) l l' [] [] rfl hll (fun a ha => Nat.zero_le _) (by simp; omega)
    simpa using this
  · rw [ne_len hll, Bool.not_false, cond_true, decide_eq_false (fun e => hll (by rw [e]))]
theorem mark_RowS (l : List Rw) (k : Int) (h0 : 0 ≤ k) (h1 : k + cntL Rw.ct l < 4611686018427387904) (h2 : l.length ≤ 1152921504606846976) : callI tE f_laws_markRowS [.sl (l.map Rw.e), .int k] = some [.int (k + cntL Rw.ct l), .sl ((mkL Rw.mkm Rw.ct l k).map Rw.e)] := by
  have hl : l.length ≤ 1152921504606846976 := h2
  rw [c_laws_markRowS]
  have := mark_loop (L := L_laws_markRowS_0) (e := Rw.e) (f := Rw.mkm) (c := Rw.ct) (g := (fun _ => 0)) (fun p q a k h0 hc hg hlt => by
    rw [show k + ((Rw.ct a : Nat) : Int) = k + 1 + 1 + 1 by simp only [Rw.ct]; omega]
    rw [L_laws_markRowS_0_eq]
    simp only [lt_mid, in_mid, tn_c, at_mid, cond_true, cond_false, gn_c, gb_c, gs_c, gl_c, tk_s, tk_0, List.drop_succ_cons, List.drop_zero, List.headD_cons, List.getD_cons_zero, List.getD_cons_succ, bind_s, upd_mid, Rw.e, Rw.mkm, w64_id (n := k + 1) (by simp only [Rw.ct] at hc; omega), w64_id (n := k + 1 + 1) (by simp only [Rw.ct] at hc; omega), w64_id (n := k + 1 + 1 + 1) (by simp only [Rw.ct] at hc; omega), setRange, List.set_cons_zero, List.set_cons_succ]) (fun p k => by
    rw [L_laws_markRowS_0_eq, lt_end, cond_false]) l [] k h0 h1 (by rw [szL_flat]; exact h2) (by simp; omega)
  simpa using this
theorem held_RowS (l : List Rw) (k : Int) (h0 : 0 ≤ k) (h1 : k + cntL Rw.ct l < 4611686018427387904) (h2 : l.length ≤ 1152921504606846976) : callI tE f_laws_heldRowS [.sl ((mkL Rw.mkm Rw.ct l k).map Rw.e), .int k] = some [.int (k + cntL Rw.ct l)] := by
  have hl : l.length ≤ 1152921504606846976 := h2
  rw [c_laws_heldRowS]
  have := held_loop (L := L_laws_heldRowS_0) (e := Rw.e) (f := Rw.mkm) (c := Rw.ct) (g := (fun _ => 0)) (fun p q a k h0 hc hg hlt => by
    rw [show k + ((Rw.ct a : Nat) : Int) = k + 1 + 1 + 1 by simp only [Rw.ct]; omega]
    rw [L_laws_heldRowS_0_eq]
    simp only [lt_mid, in_mid, tn_c, at_mid, cond_true, cond_false, gn_c, gb_c, gs_c, gl_c, tk_s, tk_0, List.drop_succ_cons, List.drop_zero, List.headD_cons, List.getD_cons_zero, List.getD_cons_succ, bind_s, Rw.e, Rw.mkm, w64_id (n := k + 1) (by simp only [Rw.ct] at hc; omega), w64_id (n := k + 1 + 1) (by simp only [Rw.ct] at hc; omega), w64_id (n := k + 1 + 1 + 1) (by simp only [Rw.ct] at hc; omega), eqI_self, eqBo_self, Bool.not_true, ltF_nn h0]) (fun p k => by
    rw [L_laws_heldRowS_0_eq, lt_end, cond_false]) l [] k h0 h1 (by rw [szL_flat]; exact h2) (by simp; omega)
  simpa using this
theorem to_IntS (l : List Int) (h : l.length ≤ 1048576) : callI tE f_laws_toIntS [.sl (l.map intE)] = some [.sl (l.map intE)] := by
  have hl : l.length ≤ 1048576 := h
  rw [c_laws_toIntS]
  have := to_loop (L := L_laws_toIntS_0) (e := intE) (z := [.int 0]) (P := fun a => (fun _ => 0) a ≤ 1048576) (fun p q p' q' a _ hpl hlt => by
    rw [L_laws_toIntS_0_eq]
    simp only [lt_mid, in_mid, tn_c, at_mid, cond_true, cond_false, gn_c, gb_c, gs_c, gl_c, tk_s, tk_0, List.drop_succ_cons, List.drop_zero, List.headD_cons, List.getD_cons_zero, List.getD_cons_succ, bind_s, in_mid' hpl, upd_mid' hpl, intE, setRange, List.set_cons_zero, List.set_cons_succ]) (fun p p' hpl => by
    rw [L_laws_toIntS_0_eq, lt_end, cond_false]) l [] [] rfl (fun a ha => Nat.zero_le _) (by simp; omega)
  simp only [List.nil_append, List.length_nil, Int.ofNat_zero, Int.natCast_zero] at this
  rw [le0_len, eqI_self, fitT (by show (l.map intE).length * _ ≤ _; rw [List.length_map]; omega)]
  simp only [Bool.and_self, cond_true]
  rw [show tn (lenI (l.map intE)) = l.length by show (l.map intE).length = _; simp]
  exact this
theorem eq_IntS (l l' : List Int) (h : l.length ≤ 1152921504606846976) : callI tE f_laws_eqIntS [.sl (l.map intE), .sl (l'.map intE)] = some [.bool (decide (l = l'))] := by
  have hl : l.length ≤ 1152921504606846976 := h
  rw [c_laws_eqIntS]
  by_cases hll : l.length = l'.length
  · rw [eq_len hll, Bool.not_true, cond_false]
    have := eq_loop (L := L_laws_eqIntS_0) (e := intE) (P := fun a => (fun _ => 0) a ≤ 1152921504606846976) (fun p q p' q' a b _ hpl hlt => by
      rw [L_laws_eqIntS_0_eq]
      simp only [lt_mid, in_mid, tn_c, at_mid, cond_true, cond_false, gn_c, gb_c, gs_c, gl_c, tk_s, tk_0, List.drop_succ_cons, List.drop_zero, List.headD_cons, List.getD_cons_zero, List.getD_cons_succ, bind_s, in_mid' hpl, at_mid' hpl, intE, eqI, bifn]) (fun p p' hpl => by
      rw [L_laws_eqIntS_0_eq, lt_end, cond_false]) l l' [] [] rfl hll (fun a ha => Nat.zero_le _) (by simp; omega)
    simpa using this
  · rw [ne_len hll, Bool.not_false, cond_true, decide_eq_false (fun e => hll (by rw [e]))]
theorem mark_IntS (l : List Int) (k : Int) (h0 : 0 ≤ k) (h1 : k + cntL c1 l < 4611686018427387904) (h2 : l.length ≤ 1152921504606846976) : callI tE f_laws_markIntS [.sl (l.map intE), .int k] = some [.int (k + cntL c1 l), .sl ((mkL mkI c1 l k).map intE)] := by
  have hl : l.length ≤ 1152921504606846976 := h2
  rw [c_laws_markIntS]
  have := mark_loop (L := L_laws_markIntS_0) (e := intE) (f := mkI) (c := c1) (g := (fun _ => 0)) (fun p q a k h0 hc hg hlt => by
    rw [show k + ((c1 a : Nat) : Int) = k + 1 by simp only [c1]; omega]
    rw [L_laws_markIntS_0_eq]
    simp only [lt_mid, in_mid, tn_c, at_mid, cond_true, cond_false, gn_c, gb_c, gs_c, gl_c, tk_s, tk_0, List.drop_succ_cons, List.drop_zero, List.headD_cons, List.getD_cons_zero, List.getD_cons_succ, bind_s, upd_mid, intE, mkI, w64_id (n := k + 1) (by simp only [c1] at hc; omega), setRange, List.set_cons_zero, List.set_cons_succ]) (fun p k => by
    rw [L_laws_markIntS_0_eq, lt_end, cond_false]) l [] k h0 h1 (by rw [szL_flat]; exact h2) (by simp; omega)
  simpa using this
theorem to_BoolS (l : List Bool) (h : l.length ≤ 1048576) : callI tE f_laws_toBoolS [.sl (l.map boE)] = some [.sl (l.map boE)] := by
  have hl : l.length ≤ 1048576 := h
  rw [c_laws_toBoolS]
  have := to_loop (L := L_laws_toBoolS_0) (e := boE) (z := [.bool false]) (P := fun a => (fun _ => 0) a ≤ 1048576) (fun p q p' q' a _ hpl hlt => by
    rw [L_laws_toBoolS_0_eq]
    simp only [lt_mid, in_mid, tn_c, at_mid, cond_true, cond_false, gn_c, gb_c, gs_c, gl_c, tk_s, tk_0, List.drop_succ_cons, List.drop_zero, List.headD_cons, List.getD_cons_zero, List.getD_cons_succ, bind_s, in_mid' hpl, upd_mid' hpl, boE, setRange, List.set_cons_zero, List.set_cons_succ]) (fun p p' hpl => by
    rw [L_laws_toBoolS_0_eq, lt_end, cond_false]) l [] [] rfl (fun a ha => Nat.zero_le _) (by simp; omega)
  simp only [List.nil_append, List.length_nil, Int.ofNat_zero, Int.natCast_zero] at this
  rw [le0_len, eqI_self, fitT (by show (l.map boE).length * _ ≤ _; rw [List.length_map]; omega)]
  simp only [Bool.and_self, cond_true]
  rw [show tn (lenI (l.map boE)) = l.length by show (l.map boE).length = _; simp]
  exact this
theorem sz_BoolS (l : List Bool) (n : Int) (h0 : 0 ≤ n) (h1 : n ≤ 1048576) (h : BdL BdT l) : callI tE f_laws_szBoolS [.sl (l.map boE), .int n] = some [.int (szv n l.length)] := by
  rw [c_laws_szBoolS]
  exact sz_flat h0 h1 (by simp) h.1
theorem eq_BoolS (l l' : List Bool) (h : l.length ≤ 1152921504606846976) : callI tE f_laws_eqBoolS [.sl (l.map boE), .sl (l'.map boE)] = some [.bool (decide (l = l'))] := by
  have hl : l.length ≤ 1152921504606846976 := h
  rw [c_laws_eqBoolS]
  by_cases hll : l.length = l'.length
  · rw [eq_len hll, Bool.not_true, cond_false]
    have := eq_loop (L := L_laws_eqBoolS_0) (e := boE) (P := fun a => (fun _ => 0) a ≤ 1152921504606846976) (fun p q p' q' a b _ hpl hlt => by
      rw [L_laws_eqBoolS_0_eq]
      simp only [lt_mid, in_mid, tn_c, at_mid, cond_true, cond_false, gn_c, gb_c, gs_c, gl_c, tk_s, tk_0, List.drop_succ_cons, List.drop_zero, List.headD_cons, List.getD_cons_zero, List.getD_cons_succ, bind_s, in_mid' hpl, at_mid' hpl, boE, eqBo, bifn]) (fun p p' hpl => by
      rw [L_laws_eqBoolS_0_eq, lt_end, cond_false]) l l' [] [] rfl hll (fun a ha => Nat.zero_le _) (by simp; omega)
    simpa using this
  · rw [ne_len hll, Bool.not_false, cond_true, decide_eq_false (fun e => hll (by rw [e]))]
theorem mark_BoolS (l : List Bool) (k : Int) (h0 : 0 ≤ k) (h1 : k + cntL c1 l < 4611686018427387904) (h2 : l.length ≤ 1152921504606846976) : callI tE f_laws_markBoolS [.sl (l.map boE), .int k] = some [.int (k + cntL c1 l), .sl ((mkL mkB c1 l k).map boE)] := by
  have hl : l.length ≤ 1152921504606846976 := h2
  rw [c_laws_markBoolS]
  have := mark_loop (L := L_laws_markBoolS_0) (e := boE) (f := mkB) (c := c1) (g := (fun _ => 0)) (fun p q a k h0 hc hg hlt => by
    rw [show k + ((c1 a : Nat) : Int) = k + 1 by simp only [c1]; omega]
    rw [L_laws_markBoolS_0_eq]
    simp only [lt_mid, in_mid, tn_c, at_mid, cond_true, cond_false, gn_c, gb_c, gs_c, gl_c, tk_s, tk_0, List.drop_succ_cons, List.drop_zero, List.headD_cons, List.getD_cons_zero, List.getD_cons_succ, bind_s, upd_mid, boE, mkB, w64_id (n := k + 1) (by simp only [c1] at hc; omega), setRange, List.set_cons_zero, List.set_cons_succ]) (fun p k => by
    rw [L_laws_markBoolS_0_eq, lt_end, cond_false]) l [] k h0 h1 (by rw [szL_flat]; exact h2) (by simp; omega)
  simpa using this
theorem held_BoolS (l : List Bool) (k : Int) (h0 : 0 ≤ k) (h1 : k + cntL c1 l < 4611686018427387904) (h2 : l.length ≤ 1152921504606846976) : callI tE f_laws_heldBoolS [.sl ((mkL mkB c1 l k).map boE), .int k] = some [.int (k + cntL c1 l)] := by
  have hl : l.length ≤ 1152921504606846976 := h2
  rw [c_laws_heldBoolS]
  have := held_loop (L := L_laws_heldBoolS_0) (e := boE) (f := mkB) (c := c1) (g := (fun _ => 0)) (fun p q a k h0 hc hg hlt => by
    rw [show k + ((c1 a : Nat) : Int) = k + 1 by simp only [c1]; omega]
    rw [L_laws_heldBoolS_0_eq]
    simp only [lt_mid, in_mid, tn_c, at_mid, cond_true, cond_false, gn_c, gb_c, gs_c, gl_c, tk_s, tk_0, List.drop_succ_cons, List.drop_zero, List.headD_cons, List.getD_cons_zero, List.getD_cons_succ, bind_s, boE, mkB, w64_id (n := k + 1) (by simp only [c1] at hc; omega), eqI_self, eqBo_self, Bool.not_true, ltF_nn h0]) (fun p k => by
    rw [L_laws_heldBoolS_0_eq, lt_end, cond_false]) l [] k h0 h1 (by rw [szL_flat]; exact h2) (by simp; omega)
  simpa using this
theorem eq_StringS (l l' : List ByteArray) (h : l.length ≤ 1152921504606846976) : callI tE f_laws_eqStringS [.sl (l.map stE), .sl (l'.map stE)] = some [.bool (decide (l = l'))] := by
  have hl : l.length ≤ 1152921504606846976 := h
  rw [c_laws_eqStringS]
  by_cases hll : l.length = l'.length
  · rw [eq_len hll, Bool.not_true, cond_false]
    have := eq_loop (L := L_laws_eqStringS_0) (e := stE) (P := fun a => (fun _ => 0) a ≤ 1152921504606846976) (fun p q p' q' a b _ hpl hlt => by
      rw [L_laws_eqStringS_0_eq]
      simp only [lt_mid, in_mid, tn_c, at_mid, cond_true, cond_false, gn_c, gb_c, gs_c, gl_c, tk_s, tk_0, List.drop_succ_cons, List.drop_zero, List.headD_cons, List.getD_cons_zero, List.getD_cons_succ, bind_s, in_mid' hpl, at_mid' hpl, stE, eqS_dec, bifn]) (fun p p' hpl => by
      rw [L_laws_eqStringS_0_eq, lt_end, cond_false]) l l' [] [] rfl hll (fun a ha => Nat.zero_le _) (by simp; omega)
    simpa using this
  · rw [ne_len hll, Bool.not_false, cond_true, decide_eq_false (fun e => hll (by rw [e]))]
theorem mark_StringS (l : List ByteArray) (k : Int) (h0 : 0 ≤ k) (h1 : k + cntL c1 l < 4611686018427387904) (h2 : l.length ≤ 1152921504606846976) : callI tE f_laws_markStringS [.sl (l.map stE), .int k] = some [.int (k + cntL c1 l), .sl ((mkL mkS c1 l k).map stE)] := by
  have hl : l.length ≤ 1152921504606846976 := h2
  rw [c_laws_markStringS]
  have := mark_loop (L := L_laws_markStringS_0) (e := stE) (f := mkS) (c := c1) (g := (fun _ => 0)) (fun p q a k h0 hc hg hlt => by
    rw [show k + ((c1 a : Nat) : Int) = k + 1 by simp only [c1]; omega]
    rw [L_laws_markStringS_0_eq]
    simp only [lt_mid, in_mid, tn_c, at_mid, cond_true, cond_false, gn_c, gb_c, gs_c, gl_c, tk_s, tk_0, List.drop_succ_cons, List.drop_zero, List.headD_cons, List.getD_cons_zero, List.getD_cons_succ, bind_s, upd_mid, stE, mkS, markText_ok h0 (by simp only [c1] at hc; omega), w64_id (n := k + 1) (by simp only [c1] at hc; omega), setRange, List.set_cons_zero, List.set_cons_succ]) (fun p k => by
    rw [L_laws_markStringS_0_eq, lt_end, cond_false]) l [] k h0 h1 (by rw [szL_flat]; exact h2) (by simp; omega)
  simpa using this
theorem held_StringS (l : List ByteArray) (k : Int) (h0 : 0 ≤ k) (h1 : k + cntL c1 l < 4611686018427387904) (h2 : l.length ≤ 1152921504606846976) : callI tE f_laws_heldStringS [.sl ((mkL mkS c1 l k).map stE), .int k] = some [.int (k + cntL c1 l)] := by
  have hl : l.length ≤ 1152921504606846976 := h2
  rw [c_laws_heldStringS]
  have := held_loop (L := L_laws_heldStringS_0) (e := stE) (f := mkS) (c := c1) (g := (fun _ => 0)) (fun p q a k h0 hc hg hlt => by
    rw [show k + ((c1 a : Nat) : Int) = k + 1 by simp only [c1]; omega]
    rw [L_laws_heldStringS_0_eq]
    simp only [lt_mid, in_mid, tn_c, at_mid, cond_true, cond_false, gn_c, gb_c, gs_c, gl_c, tk_s, tk_0, List.drop_succ_cons, List.drop_zero, List.headD_cons, List.getD_cons_zero, List.getD_cons_succ, bind_s, stE, mkS, markText_ok h0 (by simp only [c1] at hc; omega), eqS_dec, decide_true, w64_id (n := k + 1) (by simp only [c1] at hc; omega), eqI_self, eqBo_self, Bool.not_true, ltF_nn h0]) (fun p k => by
    rw [L_laws_heldStringS_0_eq, lt_end, cond_false]) l [] k h0 h1 (by rw [szL_flat]; exact h2) (by simp; omega)
  simpa using this
end Go.Proofs.Ytbmafhpbinjgaaa.Vai
