/- The laws' words over named data: made anew, measured, compared, marked, looked at; no condition. -/
import Derived.Test.YtbmafhpbinjgaaaEqE
import Derived.Test.YtbmafhpbinjgaaaT2
import Derived.Test.YtbmafhpbinjgaaaPLA
import Derived.Test.YtbmafhpbinjgaaaPLC
import Derived.Test.YtbmafhpbinjgaaaPLD
namespace Go.Proofs.Ytbmafhpbinjgaaa.Vai
open Go
set_option linter.unusedSimpArgs false
set_option linter.unusedVariables false
set_option linter.unnecessarySimpa false
set_option maxRecDepth 10000
theorem eq_Client (x y : Cl) : callI tE f_laws_eqClient [.int x.id, .int x.req, .int x.prio, .int y.id, .int y.req, .int y.prio] = some [.bool (decide (x = y))] := by
  have e : decide (x = y) = (decide (x.id = y.id) && (decide (x.req = y.req) && (decide (x.prio = y.prio)))) := by
    cases x; cases y
    simp only [Cl.mk.injEq, Bool.decide_and]
  simp only [gn_c, gb_c, gs_c, gl_c, tk_s, tk_0, List.drop_succ_cons, List.drop_zero, List.headD_cons, List.getD_cons_zero, List.getD_cons_succ, bind_s, eqI, eqBo, e, bif_and, Bool.and_true, c_laws_eqClient]
theorem eq_ClientS (l l' : List Cl) (h : l.length ≤ 1152921504606846976) : callI tE f_laws_eqClientS [.sl (l.map Cl.e), .sl (l'.map Cl.e)] = some [.bool (decide (l = l'))] := by
  have hl : l.length ≤ 1152921504606846976 := h
  rw [c_laws_eqClientS]
  by_cases hll : l.length = l'.length
  · rw [eq_len hll, Bool.not_true, cond_false]
    have := eq_loop (L := L_laws_eqClientS_0) (e := Cl.e) (P := fun a => (fun _ => 0) a ≤ 1152921504606846976) (fun p q p' q' a b _ hpl hlt => by
      rw [L_laws_eqClientS_0_eq]
      simp only [lt_mid, in_mid, tn_c, at_mid, cond_true, cond_false, gn_c, gb_c, gs_c, gl_c, tk_s, tk_0, List.drop_succ_cons, List.drop_zero, List.headD_cons, List.getD_cons_zero, List.getD_cons_succ, bind_s, in_mid' hpl, at_mid' hpl, Cl.e, eq_Client a b, bifn]) (fun p p' hpl => by
      rw [L_laws_eqClientS_0_eq, lt_end, cond_false]) l l' [] [] rfl hll (fun a ha => Nat.zero_le _) (by simp; omega)
    simpa using this
  · rw [ne_len hll, Bool.not_false, cond_true, decide_eq_false (fun e => hll (by rw [e]))]
theorem mark_ClientS (l : List Cl) (k : Int) (h0 : 0 ≤ k) (h1 : k + cntL Cl.ct l < 4611686018427387904) (h2 : l.length ≤ 1152921504606846976) : callI tE f_laws_markClientS [.sl (l.map Cl.e), .int k] = some [.int (k + cntL Cl.ct l), .sl ((mkL Cl.mkm Cl.ct l k).map Cl.e)] := by
  have hl : l.length ≤ 1152921504606846976 := h2
  rw [c_laws_markClientS]
  have := mark_loop (L := L_laws_markClientS_0) (e := Cl.e) (f := Cl.mkm) (c := Cl.ct) (g := (fun _ => 0)) (fun p q a k h0 hc hg hlt => by
    rw [show k + ((Cl.ct a : Nat) : Int) = k + 1 + 1 + 1 by simp only [Cl.ct]; omega]
    rw [L_laws_markClientS_0_eq]
    simp only [lt_mid, in_mid, tn_c, at_mid, cond_true, cond_false, gn_c, gb_c, gs_c, gl_c, tk_s, tk_0, List.drop_succ_cons, List.drop_zero, List.headD_cons, List.getD_cons_zero, List.getD_cons_succ, bind_s, upd_mid, Cl.e, Cl.mkm, w64_id (n := k + 1) (by simp only [Cl.ct] at hc; omega), w64_id (n := k + 1 + 1) (by simp only [Cl.ct] at hc; omega), w64_id (n := k + 1 + 1 + 1) (by simp only [Cl.ct] at hc; omega), setRange, List.set_cons_zero, List.set_cons_succ]) (fun p k => by
    rw [L_laws_markClientS_0_eq, lt_end, cond_false]) l [] k h0 h1 (by rw [szL_flat]; exact h2) (by simp; omega)
  simpa using this
theorem held_ClientS (l : List Cl) (k : Int) (h0 : 0 ≤ k) (h1 : k + cntL Cl.ct l < 4611686018427387904) (h2 : l.length ≤ 1152921504606846976) : callI tE f_laws_heldClientS [.sl ((mkL Cl.mkm Cl.ct l k).map Cl.e), .int k] = some [.int (k + cntL Cl.ct l)] := by
  have hl : l.length ≤ 1152921504606846976 := h2
  rw [c_laws_heldClientS]
  have := held_loop (L := L_laws_heldClientS_0) (e := Cl.e) (f := Cl.mkm) (c := Cl.ct) (g := (fun _ => 0)) (fun p q a k h0 hc hg hlt => by
    rw [show k + ((Cl.ct a : Nat) : Int) = k + 1 + 1 + 1 by simp only [Cl.ct]; omega]
    rw [L_laws_heldClientS_0_eq]
    simp only [lt_mid, in_mid, tn_c, at_mid, cond_true, cond_false, gn_c, gb_c, gs_c, gl_c, tk_s, tk_0, List.drop_succ_cons, List.drop_zero, List.headD_cons, List.getD_cons_zero, List.getD_cons_succ, bind_s, Cl.e, Cl.mkm, w64_id (n := k + 1) (by simp only [Cl.ct] at hc; omega), w64_id (n := k + 1 + 1) (by simp only [Cl.ct] at hc; omega), w64_id (n := k + 1 + 1 + 1) (by simp only [Cl.ct] at hc; omega), eqI_self, eqBo_self, Bool.not_true, ltF_nn h0]) (fun p k => by
    rw [L_laws_heldClientS_0_eq, lt_end, cond_false]) l [] k h0 h1 (by rw [szL_flat]; exact h2) (by simp; omega)
  simpa using this
theorem eq_Slot (x y : Sl) (h : x.sz ≤ 1152921504606846976) : callI tE f_laws_eqSlot [.int x.id, .int x.op.kind, .sl (x.op.so.inp.map Rw.e), .int x.op.so.pos, .sl (x.op.so.heap.map Rw.e), .sl (x.op.so.dfd.map Rw.e), .sl (x.op.so.out.map Rw.e), .sl (x.op.so.runs.map rsE), .int x.op.so.lp, .int x.op.so.rp, .int x.op.so.ph, .int x.op.so.wr, .sl (x.op.jn.pend.map Tk.e), .int x.op.jn.wr, .int x.op.jn.parts, .sl (x.op.ag.pend.map Gt.e), .int x.op.ag.wr, .bool x.op.ag.early, .sl (x.out.rows.map Rw.e), .sl (x.out.pairs.map Pr.e), .sl (x.out.groups.map Gr.e), .bool x.done, .int y.id, .int y.op.kind, .sl (y.op.so.inp.map Rw.e), .int y.op.so.pos, .sl (y.op.so.heap.map Rw.e), .sl (y.op.so.dfd.map Rw.e), .sl (y.op.so.out.map Rw.e), .sl (y.op.so.runs.map rsE), .int y.op.so.lp, .int y.op.so.rp, .int y.op.so.ph, .int y.op.so.wr, .sl (y.op.jn.pend.map Tk.e), .int y.op.jn.wr, .int y.op.jn.parts, .sl (y.op.ag.pend.map Gt.e), .int y.op.ag.wr, .bool y.op.ag.early, .sl (y.out.rows.map Rw.e), .sl (y.out.pairs.map Pr.e), .sl (y.out.groups.map Gr.e), .bool y.done] = some [.bool (decide (x = y))] := by
  have e : decide (x = y) = (decide (x.id = y.id) && (decide (x.op = y.op) && (decide (x.out = y.out) && (decide (x.done = y.done))))) := by
    cases x; cases y
    simp only [Sl.mk.injEq, Bool.decide_and]
  simp only [eq_Op x.op y.op (by simp only [Sl.sz] at h; omega), eq_Output x.out y.out (by simp only [Sl.sz] at h; omega), gn_c, gb_c, gs_c, gl_c, tk_s, tk_0, List.drop_succ_cons, List.drop_zero, List.headD_cons, List.getD_cons_zero, List.getD_cons_succ, bind_s, eqI, eqBo, e, bif_and, Bool.and_true, c_laws_eqSlot]
theorem eq_SlotS (l l' : List Sl) (h : szL Sl.sz l ≤ 1152921504606846976) : callI tE f_laws_eqSlotS [.sl (l.map Sl.e), .sl (l'.map Sl.e)] = some [.bool (decide (l = l'))] := by
  have hl : l.length ≤ 1152921504606846976 := (Nat.le_trans (szL_len _ _) h)
  rw [c_laws_eqSlotS]
  by_cases hll : l.length = l'.length
  · rw [eq_len hll, Bool.not_true, cond_false]
    have := eq_loop (L := L_laws_eqSlotS_0) (e := Sl.e) (P := fun a => Sl.sz a ≤ 1152921504606846976) (fun p q p' q' a b hP hpl hlt => by
      rw [L_laws_eqSlotS_0_eq]
      simp only [lt_mid, in_mid, tn_c, at_mid, cond_true, cond_false, gn_c, gb_c, gs_c, gl_c, tk_s, tk_0, List.drop_succ_cons, List.drop_zero, List.headD_cons, List.getD_cons_zero, List.getD_cons_succ, bind_s, in_mid' hpl, at_mid' hpl, Sl.e, eq_Slot a b hP, bifn]) (fun p p' hpl => by
      rw [L_laws_eqSlotS_0_eq, lt_end, cond_false]) l l' [] [] rfl hll (fun a ha => Nat.le_trans (szL_mem ha) h) (by simp; omega)
    simpa using this
  · rw [ne_len hll, Bool.not_false, cond_true, decide_eq_false (fun e => hll (by rw [e]))]
theorem eq_Broker (x y : Br) (h : x.sz ≤ 1152921504606846976) : callI tE f_laws_eqBroker [.int x.pool, .int x.next, .sl (x.act.map Cl.e), .sl (x.wait.map Cl.e), .int y.pool, .int y.next, .sl (y.act.map Cl.e), .sl (y.wait.map Cl.e)] = some [.bool (decide (x = y))] := by
  have e : decide (x = y) = (decide (x.pool = y.pool) && (decide (x.next = y.next) && (decide (x.act = y.act) && (decide (x.wait = y.wait))))) := by
    cases x; cases y
    simp only [Br.mk.injEq, Bool.decide_and]
  simp only [eq_ClientS x.act y.act (by simp only [Br.sz] at h; omega), eq_ClientS x.wait y.wait (by simp only [Br.sz] at h; omega), gn_c, gb_c, gs_c, gl_c, tk_s, tk_0, List.drop_succ_cons, List.drop_zero, List.headD_cons, List.getD_cons_zero, List.getD_cons_succ, bind_s, eqI, eqBo, e, bif_and, Bool.and_true, c_laws_eqBroker]
theorem mark_Broker (x : Br) (k : Int) (h0 : 0 ≤ k) (h1 : k + (cntL Cl.ct x.act : Nat) + (cntL Cl.ct x.wait : Nat) < 4611686018427387904) (h2 : x.sz ≤ 1152921504606846976) : callI tE f_laws_markBroker [.int x.pool, .int x.next, .sl (x.act.map Cl.e), .sl (x.wait.map Cl.e), .int k] = some [.int (k + (cntL Cl.ct x.act : Nat) + (cntL Cl.ct x.wait : Nat)), .sl ((mkL Cl.mkm Cl.ct x.act k).map Cl.e), .sl ((mkL Cl.mkm Cl.ct x.wait (k + (cntL Cl.ct x.act : Nat))).map Cl.e)] := by
  simp only [c_laws_markBroker, mark_ClientS x.act k (by omega) (by omega) (by simp only [Br.sz] at h2; omega), mark_ClientS x.wait (k + (cntL Cl.ct x.act : Nat)) (by omega) (by omega) (by simp only [Br.sz] at h2; omega), gn_c, gb_c, gs_c, gl_c, tk_s, tk_0, List.drop_succ_cons, List.drop_zero, List.headD_cons, List.getD_cons_zero, List.getD_cons_succ, bind_s]
theorem held_Broker (x : Br) (k : Int) (h0 : 0 ≤ k) (h1 : k + (cntL Cl.ct x.act : Nat) + (cntL Cl.ct x.wait : Nat) < 4611686018427387904) (h2 : x.sz ≤ 1152921504606846976) : callI tE f_laws_heldBroker [.int x.pool, .int x.next, .sl ((mkL Cl.mkm Cl.ct x.act k).map Cl.e), .sl ((mkL Cl.mkm Cl.ct x.wait (k + (cntL Cl.ct x.act : Nat))).map Cl.e), .int k] = some [.int (k + (cntL Cl.ct x.act : Nat) + (cntL Cl.ct x.wait : Nat))] := by
  simp only [c_laws_heldBroker, held_ClientS x.act k (by omega) (by omega) (by simp only [Br.sz] at h2; omega), held_ClientS x.wait (k + (cntL Cl.ct x.act : Nat)) (by omega) (by omega) (by simp only [Br.sz] at h2; omega), gn_c, gb_c, gs_c, gl_c, tk_s, tk_0, List.drop_succ_cons, List.drop_zero, List.headD_cons, List.getD_cons_zero, List.getD_cons_succ, bind_s, ltF (a := k + (cntL Cl.ct x.act : Nat)) (b := 0) (by omega), ltF (a := k + (cntL Cl.ct x.act : Nat) + (cntL Cl.ct x.wait : Nat)) (b := 0) (by omega), cond_false]
theorem eq_System (x y : Sy) (h : x.sz ≤ 1152921504606846976) : callI tE f_laws_eqSystem [.int x.br.pool, .int x.br.next, .sl (x.br.act.map Cl.e), .sl (x.br.wait.map Cl.e), .sl (x.slots.map Sl.e), .int x.round, .int y.br.pool, .int y.br.next, .sl (y.br.act.map Cl.e), .sl (y.br.wait.map Cl.e), .sl (y.slots.map Sl.e), .int y.round] = some [.bool (decide (x = y))] := by
  have e : decide (x = y) = (decide (x.br = y.br) && (decide (x.slots = y.slots) && (decide (x.round = y.round)))) := by
    cases x; cases y
    simp only [Sy.mk.injEq, Bool.decide_and]
  simp only [eq_Broker x.br y.br (by simp only [Sy.sz] at h; omega), eq_SlotS x.slots y.slots (by simp only [Sy.sz] at h; omega), gn_c, gb_c, gs_c, gl_c, tk_s, tk_0, List.drop_succ_cons, List.drop_zero, List.headD_cons, List.getD_cons_zero, List.getD_cons_succ, bind_s, eqI, eqBo, e, bif_and, Bool.and_true, c_laws_eqSystem]
end Go.Proofs.Ytbmafhpbinjgaaa.Vai
