/- What the law of this claim leans on; no condition. -/
import Derived.Test.YtbmafhpbinjgaaaGreatPkFnExactFormatOp1
namespace Go.Proofs.YtbmafhpbinjgaaaGreat.Vai
open Go
set_option linter.unusedSimpArgs false
set_option linter.unusedVariables false
set_option linter.unnecessarySimpa false
set_option maxRecDepth 10000
def mergeOk (s : So) : Bool := match s.runs with
  | a :: b :: _ => win s.lp 0 a.length && (win s.rp 0 b.length && (decide (s.out = mrg (a.take s.lp.toNat) (b.take s.rp.toNat)) && decide (s.out = (mrg a b).take (s.lp.toNat + s.rp.toNat))))
  | _ => false
def soLate (s : So) : Bool :=
  if s.ph = 2 then mergeOk s
  else if s.ph = 3 then decide (s.runs.length = 1) && (decide (0 ≤ s.lp ∧ s.lp < s.inp.length) && (decide (s.rp = 0) && decide (s.out = [])))
  else if s.ph = 4 then decide (s.runs.length ≤ 1) && (decide (s.lp = s.inp.length) && (decide (s.rp = 0) && decide (s.out = [])))
  else false
def soTail (s : So) : Bool :=
  if s.ph = 1 then decide (s.lp = 0) && (decide (s.rp = 0) && (decide (s.out ≠ [] ∨ s.dfd = []) && (decide (memS s ≤ 60) && bagEq (s.runs.flatten ++ (s.out ++ (s.heap ++ s.dfd))) (s.inp.take s.pos.toNat))))
  else decide (s.pos = s.inp.length) && (decide (s.heap = []) && (decide (s.dfd = []) && (bagEq s.runs.flatten s.inp && soLate s)))
def soOk (s : So) : Bool := aok s.inp && (win s.pos 0 s.inp.length && (s.runs.all runOk && (decide (0 ≤ s.wr) && (isS s.out && ((s.heap.all fun r => !belowB r s.out) && soTail s)))))
def So.B2 (s : So) : Prop := s.sz ≤ 1073741800
theorem So.B2.b {s : So} (h : s.B2) : s.B := by simp only [So.B2, So.B] at *; omega
theorem take_p (l : List Rw) (p : Int) : List.take (tn (p - 0)) (List.drop (tn 0) (l.map Rw.e)) = (l.take p.toNat).map Rw.e := by
  show List.take (p - 0).toNat (List.drop 0 (l.map Rw.e)) = _
  rw [Int.sub_zero, List.drop_zero, List.map_take]
theorem nil_len {α : Type} (l : List α) : decide (l = []) = decide (l.length = 0) := by
  cases l <;> simp
theorem dec_le60 (n : Nat) : leI (n : Int) 60 = decide (n ≤ 60) := by
  unfold leI; congr 1; apply propext; omega
theorem iTail (s : So) (h : s.B2) (hp : win s.pos 0 s.inp.length = true) (x0 : Int) (x1 : Rows) (n : Int) :
    L_impl_IsValidSorter_0 x0 x1 n n (s.inp.map Rw.e) s.pos (s.heap.map Rw.e) (s.dfd.map Rw.e) (s.out.map Rw.e) (s.runs.map rsE) s.lp s.rp s.ph s.wr = some [.bool (soTail s)] := by
  obtain ⟨h1, h2, h3, h4, h5⟩ := h.b.p
  have hpp := win_iff.mp hp
  have hfl := flat_le s.runs
  have hsz : s.inp.length + (s.heap.length + (s.dfd.length + (s.out.length + s.runs.flatten.length))) ≤ 1073741800 := by
    simp only [So.B2, So.sz] at h; omega
  have ht : callI tE f_impl_together [.sl [[.sl (s.runs.flatten.map Rw.e)], [.sl (s.out.map Rw.e)], [.sl (s.heap.map Rw.e)], [.sl (s.dfd.map Rw.e)]]] = some [.sl ((s.runs.flatten ++ (s.out ++ (s.heap ++ s.dfd))).map Rw.e)] := by
    have := iTogether [s.runs.flatten, s.out, s.heap, s.dfd] (by simp only [szL]; omega)
    simpa [rsE] using this
  have hb1 := iBags (s.runs.flatten ++ (s.out ++ (s.heap ++ s.dfd))) (s.inp.take s.pos.toNat) (by (first | omega | (simp only [List.length_append, List.length_cons, List.length_nil, List.length_map, List.length_take, List.length_drop, List.length_replicate, szI_S] at * <;> omega))) (by (first | omega | (simp only [List.length_append, List.length_cons, List.length_nil, List.length_map, List.length_take, List.length_drop, List.length_replicate, szI_S] at * <;> omega)))
  have hb2 := iBags s.runs.flatten s.inp (by omega) (by omega)
  rw [L_impl_IsValidSorter_0_eq, ltF (Int.le_refl n), cond_false]
  simp only [iFlatten s.runs h5, iMem s h.b, gn_c, gb_c, gs_c, gl_c, tk_s, tk_0, List.drop_succ_cons, List.drop_zero, List.headD_cons, List.getD_cons_zero, List.getD_cons_succ, bind_s, ht, hb2, take_p, hb1]
  unfold soTail
  by_cases p1 : s.ph = 1
  · rw [eqT p1, cond_true, if_pos p1]
    by_cases q1 : s.lp = 0
    · rw [eqT q1, cond_true, decide_eq_true q1]
      by_cases q2 : s.rp = 0
      · rw [eqT q2, cond_true, decide_eq_true q2, leT (show 0 ≤ s.pos by omega), show leI s.pos (lenI (s.inp.map Rw.e)) = true by rw [lenI_map]; exact leT (by omega)]
        simp only [Bool.and_self, cond_true, dec_le60, lenI_map]
        by_cases q3 : 0 < s.out.length
        · rw [ltT (by omega), cond_true, decide_eq_true (show s.out ≠ [] ∨ s.dfd = [] from .inl (fun e => by rw [e] at q3; simp at q3))]
          cases decide (memS s ≤ 60) <;> rfl
        · rw [ltF (by omega), cond_false]
          have qo : s.out = [] := List.length_eq_zero_iff.mp (by omega)
          by_cases q4 : s.dfd.length = 0
          · rw [eqT (by omega), cond_true, decide_eq_true (show s.out ≠ [] ∨ s.dfd = [] from .inr (List.length_eq_zero_iff.mp q4))]
            cases decide (memS s ≤ 60) <;> rfl
          · rw [eqF (by omega), cond_false, decide_eq_false (show ¬ (s.out ≠ [] ∨ s.dfd = []) from fun e => e.elim (fun e => e qo) (fun e => q4 (by rw [e]; rfl)))]
            rfl
      · rw [eqF q2, decide_eq_false q2]; rfl
    · rw [eqF q1, decide_eq_false q1]; rfl
  · rw [eqF p1, cond_false, if_neg p1]
    simp only [lenI_map]
    by_cases q1 : s.pos = s.inp.length
    · rw [eqT q1, Bool.not_true, cond_false, decide_eq_true q1]
      by_cases q2 : s.heap.length = 0
      · rw [ltF (by omega), cond_false, nil_len s.heap, decide_eq_true q2]
        by_cases q3 : s.dfd.length = 0
        · rw [ltF (by omega), cond_false, nil_len s.dfd, decide_eq_true q3]
          simp only [Bool.true_and]
          cases bagEq s.runs.flatten s.inp
          · rfl
          · simp only [Bool.not_true, cond_false, Bool.true_and]
            unfold soLate
            by_cases p2 : s.ph = 2
            · rw [eqT p2, cond_true, if_pos p2]
              unfold mergeOk
              cases hr : s.runs with
              | nil => rfl
              | cons a r =>
                cases r with
                | nil => rfl
                | cons b r =>
                  have ha : a.length ≤ 1073741824 := Nat.le_trans (szL_mem' (by rw [hr]; simp)) h5
                  have hb : b.length ≤ 1073741824 := Nat.le_trans (szL_mem' (by rw [hr]; simp)) h5
                  have g0 : at' ((a :: b :: r).map rsE) (tn 0) = rsE a := rfl
                  have g1 : at' ((a :: b :: r).map rsE) (tn 1) = rsE b := rfl
                  have l0 : ltI ((a :: b :: r).length : Int) 2 = false := ltF (by simp; omega)
                  have l1 : inR 0 ((a :: b :: r).length : Int) = true := inRT (by omega) (by simp; omega)
                  have l2 : inR 1 ((a :: b :: r).length : Int) = true := inRT (by omega) (by simp; omega)
                  simp only [l0, l1, l2, cond_true, cond_false, g0, g1, rsE, gn_c, gb_c, gs_c, gl_c, tk_s, tk_0, List.drop_succ_cons, List.drop_zero, List.headD_cons, List.getD_cons_zero, List.getD_cons_succ, bind_s, lenI_map, within_ok]
                  by_cases w1 : win s.lp 0 a.length = true
                  · by_cases w2 : win s.rp 0 b.length = true
                    · have w3 := win_iff.mp w1
                      have w4 := win_iff.mp w2
                      have m1 := iMrg (a.take s.lp.toNat) (b.take s.rp.toNat) (by simp; omega)
                      have m2 := iMrg a b (by omega)
                      have ml := mrg_length a b
                      have e1 := iEqual s.out (mrg (a.take s.lp.toNat) (b.take s.rp.toNat)) (by omega)
                      have e2 := iEqual s.out ((mrg a b).take (s.lp.toNat + s.rp.toNat)) (by omega)
                      have e3 : w64 (s.lp + s.rp) = s.lp + s.rp := w64_id ⟨by omega, by omega⟩
                      have e4 : (s.lp + s.rp).toNat = s.lp.toNat + s.rp.toNat := by omega
                      rw [w1, w2, leT w3.1, leT w3.2, leT w4.1, leT w4.2]
                      simp only [Bool.not_true, cond_false, Bool.and_self, cond_true, take_p, m1, m2, e1, gn_c, gb_c, gs_c, gl_c, tk_s, tk_0, List.drop_succ_cons, List.drop_zero, List.headD_cons, List.getD_cons_zero, List.getD_cons_succ, bind_s, e3, e4, lenI_map, e2]
                      rw [leT (by omega), leT (by rw [ml]; omega)]
                      simp only [Bool.and_self, cond_true, Bool.true_and]
                      cases decide (s.out = mrg (a.take s.lp.toNat) (b.take s.rp.toNat)) <;> rfl
                    · rw [w1, (Bool.not_eq_true _).mp w2]; rfl
                  · rw [(Bool.not_eq_true _).mp w1]; rfl
            · rw [eqF p2, cond_false, if_neg p2]
              by_cases p3 : s.ph = 3
              · rw [eqT p3, cond_true, if_pos p3]
                by_cases w1 : s.runs.length = 1
                · rw [eqT (by omega), cond_true, decide_eq_true w1]
                  simp only [within_ok, win_len (show s.inp.length ≤ 1073741824 by omega), gn_c, gb_c, gs_c, gl_c, tk_s, tk_0, List.drop_succ_cons, List.drop_zero, List.headD_cons, List.getD_cons_zero, List.getD_cons_succ, bind_s, Bool.true_and]
                  by_cases w2 : 0 ≤ s.lp ∧ s.lp < s.inp.length
                  · rw [decide_eq_true w2, cond_true]
                    by_cases w3 : s.rp = 0
                    · rw [eqT w3, cond_true, decide_eq_true w3, nil_len]
                      unfold eqI
                      simp
                    · rw [eqF w3, decide_eq_false w3]; rfl
                  · rw [decide_eq_false w2]; rfl
                · rw [eqF (by omega), decide_eq_false w1]; rfl
              · rw [eqF p3, cond_false, if_neg p3]
                by_cases p4 : s.ph = 4
                · rw [eqT p4, cond_true, if_pos p4]
                  by_cases w1 : s.runs.length ≤ 1
                  · rw [leT (by omega), cond_true, decide_eq_true w1]
                    by_cases w2 : s.lp = s.inp.length
                    · rw [eqT w2, cond_true, decide_eq_true w2]
                      by_cases w3 : s.rp = 0
                      · rw [eqT w3, cond_true, decide_eq_true w3, nil_len]
                        unfold eqI
                        simp
                      · rw [eqF w3, decide_eq_false w3]; rfl
                    · rw [eqF w2, decide_eq_false w2]; rfl
                  · rw [leF (by omega), decide_eq_false w1]; rfl
                · rw [eqF p4, if_neg p4]; rfl
        · rw [ltT (by omega), nil_len s.dfd, decide_eq_false q3]; simp
      · rw [ltT (by omega), nil_len s.heap, decide_eq_false q2]; rfl
    · rw [eqF q1, decide_eq_false q1]; rfl
theorem iValidSo (s : So) (h : s.B2) : callI tE f_impl_IsValidSorter [.sl (s.inp.map Rw.e), .int s.pos, .sl (s.heap.map Rw.e), .sl (s.dfd.map Rw.e), .sl (s.out.map Rw.e), .sl (s.runs.map rsE), .int s.lp, .int s.rp, .int s.ph, .int s.wr] = some [.bool (soOk s)] := by
  obtain ⟨h1, h2, h3, h4, h5⟩ := h.b.p
  rw [c_impl_IsValidSorter]
  simp only [iAreValid, within_ok, lenI_map, iValidRuns s.runs h5, iIsSorted s.out (by omega), gn_c, gb_c, gs_c, gl_c, tk_s, tk_0, List.drop_succ_cons, List.drop_zero, List.headD_cons, List.getD_cons_zero, List.getD_cons_succ, bind_s]
  unfold soOk
  cases aok s.inp
  · rfl
  · by_cases hp : win s.pos 0 s.inp.length = true
    · rw [hp]
      cases s.runs.all runOk
      · rfl
      · by_cases hw : 0 ≤ s.wr
        · rw [ltF hw, decide_eq_true hw]
          cases isS s.out
          · rfl
          · have := all_loop (l := s.heap) (L := fun i => L_impl_IsValidSorter_0 0 (s.heap.map Rw.e) (s.heap.length : Nat) i (s.inp.map Rw.e) s.pos (s.heap.map Rw.e) (s.dfd.map Rw.e) (s.out.map Rw.e) (s.runs.map rsE) s.lp s.rp s.ph s.wr) (p := fun r => !belowB r s.out) (no := some [.bool false]) (yes := some [.bool (soTail s)]) (by omega) (fun u a v e => by
              have hu : u.length < s.heap.length := by rw [e]; simp
              have ha : at' (s.heap.map Rw.e) u.length = a.e := at_i e rfl
              rw [L_impl_IsValidSorter_0_eq, ltT (by omega), cond_true, in_i hu, cond_true]
              simp only [tn_c, ha, gk, gv, gw, iBelow a s.out (by omega), gn_c, gb_c, gs_c, gl_c, tk_s, tk_0, List.drop_succ_cons, List.drop_zero, List.headD_cons, List.getD_cons_zero, List.getD_cons_succ, bind_s]
              cases belowB a s.out <;> rfl) (iTail s h hp 0 _ _)
            refine this.trans ?_
            cases s.heap.all fun r => !belowB r s.out <;> rfl
        · rw [ltT (by omega), decide_eq_false hw]; rfl
    · rw [(Bool.not_eq_true _).mp hp]; rfl
theorem sTail (s : So) (h : s.B2) (hp : win s.pos 0 s.inp.length = true) (x0 : Int) :
    L_spec_IsValidSorter_0 x0 (w64 ((s.out.length : Int) - 1)) (s.heap.length : Nat) (s.inp.map Rw.e) s.pos (s.heap.map Rw.e) (s.dfd.map Rw.e) (s.out.map Rw.e) (s.runs.map rsE) s.lp s.rp s.ph s.wr = some [.bool (soTail s)] := by
  obtain ⟨h1, h2, h3, h4, h5⟩ := h.b.p
  have hpp := win_iff.mp hp
  have hfl := flat_le s.runs
  have hsz : s.inp.length + (s.heap.length + (s.dfd.length + (s.out.length + s.runs.flatten.length))) ≤ 1073741800 := by
    simp only [So.B2, So.sz] at h; omega
  have hb1 := sBags (s.runs.flatten ++ (s.out ++ (s.heap ++ s.dfd))) (s.inp.take s.pos.toNat) (by (first | omega | (simp only [List.length_append, List.length_cons, List.length_nil, List.length_map, List.length_take, List.length_drop, List.length_replicate, szI_S] at * <;> omega))) (by (first | omega | (simp only [List.length_append, List.length_cons, List.length_nil, List.length_map, List.length_take, List.length_drop, List.length_replicate, szI_S] at * <;> omega)))
  have hb2 := sBags s.runs.flatten s.inp (by omega) (by omega)
  have f1 : fitM (s.runs.flatten.length + s.out.length) 24 = true := fitT (by omega)
  have f2 : fitM ((s.runs.flatten ++ s.out).length + s.heap.length) 24 = true := fitT (by (first | omega | (simp only [List.length_append, List.length_cons, List.length_nil, List.length_map, List.length_take, List.length_drop, List.length_replicate, szI_S] at * <;> omega)))
  have f3 : fitM ((s.runs.flatten ++ s.out ++ s.heap).length + s.dfd.length) 24 = true := fitT (by (first | omega | (simp only [List.length_append, List.length_cons, List.length_nil, List.length_map, List.length_take, List.length_drop, List.length_replicate, szI_S] at * <;> omega)))
  have hass : s.runs.flatten ++ s.out ++ s.heap ++ s.dfd = s.runs.flatten ++ (s.out ++ (s.heap ++ s.dfd)) := by simp
  have hlast : leI 0 (w64 ((s.out.length : Int) - 1)) = decide (0 < s.out.length) := by
    rw [w64_id ⟨by omega, by omega⟩]; unfold leI; congr 1; apply propext; omega
  rw [L_spec_IsValidSorter_0_eq, lenI_map, ltF (Int.le_refl _), cond_false]
  simp only [sFlatten s.runs h5, sMem s h.b, gn_c, gb_c, gs_c, gl_c, tk_s, tk_0, List.drop_succ_cons, List.drop_zero, List.headD_cons, List.getD_cons_zero, List.getD_cons_succ, bind_s, hb2, take_p, len_map, app_map2, f1, f2, f3, cond_true, hass, hb1, hlast, lenI_map]
  unfold soTail
  by_cases p1 : s.ph = 1
  · rw [eqT p1, cond_true, if_pos p1]
    by_cases q1 : s.lp = 0
    · rw [eqT q1, cond_true, decide_eq_true q1]
      by_cases q2 : s.rp = 0
      · rw [eqT q2, cond_true, decide_eq_true q2, leT (show 0 ≤ s.pos by omega), leT (show s.pos ≤ s.inp.length by omega)]
        simp only [Bool.and_self, cond_true, dec_le60]
        by_cases q4 : s.dfd.length = 0
        · rw [eqT (by omega), cond_true, decide_eq_true (show s.out ≠ [] ∨ s.dfd = [] from .inr (List.length_eq_zero_iff.mp q4))]
          cases decide (memS s ≤ 60) <;> rfl
        · rw [eqF (by omega), cond_false]
          by_cases q3 : 0 < s.out.length
          · rw [decide_eq_true q3, cond_true, decide_eq_true (show s.out ≠ [] ∨ s.dfd = [] from .inl (fun e => by rw [e] at q3; simp at q3))]
            cases decide (memS s ≤ 60) <;> rfl
          · have qo : s.out = [] := List.length_eq_zero_iff.mp (by omega)
            rw [decide_eq_false q3, cond_false, decide_eq_false (show ¬ (s.out ≠ [] ∨ s.dfd = []) from fun e => e.elim (fun e => e qo) (fun e => q4 (by rw [e]; rfl)))]
            rfl
      · rw [eqF q2, decide_eq_false q2]; rfl
    · rw [eqF q1, decide_eq_false q1]; rfl
  · rw [eqF p1, cond_false, if_neg p1]
    by_cases q1 : s.pos = s.inp.length
    · rw [eqT q1, Bool.not_true, cond_false, decide_eq_true q1, w64_id (n := (s.heap.length : Int) + (s.dfd.length : Int)) ⟨by omega, by omega⟩]
      by_cases q2 : s.heap.length = 0
      · by_cases q3 : s.dfd.length = 0
        · rw [ltF (by omega), cond_false, nil_len s.heap, decide_eq_true q2, nil_len s.dfd, decide_eq_true q3]
          simp only [Bool.true_and]
          unfold soLate
          by_cases p2 : s.ph = 2
          · rw [eqT p2, cond_true, if_pos p2]
            unfold mergeOk
            cases hr : s.runs with
            | nil => simp [ltI]
            | cons a r =>
              cases r with
              | nil => simp [ltI]
              | cons b r =>
                have ha : a.length ≤ 1073741824 := Nat.le_trans (szL_mem' (by rw [hr]; simp)) h5
                have hb : b.length ≤ 1073741824 := Nat.le_trans (szL_mem' (by rw [hr]; simp)) h5
                have g0 : at' ((a :: b :: r).map rsE) (tn 0) = rsE a := rfl
                have g1 : at' ((a :: b :: r).map rsE) (tn 1) = rsE b := rfl
                have l0 : ltI ((a :: b :: r).length : Int) 2 = false := ltF (by simp; omega)
                have l1 : inR 0 ((a :: b :: r).length : Int) = true := inRT (by omega) (by simp; omega)
                have l2 : inR 1 ((a :: b :: r).length : Int) = true := inRT (by omega) (by simp; omega)
                simp only [l0, l1, l2, cond_true, cond_false, g0, g1, rsE, gn_c, gb_c, gs_c, gl_c, tk_s, tk_0, List.drop_succ_cons, List.drop_zero, List.headD_cons, List.getD_cons_zero, List.getD_cons_succ, bind_s, lenI_map, l1In_ok]
                by_cases w1 : win s.lp 0 a.length = true
                · by_cases w2 : win s.rp 0 b.length = true
                  · have w3 := win_iff.mp w1
                    have w4 := win_iff.mp w2
                    have m1 := sMrg (a.take s.lp.toNat) (b.take s.rp.toNat) (by simp; omega)
                    have m2 := sMrg a b (by omega)
                    have ml := mrg_length a b
                    have ml2 := mrg_length (a.take s.lp.toNat) (b.take s.rp.toNat)
                    simp only [List.length_take] at ml2
                    have e1 := sEqual (mrg (a.take s.lp.toNat) (b.take s.rp.toNat)) s.out (by omega)
                    have e2 := sEqual s.out ((mrg a b).take (s.lp.toNat + s.rp.toNat)) (by omega)
                    have e3 : w64 (s.lp + s.rp) = s.lp + s.rp := w64_id ⟨by omega, by omega⟩
                    have e4 : (s.lp + s.rp).toNat = s.lp.toNat + s.rp.toNat := by omega
                    have e5 : decide (mrg (a.take s.lp.toNat) (b.take s.rp.toNat) = s.out) = decide (s.out = mrg (a.take s.lp.toNat) (b.take s.rp.toNat)) := by
                      congr 1; exact propext ⟨fun e => e.symm, fun e => e.symm⟩
                    rw [w1, w2, leT w3.1, leT w3.2, leT w4.1, leT w4.2]
                    simp only [Bool.not_true, cond_false, Bool.and_self, cond_true, take_p, m1, m2, gn_c, gb_c, gs_c, gl_c, tk_s, tk_0, List.drop_succ_cons, List.drop_zero, List.headD_cons, List.getD_cons_zero, List.getD_cons_succ, bind_s, e3, e4, lenI_map, e2, e1]
                    rw [leT (by omega), leT (by rw [ml]; omega), e5]
                    simp only [Bool.and_self, cond_true, Bool.true_and]
                    cases decide (s.out = (mrg a b).take (s.lp.toNat + s.rp.toNat)) <;> cases decide (s.out = mrg (a.take s.lp.toNat) (b.take s.rp.toNat)) <;> simp
                  · rw [w1, (Bool.not_eq_true _).mp w2]; simp
                · rw [(Bool.not_eq_true _).mp w1]; simp
          · rw [eqF p2, cond_false, if_neg p2]
            by_cases w1 : s.runs.length ≤ 1
            · rw [ltF (by omega), cond_false]
              by_cases w2 : s.rp = 0
              · rw [eqT w2, Bool.not_true, cond_false, decide_eq_true w2]
                by_cases w3 : s.out.length = 0
                · rw [ltF (by omega), cond_false, nil_len s.out, decide_eq_true w3]
                  cases bagEq s.runs.flatten s.inp
                  · rfl
                  · simp only [Bool.not_true, cond_false, Bool.true_and, Bool.and_true]
                    by_cases p3 : s.ph = 3
                    · rw [eqT p3, cond_true, if_pos p3]
                      by_cases w4 : s.runs.length = 1
                      · rw [eqT (by omega), cond_true, decide_eq_true w4]
                        simp only [l1In_ok, win_len (show s.inp.length ≤ 1073741824 by omega), gn_c, gb_c, gs_c, gl_c, tk_s, tk_0, List.drop_succ_cons, List.drop_zero, List.headD_cons, List.getD_cons_zero, List.getD_cons_succ, bind_s, Bool.true_and]
                      · rw [eqF (by omega), decide_eq_false w4]; rfl
                    · rw [eqF p3, cond_false, if_neg p3]
                      by_cases p4 : s.ph = 4
                      · rw [eqT p4, cond_true, if_pos p4, decide_eq_true w1]
                        unfold eqI
                        simp
                      · rw [eqF p4, if_neg p4]; rfl
                · rw [ltT (by omega), nil_len s.out, decide_eq_false w3]
                  simp
              · rw [eqF w2, decide_eq_false w2]
                simp
            · rw [ltT (by omega), decide_eq_false w1, decide_eq_false (show ¬ s.runs.length = 1 by omega)]
              simp
        · rw [ltT (by omega), nil_len s.dfd, decide_eq_false q3]; simp
      · rw [ltT (by omega), nil_len s.heap, decide_eq_false q2]; simp
    · rw [eqF q1, decide_eq_false q1]; rfl
theorem sValidSo (s : So) (h : s.B2) : callI tE f_spec_IsValidSorter [.sl (s.inp.map Rw.e), .int s.pos, .sl (s.heap.map Rw.e), .sl (s.dfd.map Rw.e), .sl (s.out.map Rw.e), .sl (s.runs.map rsE), .int s.lp, .int s.rp, .int s.ph, .int s.wr] = some [.bool (soOk s)] := by
  obtain ⟨h1, h2, h3, h4, h5⟩ := h.b.p
  rw [c_spec_IsValidSorter]
  simp only [sAreValid s.inp (by omega), l1In_ok, lenI_map, sValidRuns s.runs h5, sIsSorted s.out (by omega), gn_c, gb_c, gs_c, gl_c, tk_s, tk_0, List.drop_succ_cons, List.drop_zero, List.headD_cons, List.getD_cons_zero, List.getD_cons_succ, bind_s]
  unfold soOk
  cases aok s.inp
  · rfl
  · by_cases hp : win s.pos 0 s.inp.length = true
    · rw [hp]
      cases s.runs.all runOk
      · rfl
      · by_cases hw : 0 ≤ s.wr
        · rw [ltF hw, decide_eq_true hw]
          cases isS s.out
          · rfl
          · have hlast : leI 0 (w64 ((s.out.length : Int) - 1)) = decide (0 < s.out.length) := by
              rw [w64_id ⟨by omega, by omega⟩]; unfold leI; congr 1; apply propext; omega
            have := all_loop (l := s.heap) (L := fun i => L_spec_IsValidSorter_0 0 (w64 ((s.out.length : Int) - 1)) i (s.inp.map Rw.e) s.pos (s.heap.map Rw.e) (s.dfd.map Rw.e) (s.out.map Rw.e) (s.runs.map rsE) s.lp s.rp s.ph s.wr) (p := fun r => !belowB r s.out) (no := some [.bool false]) (yes := some [.bool (soTail s)]) (by omega) (fun u a v e => by
              have hu : u.length < s.heap.length := by rw [e]; simp
              have ha : at' (s.heap.map Rw.e) u.length = a.e := at_i e rfl
              rw [L_spec_IsValidSorter_0_eq, lenI_map, ltT (by omega), cond_true, hlast]
              rcases snoc_or s.out with ho | ⟨q, x, ho⟩
              · rw [ho, belowB_nil]; rfl
              · have hx : at' (s.out.map Rw.e) q.length = x.e := at_i (u := q) (v := []) (by rw [ho]) rfl
                have hql : s.out.length = q.length + 1 := by rw [ho]; simp
                have hl2 : w64 ((s.out.length : Int) - 1) = (q.length : Int) := by rw [w64_id ⟨by omega, by omega⟩]; omega
                rw [decide_eq_true (by omega : 0 < s.out.length), cond_true, hl2, inRT (by omega) (by omega), in_i (by omega)]
                simp only [cond_true, tn_c, ha, hx, gk, gv, gw, sCompare, gn_c, gb_c, gs_c, gl_c, tk_s, tk_0, List.drop_succ_cons, List.drop_zero, List.headD_cons, List.getD_cons_zero, List.getD_cons_succ, bind_s, lt_cmp0]
                rw [show belowB a s.out = decide (Rw.lt a x) by rw [ho, belowB_snoc]]
                cases decide (Rw.lt a x) <;> rfl) (sTail s h hp 0)
            refine this.trans ?_
            cases s.heap.all fun r => !belowB r s.out <;> rfl
        · rw [ltT (by omega), decide_eq_false hw]; rfl
    · rw [(Bool.not_eq_true _).mp hp]; rfl
def Ck.B2 (c : Ck) : Prop := c.sz ≤ 1073741800
end Go.Proofs.YtbmafhpbinjgaaaGreat.Vai
namespace Go.Proofs.YtbmafhpbinjgaaaGreat.Vai
open Go
set_option linter.unusedSimpArgs false
set_option linter.unusedVariables false
set_option linter.unnecessarySimpa false
set_option maxRecDepth 100000
theorem c_laws_szTask (a0 : Int) (a1 : List (List Dat)) (a2 : List (List Dat)) (a3 : List (List Dat)) (a4 : Int) (a5 : Int) : callI tE f_laws_szTask [.int a0, .sl a1, .sl a2, .sl a3, .int a4, .int a5] = (((callI tE f_laws_szRowS [(.sl a1), (.int a5)])).bind (fun r0 => (bif (ltI (gn r0) 0) then (some [(.int (-1))]) else (((callI tE f_laws_szRowS [(.sl a2), (.int (gn r0))])).bind (fun r1 => (bif (ltI (gn r1) 0) then (some [(.int (-1))]) else (((callI tE f_laws_szBoolS [(.sl a3), (.int (gn r1))])).bind (fun r2 => (bif (ltI (gn r2) 0) then (some [(.int (-1))]) else (some [(.int (gn r2))])))))))))) := (callI_run rfl (by kernel_rfl)).trans (by kernel_rfl)
noncomputable def L_laws_szTaskS_0 (x0 : List (List Dat)) (x1 : Int) (x2 : Int) : Option (List Dat) := loopK tE f_laws_szTaskS 0 ⟨[(0, (.ro 184 Bool.false x0)), (1, (.i .i64 x1)), (5, (.i .i64 x2))], []⟩
theorem L_laws_szTaskS_0_eq (x0 : List (List Dat)) (x1 : Int) (x2 : Int) : L_laws_szTaskS_0 x0 x1 x2 = (bif (ltI x2 (lenI x0)) then (bif (inR x2 (lenI x0)) then (((callI tE f_laws_szTask [(.int (gn (at' x0 (tn x2)))), (.sl (gl (tk 1 (at' x0 (tn x2))))), (.sl (gl (tk 2 (at' x0 (tn x2))))), (.sl (gl (tk 3 (at' x0 (tn x2))))), (.int (gn (tk 4 (at' x0 (tn x2))))), (.int x1)])).bind (fun r0 => (bif (ltI (gn r0) 0) then (some [(.int (-1))]) else (L_laws_szTaskS_0 x0 (gn r0) (w64 (x2 + 1)))))) else none) else (some [(.int x1)])) := (loopK_run (by kernel_rfl)).trans (by kernel_rfl)
theorem c_laws_szTaskS (a0 : List (List Dat)) (a1 : Int) : callI tE f_laws_szTaskS [.sl a0, .int a1] = (bif (ltI (w64 (a1 - (lenI a0))) 0) then (some [(.int (-1))]) else (L_laws_szTaskS_0 a0 (w64 (a1 - (lenI a0))) 0)) := (callI_run rfl (by kernel_rfl)).trans (by kernel_rfl)
theorem c_laws_szJoiner (a0 : List (List Dat)) (a1 : Int) (a2 : Int) (a3 : Int) : callI tE f_laws_szJoiner [.sl a0, .int a1, .int a2, .int a3] = (((callI tE f_laws_szTaskS [(.sl a0), (.int a3)])).bind (fun r0 => (bif (ltI (gn r0) 0) then (some [(.int (-1))]) else (some [(.int (gn r0))])))) := (callI_run rfl (by kernel_rfl)).trans (by kernel_rfl)
theorem c_laws_szGroupTask (a0 : List (List Dat)) (a1 : Int) (a2 : Int) : callI tE f_laws_szGroupTask [.sl a0, .int a1, .int a2] = (((callI tE f_laws_szRowS [(.sl a0), (.int a2)])).bind (fun r0 => (bif (ltI (gn r0) 0) then (some [(.int (-1))]) else (some [(.int (gn r0))])))) := (callI_run rfl (by kernel_rfl)).trans (by kernel_rfl)
noncomputable def L_laws_szGroupTaskS_0 (x0 : List (List Dat)) (x1 : Int) (x2 : Int) : Option (List Dat) := loopK tE f_laws_szGroupTaskS 0 ⟨[(0, (.ro 187 Bool.false x0)), (1, (.i .i64 x1)), (5, (.i .i64 x2))], []⟩
theorem L_laws_szGroupTaskS_0_eq (x0 : List (List Dat)) (x1 : Int) (x2 : Int) : L_laws_szGroupTaskS_0 x0 x1 x2 = (bif (ltI x2 (lenI x0)) then (bif (inR x2 (lenI x0)) then (((callI tE f_laws_szGroupTask [(.sl (gl (at' x0 (tn x2)))), (.int (gn (tk 1 (at' x0 (tn x2))))), (.int x1)])).bind (fun r0 => (bif (ltI (gn r0) 0) then (some [(.int (-1))]) else (L_laws_szGroupTaskS_0 x0 (gn r0) (w64 (x2 + 1)))))) else none) else (some [(.int x1)])) := (loopK_run (by kernel_rfl)).trans (by kernel_rfl)
theorem c_laws_szGroupTaskS (a0 : List (List Dat)) (a1 : Int) : callI tE f_laws_szGroupTaskS [.sl a0, .int a1] = (bif (ltI (w64 (a1 - (lenI a0))) 0) then (some [(.int (-1))]) else (L_laws_szGroupTaskS_0 a0 (w64 (a1 - (lenI a0))) 0)) := (callI_run rfl (by kernel_rfl)).trans (by kernel_rfl)
theorem c_laws_szAggregator (a0 : List (List Dat)) (a1 : Int) (a2 : Bool) (a3 : Int) : callI tE f_laws_szAggregator [.sl a0, .int a1, .bool a2, .int a3] = (((callI tE f_laws_szGroupTaskS [(.sl a0), (.int a3)])).bind (fun r0 => (bif (ltI (gn r0) 0) then (some [(.int (-1))]) else (some [(.int (gn r0))])))) := (callI_run rfl (by kernel_rfl)).trans (by kernel_rfl)
theorem c_laws_szOp (a0 : Int) (a1 : List (List Dat)) (a2 : Int) (a3 : List (List Dat)) (a4 : List (List Dat)) (a5 : List (List Dat)) (a6 : List (List Dat)) (a7 : Int) (a8 : Int) (a9 : Int) (a10 : Int) (a11 : List (List Dat)) (a12 : Int) (a13 : Int) (a14 : List (List Dat)) (a15 : Int) (a16 : Bool) (a17 : Int) : callI tE f_laws_szOp [.int a0, .sl a1, .int a2, .sl a3, .sl a4, .sl a5, .sl a6, .int a7, .int a8, .int a9, .int a10, .sl a11, .int a12, .int a13, .sl a14, .int a15, .bool a16, .int a17] = (((callI tE f_laws_szSorter [(.sl a1), (.int a2), (.sl a3), (.sl a4), (.sl a5), (.sl a6), (.int a7), (.int a8), (.int a9), (.int a10), (.int a17)])).bind (fun r0 => (bif (ltI (gn r0) 0) then (some [(.int (-1))]) else (((callI tE f_laws_szJoiner [(.sl a11), (.int a12), (.int a13), (.int (gn r0))])).bind (fun r1 => (bif (ltI (gn r1) 0) then (some [(.int (-1))]) else (((callI tE f_laws_szAggregator [(.sl a14), (.int a15), (.bool a16), (.int (gn r1))])).bind (fun r2 => (bif (ltI (gn r2) 0) then (some [(.int (-1))]) else (some [(.int (gn r2))])))))))))) := (callI_run rfl (by kernel_rfl)).trans (by kernel_rfl)
theorem c_spec_IsValidJoinKind (a0 : Int) : callI tE f_spec_IsValidJoinKind [.int a0] = (((callI tE f_spec_l1In [(.int a0), (.int 1), (.int 4)])).bind (fun r0 => (some [(.bool (gb r0))]))) := (callI_run rfl (by kernel_rfl)).trans (by kernel_rfl)
theorem c_spec_IsValidTask (a0 : Int) (a1 : List (List Dat)) (a2 : List (List Dat)) (a3 : List (List Dat)) (a4 : Int) : callI tE f_spec_IsValidTask [.int a0, .sl a1, .sl a2, .sl a3, .int a4] = (((callI tE f_spec_IsValidJoinKind [(.int a0)])).bind (fun r0 => (bif (gb r0) then (((callI tE f_spec_AreValidRows [(.sl a1)])).bind (fun r1 => (bif (gb r1) then (((callI tE f_spec_AreValidRows [(.sl a2)])).bind (fun r2 => (bif (gb r2) then (bif (eqI (lenI a3) (lenI a1)) then (((callI tE f_spec_l1In [(.int a4), (.int 0), (.int 4)])).bind (fun r3 => (some [(.bool (gb r3))]))) else (some [(.bool Bool.false)])) else (some [(.bool Bool.false)])))) else (some [(.bool Bool.false)])))) else (some [(.bool Bool.false)])))) := (callI_run rfl (by kernel_rfl)).trans (by kernel_rfl)
noncomputable def L_spec_IsValidJoiner_0 (x0 : Int) (x1 : Int) (x2 : Int) (x3 : Int) (x4 : List (List Dat)) (x5 : Int) (x6 : Int) : Option (List Dat) := loopK tE f_spec_IsValidJoiner 0 ⟨[(1, (.ptr (500000, 0) x0 0)), (3, (.i .i64 x1)), (4, (.i .i64 x2)), (5, (.i .i64 x3))], [((500000, 0), (.box 42 [(.ro 132 Bool.false x4), (.i .i64 x5), (.i .i64 x6)]))]⟩
theorem L_spec_IsValidJoiner_0_eq (x0 : Int) (x1 : Int) (x2 : Int) (x3 : Int) (x4 : List (List Dat)) (x5 : Int) (x6 : Int) : L_spec_IsValidJoiner_0 x0 x1 x2 x3 x4 x5 x6 = (bif (ltI x3 (lenI x4)) then (bif (inR x3 (lenI x4)) then (((callI tE f_spec_IsValidTask [(.int (gn (at' x4 (tn x3)))), (.sl (gl (tk 1 (at' x4 (tn x3))))), (.sl (gl (tk 2 (at' x4 (tn x3))))), (.sl (gl (tk 3 (at' x4 (tn x3))))), (.int (gn (tk 4 (at' x4 (tn x3)))))])).bind (fun r0 => (bif (!(gb r0)) then (some [(.bool Bool.false)]) else (bif (inR x3 (lenI x4)) then (bif (inR 0 (lenI x4)) then (bif (!(eqI (gn (at' x4 (tn x3))) (gn (at' x4 (tn 0))))) then (some [(.bool Bool.false)]) else (bif (inR x3 (lenI x4)) then (bif (inR x3 (lenI x4)) then (L_spec_IsValidJoiner_0 x0 (w64 (x1 + (lenI (gl (List.drop 1 (at' x4 (tn x3))))))) (w64 (x2 + (lenI (gl (List.drop 2 (at' x4 (tn x3))))))) (w64 (x3 + 1)) x4 x5 x6) else none) else none)) else none) else none)))) else none) else (bif (leI x1 24) then (bif (leI x2 24) then (bif (leI (lenI x4) 40) then (((callI tE f_spec_l1In [(.int x5), (.int 0), (.int 100000)])).bind (fun r0 => (bif (gb r0) then (((callI tE f_spec_l1In [(.int x6), (.int 0), (.int 1000)])).bind (fun r1 => (some [(.bool (gb r1))]))) else (some [(.bool Bool.false)])))) else (some [(.bool Bool.false)])) else (some [(.bool Bool.false)])) else (some [(.bool Bool.false)]))) := (loopK_run (by kernel_rfl)).trans (by kernel_rfl)
theorem c_spec_IsValidJoiner (a0 : List (List Dat)) (a1 : Int) (a2 : Int) : callI tE f_spec_IsValidJoiner [.sl a0, .int a1, .int a2] = (L_spec_IsValidJoiner_0 0 0 0 0 a0 a1 a2) := (callI_run rfl (by kernel_rfl)).trans (by kernel_rfl)
noncomputable def L_spec_FormatTask_0 (x0 : Int) (x1 : ByteArray) (x2 : Int) (x3 : Int) (x4 : List (List Dat)) (x5 : List (List Dat)) (x6 : List (List Dat)) (x7 : Int) : Option (List Dat) := loopK tE f_spec_FormatTask 0 ⟨[(1, (.ptr (500000, 0) x0 0)), (3, (.s x1)), (4, (.i .i64 x2))], [((500000, 0), (.box 132 [(.i .i64 x3), (.ro 111 Bool.false x4), (.ro 111 Bool.false x5), (.ro 4 Bool.false x6), (.i .i64 x7)]))]⟩
theorem L_spec_FormatTask_0_eq (x0 : Int) (x1 : ByteArray) (x2 : Int) (x3 : Int) (x4 : List (List Dat)) (x5 : List (List Dat)) (x6 : List (List Dat)) (x7 : Int) : L_spec_FormatTask_0 x0 x1 x2 x3 x4 x5 x6 x7 = (bif (ltI x2 (lenI x6)) then (bif (inR x2 (lenI x6)) then (bif (gb (at' x6 (tn x2))) then (bif (fitS x1 (S [49])) then (L_spec_FormatTask_0 x0 (x1 ++ (S [49])) (w64 (x2 + 1)) x3 x4 x5 x6 x7) else none) else (bif (fitS x1 (S [48])) then (L_spec_FormatTask_0 x0 (x1 ++ (S [48])) (w64 (x2 + 1)) x3 x4 x5 x6 x7) else none)) else none) else (((callI tE f_spec_FormatInt [(.int x3)])).bind (fun r0 => (bif (fitS (gs r0) (S [59])) then (((callI tE f_spec_FormatRows [(.sl x4)])).bind (fun r1 => (bif (fitS ((gs r0) ++ (S [59])) (gs r1)) then (bif (fitS (((gs r0) ++ (S [59])) ++ (gs r1)) (S [59])) then (((callI tE f_spec_FormatRows [(.sl x5)])).bind (fun r2 => (bif (fitS ((((gs r0) ++ (S [59])) ++ (gs r1)) ++ (S [59])) (gs r2)) then (bif (fitS (((((gs r0) ++ (S [59])) ++ (gs r1)) ++ (S [59])) ++ (gs r2)) (S [59])) then (bif (fitS ((((((gs r0) ++ (S [59])) ++ (gs r1)) ++ (S [59])) ++ (gs r2)) ++ (S [59])) x1) then (bif (fitS (((((((gs r0) ++ (S [59])) ++ (gs r1)) ++ (S [59])) ++ (gs r2)) ++ (S [59])) ++ x1) (S [59])) then (((callI tE f_spec_FormatInt [(.int x7)])).bind (fun r3 => (bif (fitS ((((((((gs r0) ++ (S [59])) ++ (gs r1)) ++ (S [59])) ++ (gs r2)) ++ (S [59])) ++ x1) ++ (S [59])) (gs r3)) then (some [(.str (((((((((gs r0) ++ (S [59])) ++ (gs r1)) ++ (S [59])) ++ (gs r2)) ++ (S [59])) ++ x1) ++ (S [59])) ++ (gs r3)))]) else none))) else none) else none) else none) else none))) else none) else none))) else none)))) := (loopK_run (by kernel_rfl)).trans (by kernel_rfl)
theorem c_spec_FormatTask (a0 : Int) (a1 : List (List Dat)) (a2 : List (List Dat)) (a3 : List (List Dat)) (a4 : Int) : callI tE f_spec_FormatTask [.int a0, .sl a1, .sl a2, .sl a3, .int a4] = (((callI tE f_spec_IsValidTask [(.int a0), (.sl a1), (.sl a2), (.sl a3), (.int a4)])).bind (fun r0 => (bif (!(gb r0)) then (some [(.str (S []))]) else (L_spec_FormatTask_0 0 (S []) 0 a0 a1 a2 a3 a4)))) := (callI_run rfl (by kernel_rfl)).trans (by kernel_rfl)
noncomputable def L_spec_FormatJoiner_0 (x0 : Int) (x1 : ByteArray) (x2 : Int) (x3 : List (List Dat)) (x4 : Int) (x5 : Int) : Option (List Dat) := loopK tE f_spec_FormatJoiner 0 ⟨[(1, (.ptr (500000, 0) x0 0)), (3, (.s x1)), (4, (.i .i64 x2))], [((500000, 0), (.box 42 [(.ro 132 Bool.false x3), (.i .i64 x4), (.i .i64 x5)]))]⟩
theorem L_spec_FormatJoiner_0_eq (x0 : Int) (x1 : ByteArray) (x2 : Int) (x3 : List (List Dat)) (x4 : Int) (x5 : Int) : L_spec_FormatJoiner_0 x0 x1 x2 x3 x4 x5 = (bif (ltI x2 (lenI x3)) then (bif (fitS x1 (S [47])) then (bif (inR x2 (lenI x3)) then (((callI tE f_spec_FormatTask [(.int (gn (at' x3 (tn x2)))), (.sl (gl (tk 1 (at' x3 (tn x2))))), (.sl (gl (tk 2 (at' x3 (tn x2))))), (.sl (gl (tk 3 (at' x3 (tn x2))))), (.int (gn (tk 4 (at' x3 (tn x2)))))])).bind (fun r0 => (bif (fitS (x1 ++ (S [47])) (gs r0)) then (L_spec_FormatJoiner_0 x0 ((x1 ++ (S [47])) ++ (gs r0)) (w64 (x2 + 1)) x3 x4 x5) else none))) else none) else none) else (some [(.str x1)])) := (loopK_run (by kernel_rfl)).trans (by kernel_rfl)
theorem c_spec_FormatJoiner (a0 : List (List Dat)) (a1 : Int) (a2 : Int) : callI tE f_spec_FormatJoiner [.sl a0, .int a1, .int a2] = (((callI tE f_spec_IsValidJoiner [(.sl a0), (.int a1), (.int a2)])).bind (fun r0 => (bif (!(gb r0)) then (some [(.str (S []))]) else (((callI tE f_spec_FormatInt [(.int a1)])).bind (fun r1 => (bif (fitS (gs r1) (S [47])) then (((callI tE f_spec_FormatInt [(.int a2)])).bind (fun r2 => (bif (fitS ((gs r1) ++ (S [47])) (gs r2)) then (L_spec_FormatJoiner_0 0 (((gs r1) ++ (S [47])) ++ (gs r2)) 0 a0 a1 a2) else none))) else none)))))) := (callI_run rfl (by kernel_rfl)).trans (by kernel_rfl)
noncomputable def L_spec_IsValidAggregator_0 (x0 : Int) (x1 : Int) (x2 : Int) (x3 : List (List Dat)) (x4 : Int) (x5 : Bool) : Option (List Dat) := loopK tE f_spec_IsValidAggregator 0 ⟨[(1, (.ptr (500000, 0) x0 0)), (3, (.i .i64 x1)), (4, (.i .i64 x2))], [((500000, 0), (.box 45 [(.ro 135 Bool.false x3), (.i .i64 x4), (.b x5)]))]⟩
theorem L_spec_IsValidAggregator_0_eq (x0 : Int) (x1 : Int) (x2 : Int) (x3 : List (List Dat)) (x4 : Int) (x5 : Bool) : L_spec_IsValidAggregator_0 x0 x1 x2 x3 x4 x5 = (bif (ltI x2 (lenI x3)) then (bif (inR x2 (lenI x3)) then (((callI tE f_spec_AreValidRows [(.sl (gl (at' x3 (tn x2))))])).bind (fun r0 => (bif (!(gb r0)) then (some [(.bool Bool.false)]) else (bif (inR x2 (lenI x3)) then (((callI tE f_spec_l1In [(.int (gn (List.drop 1 (at' x3 (tn x2))))), (.int 0), (.int 4)])).bind (fun r1 => (bif (!(gb r1)) then (some [(.bool Bool.false)]) else (bif (inR x2 (lenI x3)) then (L_spec_IsValidAggregator_0 x0 (w64 (x1 + (lenI (gl (at' x3 (tn x2)))))) (w64 (x2 + 1)) x3 x4 x5) else none)))) else none)))) else none) else (bif (leI x1 24) then (bif (leI (lenI x3) 40) then (((callI tE f_spec_l1In [(.int x4), (.int 0), (.int 100000)])).bind (fun r0 => (some [(.bool (gb r0))]))) else (some [(.bool Bool.false)])) else (some [(.bool Bool.false)]))) := (loopK_run (by kernel_rfl)).trans (by kernel_rfl)
theorem c_spec_IsValidAggregator (a0 : List (List Dat)) (a1 : Int) (a2 : Bool) : callI tE f_spec_IsValidAggregator [.sl a0, .int a1, .bool a2] = (L_spec_IsValidAggregator_0 0 0 0 a0 a1 a2) := (callI_run rfl (by kernel_rfl)).trans (by kernel_rfl)
noncomputable def L_spec_FormatAggregator_0 (x0 : Int) (x1 : ByteArray) (x2 : Int) (x3 : List (List Dat)) (x4 : Int) (x5 : Bool) : Option (List Dat) := loopK tE f_spec_FormatAggregator 0 ⟨[(1, (.ptr (500000, 0) x0 0)), (3, (.s x1)), (4, (.i .i64 x2))], [((500000, 0), (.box 45 [(.ro 135 Bool.false x3), (.i .i64 x4), (.b x5)]))]⟩
theorem L_spec_FormatAggregator_0_eq (x0 : Int) (x1 : ByteArray) (x2 : Int) (x3 : List (List Dat)) (x4 : Int) (x5 : Bool) : L_spec_FormatAggregator_0 x0 x1 x2 x3 x4 x5 = (bif (ltI x2 (lenI x3)) then (bif (fitS x1 (S [47])) then (bif (inR x2 (lenI x3)) then (((callI tE f_spec_FormatInt [(.int (gn (List.drop 1 (at' x3 (tn x2)))))])).bind (fun r0 => (bif (fitS (x1 ++ (S [47])) (gs r0)) then (bif (fitS ((x1 ++ (S [47])) ++ (gs r0)) (S [59])) then (bif (inR x2 (lenI x3)) then (((callI tE f_spec_FormatRows [(.sl (gl (at' x3 (tn x2))))])).bind (fun r1 => (bif (fitS (((x1 ++ (S [47])) ++ (gs r0)) ++ (S [59])) (gs r1)) then (L_spec_FormatAggregator_0 x0 ((((x1 ++ (S [47])) ++ (gs r0)) ++ (S [59])) ++ (gs r1)) (w64 (x2 + 1)) x3 x4 x5) else none))) else none) else none) else none))) else none) else none) else (some [(.str x1)])) := (loopK_run (by kernel_rfl)).trans (by kernel_rfl)
theorem c_spec_FormatAggregator (a0 : List (List Dat)) (a1 : Int) (a2 : Bool) : callI tE f_spec_FormatAggregator [.sl a0, .int a1, .bool a2] = (((callI tE f_spec_IsValidAggregator [(.sl a0), (.int a1), (.bool a2)])).bind (fun r0 => (bif (!(gb r0)) then (some [(.str (S []))]) else (((callI tE f_spec_FormatInt [(.int a1)])).bind (fun r1 => (bif (fitS (gs r1) (S [47, 48])) then (bif a2 then (((callI tE f_spec_FormatInt [(.int a1)])).bind (fun r2 => (bif (fitS (gs r2) (S [47, 49])) then (L_spec_FormatAggregator_0 0 ((gs r2) ++ (S [47, 49])) 0 a0 a1 a2) else none))) else (L_spec_FormatAggregator_0 0 ((gs r1) ++ (S [47, 48])) 0 a0 a1 a2)) else none)))))) := (callI_run rfl (by kernel_rfl)).trans (by kernel_rfl)
theorem c_spec_FormatOp (a0 : Int) (a1 : List (List Dat)) (a2 : Int) (a3 : List (List Dat)) (a4 : List (List Dat)) (a5 : List (List Dat)) (a6 : List (List Dat)) (a7 : Int) (a8 : Int) (a9 : Int) (a10 : Int) (a11 : List (List Dat)) (a12 : Int) (a13 : Int) (a14 : List (List Dat)) (a15 : Int) (a16 : Bool) : callI tE f_spec_FormatOp [.int a0, .sl a1, .int a2, .sl a3, .sl a4, .sl a5, .sl a6, .int a7, .int a8, .int a9, .int a10, .sl a11, .int a12, .int a13, .sl a14, .int a15, .bool a16] = (bif (eqI a0 1) then (((callI tE f_spec_FormatSorter [(.sl a1), (.int a2), (.sl a3), (.sl a4), (.sl a5), (.sl a6), (.int a7), (.int a8), (.int a9), (.int a10)])).bind (fun r0 => (bif (eqS (gs r0) (S [])) then (some [(.str (S []))]) else (bif (fitS (S [115]) (gs r0)) then (some [(.str ((S [115]) ++ (gs r0)))]) else none)))) else (bif (eqI a0 2) then (((callI tE f_spec_FormatJoiner [(.sl a11), (.int a12), (.int a13)])).bind (fun r0 => (bif (eqS (gs r0) (S [])) then (some [(.str (S []))]) else (bif (fitS (S [106]) (gs r0)) then (some [(.str ((S [106]) ++ (gs r0)))]) else none)))) else (bif (eqI a0 3) then (((callI tE f_spec_FormatAggregator [(.sl a14), (.int a15), (.bool a16)])).bind (fun r0 => (bif (eqS (gs r0) (S [])) then (some [(.str (S []))]) else (bif (fitS (S [103]) (gs r0)) then (some [(.str ((S [103]) ++ (gs r0)))]) else none)))) else (bif (eqS (S []) (S [])) then (some [(.str (S []))]) else (some [(.str ((S []) ++ (S [])))]))))) := (callI_run rfl (by kernel_rfl)).trans (by kernel_rfl)
theorem c_laws_toTask (a0 : Int) (a1 : List (List Dat)) (a2 : List (List Dat)) (a3 : List (List Dat)) (a4 : Int) : callI tE f_laws_toTask [.int a0, .sl a1, .sl a2, .sl a3, .int a4] = (((callI tE f_laws_toRowS [(.sl a1)])).bind (fun r0 => (((callI tE f_laws_toRowS [(.sl a2)])).bind (fun r1 => (((callI tE f_laws_toBoolS [(.sl a3)])).bind (fun r2 => (some [(.int a0), (.sl (gl r0)), (.sl (gl r1)), (.sl (gl r2)), (.int a4)]))))))) := (callI_run rfl (by kernel_rfl)).trans (by kernel_rfl)
noncomputable def L_laws_toTaskS_0 (x0 : List (List Dat)) (x1 : Int) (x2 : List (List Dat)) : Option (List Dat) := loopK tE f_laws_toTaskS 0 ⟨[(0, (.ro 184 Bool.false x0)), (3, (.own (500000, 0))), (4, (.i .i64 x1))], [((500000, 0), (.row 132 x2 Bool.true 0 []))]⟩
theorem L_laws_toTaskS_0_eq (x0 : List (List Dat)) (x1 : Int) (x2 : List (List Dat)) : L_laws_toTaskS_0 x0 x1 x2 = (bif (ltI x1 (lenI x0)) then (bif (inR x1 (lenI x0)) then (((callI tE f_laws_toTask [(.int (gn (at' x0 (tn x1)))), (.sl (gl (tk 1 (at' x0 (tn x1))))), (.sl (gl (tk 2 (at' x0 (tn x1))))), (.sl (gl (tk 3 (at' x0 (tn x1))))), (.int (gn (tk 4 (at' x0 (tn x1)))))])).bind (fun r0 => (bif (inR x1 (lenI x2)) then (L_laws_toTaskS_0 x0 (w64 (x1 + 1)) (updR x2 (tn x1) 0 [(.int (gn r0)), (.sl (gl (tk 1 r0))), (.sl (gl (tk 2 r0))), (.sl (gl (tk 3 r0))), (.int (gn (tk 4 r0)))])) else none))) else none) else (some [(.sl x2)])) := (loopK_run (by kernel_rfl)).trans (by kernel_rfl)
theorem c_laws_toTaskS (a0 : List (List Dat)) : callI tE f_laws_toTaskS [.sl a0] = (bif ((leI 0 (lenI a0)) && ((eqI (lenI a0) (lenI a0)) && (fitM (tn (lenI a0)) 88))) then (L_laws_toTaskS_0 a0 0 (List.replicate (tn (lenI a0)) [(.int 0), (.sl []), (.sl []), (.sl []), (.int 0)])) else none) := (callI_run rfl (by kernel_rfl)).trans (by kernel_rfl)
theorem c_laws_toJoiner (a0 : List (List Dat)) (a1 : Int) (a2 : Int) : callI tE f_laws_toJoiner [.sl a0, .int a1, .int a2] = (((callI tE f_laws_toTaskS [(.sl a0)])).bind (fun r0 => (some [(.sl (gl r0)), (.int a1), (.int a2)]))) := (callI_run rfl (by kernel_rfl)).trans (by kernel_rfl)
theorem c_laws_toGroupTask (a0 : List (List Dat)) (a1 : Int) : callI tE f_laws_toGroupTask [.sl a0, .int a1] = (((callI tE f_laws_toRowS [(.sl a0)])).bind (fun r0 => (some [(.sl (gl r0)), (.int a1)]))) := (callI_run rfl (by kernel_rfl)).trans (by kernel_rfl)
noncomputable def L_laws_toGroupTaskS_0 (x0 : List (List Dat)) (x1 : Int) (x2 : List (List Dat)) : Option (List Dat) := loopK tE f_laws_toGroupTaskS 0 ⟨[(0, (.ro 187 Bool.false x0)), (3, (.own (500000, 0))), (4, (.i .i64 x1))], [((500000, 0), (.row 135 x2 Bool.true 0 []))]⟩
theorem L_laws_toGroupTaskS_0_eq (x0 : List (List Dat)) (x1 : Int) (x2 : List (List Dat)) : L_laws_toGroupTaskS_0 x0 x1 x2 = (bif (ltI x1 (lenI x0)) then (bif (inR x1 (lenI x0)) then (((callI tE f_laws_toGroupTask [(.sl (gl (at' x0 (tn x1)))), (.int (gn (tk 1 (at' x0 (tn x1)))))])).bind (fun r0 => (bif (inR x1 (lenI x2)) then (L_laws_toGroupTaskS_0 x0 (w64 (x1 + 1)) (updR x2 (tn x1) 0 [(.sl (gl r0)), (.int (gn (tk 1 r0)))])) else none))) else none) else (some [(.sl x2)])) := (loopK_run (by kernel_rfl)).trans (by kernel_rfl)
theorem c_laws_toGroupTaskS (a0 : List (List Dat)) : callI tE f_laws_toGroupTaskS [.sl a0] = (bif ((leI 0 (lenI a0)) && ((eqI (lenI a0) (lenI a0)) && (fitM (tn (lenI a0)) 32))) then (L_laws_toGroupTaskS_0 a0 0 (List.replicate (tn (lenI a0)) [(.sl []), (.int 0)])) else none) := (callI_run rfl (by kernel_rfl)).trans (by kernel_rfl)
theorem c_laws_toAggregator (a0 : List (List Dat)) (a1 : Int) (a2 : Bool) : callI tE f_laws_toAggregator [.sl a0, .int a1, .bool a2] = (((callI tE f_laws_toGroupTaskS [(.sl a0)])).bind (fun r0 => (some [(.sl (gl r0)), (.int a1), (.bool a2)]))) := (callI_run rfl (by kernel_rfl)).trans (by kernel_rfl)
theorem c_laws_toOp (a0 : Int) (a1 : List (List Dat)) (a2 : Int) (a3 : List (List Dat)) (a4 : List (List Dat)) (a5 : List (List Dat)) (a6 : List (List Dat)) (a7 : Int) (a8 : Int) (a9 : Int) (a10 : Int) (a11 : List (List Dat)) (a12 : Int) (a13 : Int) (a14 : List (List Dat)) (a15 : Int) (a16 : Bool) : callI tE f_laws_toOp [.int a0, .sl a1, .int a2, .sl a3, .sl a4, .sl a5, .sl a6, .int a7, .int a8, .int a9, .int a10, .sl a11, .int a12, .int a13, .sl a14, .int a15, .bool a16] = (((callI tE f_laws_toSorter [(.sl a1), (.int a2), (.sl a3), (.sl a4), (.sl a5), (.sl a6), (.int a7), (.int a8), (.int a9), (.int a10)])).bind (fun r0 => (((callI tE f_laws_toJoiner [(.sl a11), (.int a12), (.int a13)])).bind (fun r1 => (((callI tE f_laws_toAggregator [(.sl a14), (.int a15), (.bool a16)])).bind (fun r2 => (some [(.int a0), (.sl (gl r0)), (.int (gn (tk 1 r0))), (.sl (gl (tk 2 r0))), (.sl (gl (tk 3 r0))), (.sl (gl (tk 4 r0))), (.sl (gl (tk 5 r0))), (.int (gn (tk 6 r0))), (.int (gn (tk 7 r0))), (.int (gn (tk 8 r0))), (.int (gn (tk 9 r0))), (.sl (gl r1)), (.int (gn (tk 1 r1))), (.int (gn (tk 2 r1))), (.sl (gl r2)), (.int (gn (tk 1 r2))), (.bool (gb (tk 2 r2)))]))))))) := (callI_run rfl (by kernel_rfl)).trans (by kernel_rfl)
theorem c_impl_IsValidJoinKind (a0 : Int) : callI tE f_impl_IsValidJoinKind [.int a0] = (((callI tE f_impl_within [(.int a0), (.int 1), (.int 4)])).bind (fun r0 => (some [(.bool (gb r0))]))) := (callI_run rfl (by kernel_rfl)).trans (by kernel_rfl)
theorem c_impl_IsValidTask (a0 : Int) (a1 : List (List Dat)) (a2 : List (List Dat)) (a3 : List (List Dat)) (a4 : Int) : callI tE f_impl_IsValidTask [.int a0, .sl a1, .sl a2, .sl a3, .int a4] = (((callI tE f_impl_IsValidJoinKind [(.int a0)])).bind (fun r0 => (bif (gb r0) then (((callI tE f_impl_AreValidRows [(.sl a1)])).bind (fun r1 => (bif (gb r1) then (((callI tE f_impl_AreValidRows [(.sl a2)])).bind (fun r2 => (bif (gb r2) then (bif (eqI (lenI a3) (lenI a1)) then (((callI tE f_impl_within [(.int a4), (.int 0), (.int 4)])).bind (fun r3 => (some [(.bool (gb r3))]))) else (some [(.bool Bool.false)])) else (some [(.bool Bool.false)])))) else (some [(.bool Bool.false)])))) else (some [(.bool Bool.false)])))) := (callI_run rfl (by kernel_rfl)).trans (by kernel_rfl)
noncomputable def L_impl_IsValidJoiner_0 (x0 : Int) (x1 : Int) (x2 : Int) (x3 : List (List Dat)) (x4 : Int) (x5 : Int) (x6 : List (List Dat)) (x7 : Int) (x8 : Int) : Option (List Dat) := loopK tE f_impl_IsValidJoiner 0 ⟨[(1, (.ptr (500000, 0) x0 0)), (3, (.i .i64 x1)), (4, (.i .i64 x2)), (24, (.ro 132 Bool.false x3)), (25, (.i .i64 x4)), (26, (.i .i64 x5))], [((500000, 0), (.box 42 [(.ro 132 Bool.false x6), (.i .i64 x7), (.i .i64 x8)]))]⟩
theorem L_impl_IsValidJoiner_0_eq (x0 : Int) (x1 : Int) (x2 : Int) (x3 : List (List Dat)) (x4 : Int) (x5 : Int) (x6 : List (List Dat)) (x7 : Int) (x8 : Int) : L_impl_IsValidJoiner_0 x0 x1 x2 x3 x4 x5 x6 x7 x8 = (bif (ltI x5 x4) then (bif (inR x5 (lenI x3)) then (((callI tE f_impl_IsValidTask [(.int (gn (at' x3 (tn x5)))), (.sl (gl (tk 1 (at' x3 (tn x5))))), (.sl (gl (tk 2 (at' x3 (tn x5))))), (.sl (gl (tk 3 (at' x3 (tn x5))))), (.int (gn (tk 4 (at' x3 (tn x5)))))])).bind (fun r0 => (bif (!(gb r0)) then (some [(.bool Bool.false)]) else (bif (inR 0 (lenI x6)) then (bif (!(eqI (gn (at' x3 (tn x5))) (gn (at' x6 (tn 0))))) then (some [(.bool Bool.false)]) else (L_impl_IsValidJoiner_0 x0 (w64 (x1 + (lenI (gl (tk 1 (at' x3 (tn x5))))))) (w64 (x2 + (lenI (gl (tk 2 (at' x3 (tn x5))))))) x3 x4 (w64 (x5 + 1)) x6 x7 x8)) else none)))) else none) else (bif (leI x1 24) then (some [(.bool (leI x2 24))]) else (some [(.bool Bool.false)]))) := (loopK_run (by kernel_rfl)).trans (by kernel_rfl)
theorem c_impl_IsValidJoiner (a0 : List (List Dat)) (a1 : Int) (a2 : Int) : callI tE f_impl_IsValidJoiner [.sl a0, .int a1, .int a2] = (bif (ltI 40 (lenI a0)) then (some [(.bool Bool.false)]) else (((callI tE f_impl_within [(.int a1), (.int 0), (.int 100000)])).bind (fun r0 => (bif (!(gb r0)) then (some [(.bool Bool.false)]) else (((callI tE f_impl_within [(.int a2), (.int 0), (.int 1000)])).bind (fun r1 => (bif (!(gb r1)) then (some [(.bool Bool.false)]) else (L_impl_IsValidJoiner_0 0 0 0 a0 (lenI a0) 0 a0 a1 a2)))))))) := (callI_run rfl (by kernel_rfl)).trans (by kernel_rfl)
noncomputable def L_impl_FormatTask_0 (x0 : Int) (x1 : ByteArray) (x2 : List (List Dat)) (x3 : Int) (x4 : Int) (x5 : Int) (x6 : List (List Dat)) (x7 : List (List Dat)) (x8 : List (List Dat)) (x9 : Int) : Option (List Dat) := loopK tE f_impl_FormatTask 0 ⟨[(1, (.ptr (500000, 0) x0 0)), (3, (.s x1)), (10, (.ro 4 Bool.false x2)), (11, (.i .i64 x3)), (12, (.i .i64 x4))], [((500000, 0), (.box 132 [(.i .i64 x5), (.ro 111 Bool.false x6), (.ro 111 Bool.false x7), (.ro 4 Bool.false x8), (.i .i64 x9)]))]⟩
theorem L_impl_FormatTask_0_eq (x0 : Int) (x1 : ByteArray) (x2 : List (List Dat)) (x3 : Int) (x4 : Int) (x5 : Int) (x6 : List (List Dat)) (x7 : List (List Dat)) (x8 : List (List Dat)) (x9 : Int) : L_impl_FormatTask_0 x0 x1 x2 x3 x4 x5 x6 x7 x8 x9 = (bif (ltI x4 x3) then (bif (inR x4 (lenI x2)) then (bif (gb (at' x2 (tn x4))) then (bif (fitS x1 (S [49])) then (L_impl_FormatTask_0 x0 (x1 ++ (S [49])) x2 x3 (w64 (x4 + 1)) x5 x6 x7 x8 x9) else none) else (bif (fitS x1 (S [48])) then (L_impl_FormatTask_0 x0 (x1 ++ (S [48])) x2 x3 (w64 (x4 + 1)) x5 x6 x7 x8 x9) else none)) else none) else (((callI tE f_impl_FormatInt [(.int x5)])).bind (fun r0 => (((callI tE f_impl_FormatRows [(.sl x6)])).bind (fun r1 => (((callI tE f_impl_FormatRows [(.sl x7)])).bind (fun r2 => (((callI tE f_impl_FormatInt [(.int x9)])).bind (fun r3 => (((callI tE f_impl_joined [(.sl [[(.str (gs r0))], [(.str (gs r1))], [(.str (gs r2))], [(.str x1)], [(.str (gs r3))]]), (.str (S [59]))])).bind (fun r4 => (some [(.str (gs r4))])))))))))))) := (loopK_run (by kernel_rfl)).trans (by kernel_rfl)
theorem c_impl_FormatTask (a0 : Int) (a1 : List (List Dat)) (a2 : List (List Dat)) (a3 : List (List Dat)) (a4 : Int) : callI tE f_impl_FormatTask [.int a0, .sl a1, .sl a2, .sl a3, .int a4] = (((callI tE f_impl_IsValidTask [(.int a0), (.sl a1), (.sl a2), (.sl a3), (.int a4)])).bind (fun r0 => (bif (!(gb r0)) then (some [(.str (S []))]) else (L_impl_FormatTask_0 0 (S []) a3 (lenI a3) 0 a0 a1 a2 a3 a4)))) := (callI_run rfl (by kernel_rfl)).trans (by kernel_rfl)
noncomputable def L_impl_FormatJoiner_0 (x0 : List (List Dat)) (x1 : Int) (x2 : Int) (x3 : List (List Dat)) : Option (List Dat) := loopK tE f_impl_FormatJoiner 0 ⟨[(3, (.own (500000, 0))), (17, (.ro 132 Bool.false x0)), (18, (.i .i64 x1)), (19, (.i .i64 x2))], [((500000, 0), (.row 9 x3 Bool.true 0 []))]⟩
theorem L_impl_FormatJoiner_0_eq (x0 : List (List Dat)) (x1 : Int) (x2 : Int) (x3 : List (List Dat)) : L_impl_FormatJoiner_0 x0 x1 x2 x3 = (bif (ltI x2 x1) then (bif (inR x2 (lenI x0)) then (((callI tE f_impl_FormatTask [(.int (gn (at' x0 (tn x2)))), (.sl (gl (tk 1 (at' x0 (tn x2))))), (.sl (gl (tk 2 (at' x0 (tn x2))))), (.sl (gl (tk 3 (at' x0 (tn x2))))), (.int (gn (tk 4 (at' x0 (tn x2)))))])).bind (fun r0 => (bif (fitM (Nat.succ (len x3)) 16) then (L_impl_FormatJoiner_0 x0 x1 (w64 (x2 + 1)) (List.append x3 [[(.str (gs r0))]])) else none))) else none) else (((callI tE f_impl_joined [(.sl x3), (.str (S [47]))])).bind (fun r0 => (some [(.str (gs r0))])))) := (loopK_run (by kernel_rfl)).trans (by kernel_rfl)
theorem c_impl_FormatJoiner (a0 : List (List Dat)) (a1 : Int) (a2 : Int) : callI tE f_impl_FormatJoiner [.sl a0, .int a1, .int a2] = (((callI tE f_impl_IsValidJoiner [(.sl a0), (.int a1), (.int a2)])).bind (fun r0 => (bif (!(gb r0)) then (some [(.str (S []))]) else (((callI tE f_impl_FormatInt [(.int a1)])).bind (fun r1 => (((callI tE f_impl_FormatInt [(.int a2)])).bind (fun r2 => (L_impl_FormatJoiner_0 a0 (lenI a0) 0 [[(.str (gs r1))], [(.str (gs r2))]])))))))) := (callI_run rfl (by kernel_rfl)).trans (by kernel_rfl)
noncomputable def L_impl_IsValidAggregator_0 (x0 : Int) (x1 : Int) (x2 : List (List Dat)) (x3 : Int) (x4 : Int) (x5 : List (List Dat)) (x6 : Int) (x7 : Bool) : Option (List Dat) := loopK tE f_impl_IsValidAggregator 0 ⟨[(1, (.ptr (500000, 0) x0 0)), (3, (.i .i64 x1)), (7, (.ro 135 Bool.false x2)), (8, (.i .i64 x3)), (9, (.i .i64 x4))], [((500000, 0), (.box 45 [(.ro 135 Bool.false x5), (.i .i64 x6), (.b x7)]))]⟩
theorem L_impl_IsValidAggregator_0_eq (x0 : Int) (x1 : Int) (x2 : List (List Dat)) (x3 : Int) (x4 : Int) (x5 : List (List Dat)) (x6 : Int) (x7 : Bool) : L_impl_IsValidAggregator_0 x0 x1 x2 x3 x4 x5 x6 x7 = (bif (ltI x4 x3) then (bif (inR x4 (lenI x2)) then (((callI tE f_impl_AreValidRows [(.sl (gl (at' x2 (tn x4))))])).bind (fun r0 => (bif (!(gb r0)) then (some [(.bool Bool.false)]) else (((callI tE f_impl_within [(.int (gn (tk 1 (at' x2 (tn x4))))), (.int 0), (.int 4)])).bind (fun r1 => (bif (!(gb r1)) then (some [(.bool Bool.false)]) else (L_impl_IsValidAggregator_0 x0 (w64 (x1 + (lenI (gl (at' x2 (tn x4)))))) x2 x3 (w64 (x4 + 1)) x5 x6 x7))))))) else none) else (bif (leI (lenI x5) 40) then (bif (leI x1 24) then (((callI tE f_impl_within [(.int x6), (.int 0), (.int 100000)])).bind (fun r0 => (some [(.bool (gb r0))]))) else (some [(.bool Bool.false)])) else (some [(.bool Bool.false)]))) := (loopK_run (by kernel_rfl)).trans (by kernel_rfl)
theorem c_impl_IsValidAggregator (a0 : List (List Dat)) (a1 : Int) (a2 : Bool) : callI tE f_impl_IsValidAggregator [.sl a0, .int a1, .bool a2] = (L_impl_IsValidAggregator_0 0 0 a0 (lenI a0) 0 a0 a1 a2) := (callI_run rfl (by kernel_rfl)).trans (by kernel_rfl)
noncomputable def L_impl_FormatAggregator_0 (x0 : ByteArray) (x1 : List (List Dat)) (x2 : Int) (x3 : Int) : Option (List Dat) := loopK tE f_impl_FormatAggregator 0 ⟨[(4, (.s x0)), (19, (.ro 135 Bool.false x1)), (20, (.i .i64 x2)), (21, (.i .i64 x3))], []⟩
theorem L_impl_FormatAggregator_0_eq (x0 : ByteArray) (x1 : List (List Dat)) (x2 : Int) (x3 : Int) : L_impl_FormatAggregator_0 x0 x1 x2 x3 = (bif (ltI x3 x2) then (bif (inR x3 (lenI x1)) then (((callI tE f_impl_FormatInt [(.int (gn (tk 1 (at' x1 (tn x3)))))])).bind (fun r0 => (bif (fitS (S [47]) (gs r0)) then (bif (fitS ((S [47]) ++ (gs r0)) (S [59])) then (((callI tE f_impl_FormatRows [(.sl (gl (at' x1 (tn x3))))])).bind (fun r1 => (bif (fitS (((S [47]) ++ (gs r0)) ++ (S [59])) (gs r1)) then (bif (fitS x0 ((((S [47]) ++ (gs r0)) ++ (S [59])) ++ (gs r1))) then (L_impl_FormatAggregator_0 (x0 ++ ((((S [47]) ++ (gs r0)) ++ (S [59])) ++ (gs r1))) x1 x2 (w64 (x3 + 1))) else none) else none))) else none) else none))) else none) else (some [(.str x0)])) := (loopK_run (by kernel_rfl)).trans (by kernel_rfl)
theorem c_impl_FormatAggregator (a0 : List (List Dat)) (a1 : Int) (a2 : Bool) : callI tE f_impl_FormatAggregator [.sl a0, .int a1, .bool a2] = (((callI tE f_impl_IsValidAggregator [(.sl a0), (.int a1), (.bool a2)])).bind (fun r0 => (bif (!(gb r0)) then (some [(.str (S []))]) else (bif a2 then (((callI tE f_impl_FormatInt [(.int a1)])).bind (fun r1 => (bif (fitS (gs r1) (S [47])) then (bif (fitS ((gs r1) ++ (S [47])) (S [49])) then (L_impl_FormatAggregator_0 (((gs r1) ++ (S [47])) ++ (S [49])) a0 (lenI a0) 0) else none) else none))) else (((callI tE f_impl_FormatInt [(.int a1)])).bind (fun r1 => (bif (fitS (gs r1) (S [47])) then (bif (fitS ((gs r1) ++ (S [47])) (S [48])) then (L_impl_FormatAggregator_0 (((gs r1) ++ (S [47])) ++ (S [48])) a0 (lenI a0) 0) else none) else none))))))) := (callI_run rfl (by kernel_rfl)).trans (by kernel_rfl)
theorem c_impl_FormatOp (a0 : Int) (a1 : List (List Dat)) (a2 : Int) (a3 : List (List Dat)) (a4 : List (List Dat)) (a5 : List (List Dat)) (a6 : List (List Dat)) (a7 : Int) (a8 : Int) (a9 : Int) (a10 : Int) (a11 : List (List Dat)) (a12 : Int) (a13 : Int) (a14 : List (List Dat)) (a15 : Int) (a16 : Bool) : callI tE f_impl_FormatOp [.int a0, .sl a1, .int a2, .sl a3, .sl a4, .sl a5, .sl a6, .int a7, .int a8, .int a9, .int a10, .sl a11, .int a12, .int a13, .sl a14, .int a15, .bool a16] = (bif (eqI a0 1) then (((callI tE f_impl_FormatSorter [(.sl a1), (.int a2), (.sl a3), (.sl a4), (.sl a5), (.sl a6), (.int a7), (.int a8), (.int a9), (.int a10)])).bind (fun r0 => (bif (eqS (gs r0) (S [])) then (some [(.str (S []))]) else (bif (fitS (S [115]) (gs r0)) then (some [(.str ((S [115]) ++ (gs r0)))]) else none)))) else (bif (eqI a0 2) then (((callI tE f_impl_FormatJoiner [(.sl a11), (.int a12), (.int a13)])).bind (fun r0 => (bif (eqS (gs r0) (S [])) then (some [(.str (S []))]) else (bif (fitS (S [106]) (gs r0)) then (some [(.str ((S [106]) ++ (gs r0)))]) else none)))) else (bif (eqI a0 3) then (((callI tE f_impl_FormatAggregator [(.sl a14), (.int a15), (.bool a16)])).bind (fun r0 => (bif (eqS (gs r0) (S [])) then (some [(.str (S []))]) else (bif (fitS (S [103]) (gs r0)) then (some [(.str ((S [103]) ++ (gs r0)))]) else none)))) else (bif (eqS (S []) (S [])) then (some [(.str (S []))]) else (some [(.str ((S []) ++ (S [])))]))))) := (callI_run rfl (by kernel_rfl)).trans (by kernel_rfl)
theorem c_laws_eqTask (a0 : Int) (a1 : List (List Dat)) (a2 : List (List Dat)) (a3 : List (List Dat)) (a4 : Int) (a5 : Int) (a6 : List (List Dat)) (a7 : List (List Dat)) (a8 : List (List Dat)) (a9 : Int) : callI tE f_laws_eqTask [.int a0, .sl a1, .sl a2, .sl a3, .int a4, .int a5, .sl a6, .sl a7, .sl a8, .int a9] = (bif (!(eqI a0 a5)) then (some [(.bool Bool.false)]) else (((callI tE f_laws_eqRowS [(.sl a1), (.sl a6)])).bind (fun r0 => (bif (!(gb r0)) then (some [(.bool Bool.false)]) else (((callI tE f_laws_eqRowS [(.sl a2), (.sl a7)])).bind (fun r1 => (bif (!(gb r1)) then (some [(.bool Bool.false)]) else (((callI tE f_laws_eqBoolS [(.sl a3), (.sl a8)])).bind (fun r2 => (bif (!(gb r2)) then (some [(.bool Bool.false)]) else (bif (!(eqI a4 a9)) then (some [(.bool Bool.false)]) else (some [(.bool Bool.true)])))))))))))) := (callI_run rfl (by kernel_rfl)).trans (by kernel_rfl)
noncomputable def L_laws_eqTaskS_0 (x0 : List (List Dat)) (x1 : List (List Dat)) (x2 : Int) : Option (List Dat) := loopK tE f_laws_eqTaskS 0 ⟨[(0, (.ro 132 Bool.false x0)), (1, (.ro 132 Bool.false x1)), (5, (.i .i64 x2))], []⟩
theorem L_laws_eqTaskS_0_eq (x0 : List (List Dat)) (x1 : List (List Dat)) (x2 : Int) : L_laws_eqTaskS_0 x0 x1 x2 = (bif (ltI x2 (lenI x0)) then (bif (inR x2 (lenI x0)) then (bif (inR x2 (lenI x1)) then (((callI tE f_laws_eqTask [(.int (gn (at' x0 (tn x2)))), (.sl (gl (tk 1 (at' x0 (tn x2))))), (.sl (gl (tk 2 (at' x0 (tn x2))))), (.sl (gl (tk 3 (at' x0 (tn x2))))), (.int (gn (tk 4 (at' x0 (tn x2))))), (.int (gn (at' x1 (tn x2)))), (.sl (gl (tk 1 (at' x1 (tn x2))))), (.sl (gl (tk 2 (at' x1 (tn x2))))), (.sl (gl (tk 3 (at' x1 (tn x2))))), (.int (gn (tk 4 (at' x1 (tn x2)))))])).bind (fun r0 => (bif (!(gb r0)) then (some [(.bool Bool.false)]) else (L_laws_eqTaskS_0 x0 x1 (w64 (x2 + 1)))))) else none) else none) else (some [(.bool Bool.true)])) := (loopK_run (by kernel_rfl)).trans (by kernel_rfl)
theorem c_laws_eqTaskS (a0 : List (List Dat)) (a1 : List (List Dat)) : callI tE f_laws_eqTaskS [.sl a0, .sl a1] = (bif (!(eqI (lenI a0) (lenI a1))) then (some [(.bool Bool.false)]) else (L_laws_eqTaskS_0 a0 a1 0)) := (callI_run rfl (by kernel_rfl)).trans (by kernel_rfl)
theorem c_laws_eqJoiner (a0 : List (List Dat)) (a1 : Int) (a2 : Int) (a3 : List (List Dat)) (a4 : Int) (a5 : Int) : callI tE f_laws_eqJoiner [.sl a0, .int a1, .int a2, .sl a3, .int a4, .int a5] = (((callI tE f_laws_eqTaskS [(.sl a0), (.sl a3)])).bind (fun r0 => (bif (!(gb r0)) then (some [(.bool Bool.false)]) else (bif (!(eqI a1 a4)) then (some [(.bool Bool.false)]) else (bif (!(eqI a2 a5)) then (some [(.bool Bool.false)]) else (some [(.bool Bool.true)])))))) := (callI_run rfl (by kernel_rfl)).trans (by kernel_rfl)
theorem c_laws_eqGroupTask (a0 : List (List Dat)) (a1 : Int) (a2 : List (List Dat)) (a3 : Int) : callI tE f_laws_eqGroupTask [.sl a0, .int a1, .sl a2, .int a3] = (((callI tE f_laws_eqRowS [(.sl a0), (.sl a2)])).bind (fun r0 => (bif (!(gb r0)) then (some [(.bool Bool.false)]) else (bif (!(eqI a1 a3)) then (some [(.bool Bool.false)]) else (some [(.bool Bool.true)]))))) := (callI_run rfl (by kernel_rfl)).trans (by kernel_rfl)
noncomputable def L_laws_eqGroupTaskS_0 (x0 : List (List Dat)) (x1 : List (List Dat)) (x2 : Int) : Option (List Dat) := loopK tE f_laws_eqGroupTaskS 0 ⟨[(0, (.ro 135 Bool.false x0)), (1, (.ro 135 Bool.false x1)), (5, (.i .i64 x2))], []⟩
theorem L_laws_eqGroupTaskS_0_eq (x0 : List (List Dat)) (x1 : List (List Dat)) (x2 : Int) : L_laws_eqGroupTaskS_0 x0 x1 x2 = (bif (ltI x2 (lenI x0)) then (bif (inR x2 (lenI x0)) then (bif (inR x2 (lenI x1)) then (((callI tE f_laws_eqGroupTask [(.sl (gl (at' x0 (tn x2)))), (.int (gn (tk 1 (at' x0 (tn x2))))), (.sl (gl (at' x1 (tn x2)))), (.int (gn (tk 1 (at' x1 (tn x2)))))])).bind (fun r0 => (bif (!(gb r0)) then (some [(.bool Bool.false)]) else (L_laws_eqGroupTaskS_0 x0 x1 (w64 (x2 + 1)))))) else none) else none) else (some [(.bool Bool.true)])) := (loopK_run (by kernel_rfl)).trans (by kernel_rfl)
theorem c_laws_eqGroupTaskS (a0 : List (List Dat)) (a1 : List (List Dat)) : callI tE f_laws_eqGroupTaskS [.sl a0, .sl a1] = (bif (!(eqI (lenI a0) (lenI a1))) then (some [(.bool Bool.false)]) else (L_laws_eqGroupTaskS_0 a0 a1 0)) := (callI_run rfl (by kernel_rfl)).trans (by kernel_rfl)
theorem c_laws_eqAggregator (a0 : List (List Dat)) (a1 : Int) (a2 : Bool) (a3 : List (List Dat)) (a4 : Int) (a5 : Bool) : callI tE f_laws_eqAggregator [.sl a0, .int a1, .bool a2, .sl a3, .int a4, .bool a5] = (((callI tE f_laws_eqGroupTaskS [(.sl a0), (.sl a3)])).bind (fun r0 => (bif (!(gb r0)) then (some [(.bool Bool.false)]) else (bif (!(eqI a1 a4)) then (some [(.bool Bool.false)]) else (bif (!(eqBo a2 a5)) then (some [(.bool Bool.false)]) else (some [(.bool Bool.true)])))))) := (callI_run rfl (by kernel_rfl)).trans (by kernel_rfl)
theorem c_laws_eqOp (a0 : Int) (a1 : List (List Dat)) (a2 : Int) (a3 : List (List Dat)) (a4 : List (List Dat)) (a5 : List (List Dat)) (a6 : List (List Dat)) (a7 : Int) (a8 : Int) (a9 : Int) (a10 : Int) (a11 : List (List Dat)) (a12 : Int) (a13 : Int) (a14 : List (List Dat)) (a15 : Int) (a16 : Bool) (a17 : Int) (a18 : List (List Dat)) (a19 : Int) (a20 : List (List Dat)) (a21 : List (List Dat)) (a22 : List (List Dat)) (a23 : List (List Dat)) (a24 : Int) (a25 : Int) (a26 : Int) (a27 : Int) (a28 : List (List Dat)) (a29 : Int) (a30 : Int) (a31 : List (List Dat)) (a32 : Int) (a33 : Bool) : callI tE f_laws_eqOp [.int a0, .sl a1, .int a2, .sl a3, .sl a4, .sl a5, .sl a6, .int a7, .int a8, .int a9, .int a10, .sl a11, .int a12, .int a13, .sl a14, .int a15, .bool a16, .int a17, .sl a18, .int a19, .sl a20, .sl a21, .sl a22, .sl a23, .int a24, .int a25, .int a26, .int a27, .sl a28, .int a29, .int a30, .sl a31, .int a32, .bool a33] = (bif (!(eqI a0 a17)) then (some [(.bool Bool.false)]) else (((callI tE f_laws_eqSorter [(.sl a1), (.int a2), (.sl a3), (.sl a4), (.sl a5), (.sl a6), (.int a7), (.int a8), (.int a9), (.int a10), (.sl a18), (.int a19), (.sl a20), (.sl a21), (.sl a22), (.sl a23), (.int a24), (.int a25), (.int a26), (.int a27)])).bind (fun r0 => (bif (!(gb r0)) then (some [(.bool Bool.false)]) else (((callI tE f_laws_eqJoiner [(.sl a11), (.int a12), (.int a13), (.sl a28), (.int a29), (.int a30)])).bind (fun r1 => (bif (!(gb r1)) then (some [(.bool Bool.false)]) else (((callI tE f_laws_eqAggregator [(.sl a14), (.int a15), (.bool a16), (.sl a31), (.int a32), (.bool a33)])).bind (fun r2 => (bif (!(gb r2)) then (some [(.bool Bool.false)]) else (some [(.bool Bool.true)]))))))))))) := (callI_run rfl (by kernel_rfl)).trans (by kernel_rfl)
end Go.Proofs.YtbmafhpbinjgaaaGreat.Vai
namespace Go.Proofs.YtbmafhpbinjgaaaGreat.Vai
open Go
set_option linter.unusedSimpArgs false
set_option linter.unusedVariables false
set_option linter.unnecessarySimpa false
theorem u64_id {n : Int} (h : 0 ≤ n ∧ n < 18446744073709551616) : IntKind.wrap .u64 n = n := by
  simp only [IntKind.wrap, IntKind.signed, IntKind.bits, Bool.false_and, Bool.false_eq_true, if_false]
  omega
theorem tdiv10 (n : Nat) : Int.tdiv (n : Int) 10 = ((n / 10 : Nat) : Int) := by rw [Int.tdiv_eq_ediv_of_nonneg (by omega)]; omega
theorem tmod10 (n : Nat) : Int.tmod (n : Int) 10 = ((n % 10 : Nat) : Int) := by rw [Int.tmod_eq_emod_of_nonneg (by omega)]; omega
theorem decimal_ok : ∀ n : Nat, n < 18446744073709551616 → callI tE f_impl_decimal [.int (n : Int)] = some [.str (S (dec n))] := by
  intro n
  refine dec_ind (P := fun n => n < 18446744073709551616 → callI tE f_impl_decimal [.int (n : Int)] = some [.str (S (dec n))]) (fun n h _ => ?_) (fun n h ih hn => ?_) n
  · rw [c_impl_decimal, ltT (by omega), cond_true, u64_id (by omega), strOf1, u8_dig (by omega) (by omega), dec_lt h]
    rfl
  · rw [c_impl_decimal, ltF (by omega), cond_false, tdiv10, tmod10, u64_id (by omega), ih (by omega)]
    simp only [bind_s, gs_c]
    rw [u64_id (by omega), strOf1, u8_dig (by omega) (by omega)]
    have hl : (dec (n / 10)).length ≤ 20 := (dec_len_iff 20 _ (by omega)).mpr (by omega)
    rw [show fitS _ _ = true from fitS_S (by simp; omega), cond_true, S_app, dec_ge h]
    rfl
theorem iFormatInt_ok {n : Int} (h : I64 n) : callI tE f_impl_FormatInt [.int n] = some [.str (S (fmt n))] := by
  obtain ⟨h1, h2⟩ := h
  rw [c_impl_FormatInt]
  by_cases hn : n < 0
  · rw [ltT hn, cond_true]
    have e1 : IntKind.wrap .u64 n = n + 18446744073709551616 := by
      simp only [IntKind.wrap, IntKind.signed, IntKind.bits, Bool.false_and, Bool.false_eq_true, if_false]
      omega
    have e2 : IntKind.wrap .u64 (0 - (n + 18446744073709551616)) = (n.natAbs : Int) := by
      simp only [IntKind.wrap, IntKind.signed, IntKind.bits, Bool.false_and, Bool.false_eq_true, if_false]
      omega
    have hl : (dec n.natAbs).length ≤ 20 := (dec_len_iff 20 _ (by omega)).mpr (by omega)
    rw [e1, e2, decimal_ok _ (by omega)]
    simp only [bind_s, gs_c]
    rw [show fitS _ _ = true from fitS_S (by simp; omega), cond_true, S_app, fmt_neg hn]
    rfl
  · rw [ltF (by omega), cond_false, u64_id (by omega), show n = (n.natAbs : Int) by omega, decimal_ok _ (by omega)]
    simp only [bind_s, gs_c]
    rw [fmt_pos (by omega)]
    rfl
end Go.Proofs.YtbmafhpbinjgaaaGreat.Vai
namespace Go.Proofs.YtbmafhpbinjgaaaGreat.Vai
open Go
set_option linter.unusedSimpArgs false
set_option linter.unusedVariables false
set_option linter.unnecessarySimpa false
set_option maxRecDepth 10000
theorem sfmt_loop (neg sgn : Bool) : ∀ (d n : Nat) (s : List UInt8), n < 10 ^ d → n ≤ 9223372036854775808 → (sgn = false → n < 9223372036854775808) → s.length + d ≤ 1000 →
    L_spec_FormatInt_0 (if sgn then -(n : Int) else (n : Int)) (S s) neg = some [.str (S (if neg then 45 :: (digs n ++ s) else digs n ++ s))]
  | d, n, s, h, hd, hp, hs => by
    rw [L_spec_FormatInt_0_eq]
    by_cases h0 : n = 0
    · subst h0
      rw [eqT (by split <;> rfl), digs_0]
      cases neg
      · rfl
      · rw [show fitS (S [45]) (S s) = true from fitS_S (by simp; omega)]
        simp only [Bool.not_true, cond_false, cond_true, S_app]
        rfl
    · have hne : eqI (if sgn then -(n : Int) else (n : Int)) 0 = false := eqF (by split <;> omega)
      cases d with
      | zero => exfalso; simp at h; omega
      | succ d =>
        have ih := sfmt_loop neg sgn d (n / 10) ([dig (n % 10)] ++ s) (by rw [Nat.pow_succ] at h; omega) (by omega) (by omega) (by simp; omega)
        have hm : n % 10 < 10 := Nat.mod_lt _ (by decide)
        have e48 : w64 (48 + ((n % 10 : Nat) : Int)) = 48 + ((n % 10 : Nat) : Int) := w64_id ⟨by omega, by omega⟩
        have hu : strOf [[.int (IntKind.wrap .u8 (48 + ((n % 10 : Nat) : Int)))]] = S [dig (n % 10)] := by
          rw [strOf1, u8_dig (by omega) (by omega), Int.toNat_natCast]
        have hf : fitS (S [dig (n % 10)]) (S s) = true := fitS_S (by simp; omega)
        have hfin : (if neg then 45 :: (digs (n / 10) ++ ([dig (n % 10)] ++ s)) else digs (n / 10) ++ ([dig (n % 10)] ++ s)) = (if neg then 45 :: (digs n ++ s) else digs n ++ s) := by
          rw [digs_s h0]; simp
        rw [hfin] at ih
        rw [hne, Bool.not_false, cond_true]
        cases sgn with
        | false =>
          simp only [Bool.false_eq_true, if_false] at ih ⊢
          have hp' := hp rfl
          rw [tmod10, tdiv10, ltF (by omega), cond_false, e48, hu, hf, cond_true, S_app, w64_id ⟨by omega, by omega⟩]
          exact ih
        | true =>
          simp only [if_true] at ih ⊢
          have t1 : Int.tmod (-(n : Int)) 10 = -((n % 10 : Nat) : Int) := by rw [Int.neg_tmod, tmod10]
          have t2 : Int.tdiv (-(n : Int)) 10 = -((n / 10 : Nat) : Int) := by rw [Int.neg_tdiv, tdiv10]
          rw [t1, t2, w64_id (n := -((n / 10 : Nat) : Int)) ⟨by omega, by omega⟩]
          by_cases hz : n % 10 = 0
          · rw [ltF (by omega), cond_false]
            have : -((n % 10 : Nat) : Int) = ((n % 10 : Nat) : Int) := by omega
            rw [this, e48, hu, hf, cond_true, S_app]
            exact ih
          · rw [ltT (by omega), cond_true, show (0 : Int) - -((n % 10 : Nat) : Int) = ((n % 10 : Nat) : Int) by omega, w64_id (n := ((n % 10 : Nat) : Int)) ⟨by omega, by omega⟩, e48, hu, hf, cond_true, S_app]
            exact ih
theorem sFormatInt_ok {n : Int} (h : I64 n) : callI tE f_spec_FormatInt [.int n] = some [.str (S (fmt n))] := by
  obtain ⟨h1, h2⟩ := h
  rw [c_spec_FormatInt]
  by_cases h0 : n = 0
  · subst h0; rfl
  · rw [eqF h0, cond_false]
    by_cases hn : n < 0
    · have := sfmt_loop true true 20 n.natAbs [] (by omega) (by omega) (by simp) (by simp)
      simp only [if_true, List.append_nil] at this
      rw [show -((n.natAbs : Nat) : Int) = n by omega] at this
      rw [ltT hn, this, fmt_neg hn, dec_pos (by omega)]
    · have := sfmt_loop false false 20 n.natAbs [] (by omega) (by omega) (by omega) (by simp)
      simp only [Bool.false_eq_true, if_false, List.append_nil] at this
      rw [show ((n.natAbs : Nat) : Int) = n by omega] at this
      rw [ltF (by omega), this, fmt_pos (by omega), dec_pos (by omega)]
theorem strs_app (l : List (List UInt8)) (x : List UInt8) : List.append (l.map StE) [[Dat.str (S x)]] = (l ++ [x]).map StE := by simp [StE]
theorem jl_snoc (b : List UInt8) (u : List (List UInt8)) (x : List UInt8) : joinL b (u ++ [x]) = if u = [] then x else joinL b u ++ b ++ x := by
  split
  · rename_i h; subst h; rfl
  · rename_i h; exact joinL_snoc b u x h
theorem iJoined (b : List UInt8) (l : List (List UInt8)) (hl : l.length < 4611686018427387904) (h : (l.map fun x => x.length + b.length).sum < 4611686018427387904) : callI tE f_impl_joined [.sl (l.map StE), .str (S b)] = some [.str (S (joinL b l))] := by
  rw [c_impl_joined]
  have := zip_loop (l := l) (L := fun s i => L_impl_joined_0 (S b) (S s) (l.map StE) (lenI (l.map StE)) i) (F := fun _ _ => some [.str (S (joinL b l))]) (I := fun s u _ => s = joinL b u) (by omega) (fun u x v s e hI => by
    refine .inl ⟨joinL b (u ++ [x]), ?_, rfl, rfl⟩
    show L_impl_joined_0 _ _ _ _ _ = L_impl_joined_0 _ _ _ _ _
    have hb : (joinL b u).length + (x.length + b.length) < 4611686018427387904 := by
      have := joinL_len b u
      rw [e] at h
      simp only [List.map_append, List.map_cons, List.sum_append, List.sum_cons] at h
      omega
    subst e
    rw [L_impl_joined_0_eq, jl_snoc, hI]
    simp only [lt_m, in_m, tn_c, at_m, cond_true, StE, gs_c]
    by_cases hu : u = []
    · subst hu
      rw [if_pos rfl, ltF (by simp), cond_false, fitS_S (by simp [joinL]; omega), S_app]
      rfl
    · have hul : 0 < u.length := List.length_pos_iff.mpr hu
      rw [if_neg hu, ltT (by omega), fitS_S (by omega), S_app, fitS_S (by rw [List.length_append]; omega), S_app]
      rfl) (fun s hs => by
    show L_impl_joined_0 _ _ _ _ _ = _
    rw [L_impl_joined_0_eq, lt_e, cond_false, hs]) [] rfl
  exact this
end Go.Proofs.YtbmafhpbinjgaaaGreat.Vai
namespace Go.Proofs.YtbmafhpbinjgaaaGreat.Vai
open Go
set_option linter.unusedSimpArgs false
set_option linter.unusedVariables false
set_option linter.unnecessarySimpa false
set_option maxRecDepth 10000
def fmtR (r : Rw) : List UInt8 := if r.ok then joinL [46] [fmt r.k, fmt r.v, fmt r.w] else []
theorem fmtR_ok {r : Rw} (h : r.ok = true) : fmtR r = joinL [46] [fmt r.k, fmt r.v, fmt r.w] := if_pos h
theorem fmtR_bad {r : Rw} (h : r.ok = false) : fmtR r = [] := if_neg (by simp [h])
theorem ok_i64 {r : Rw} (h : r.ok = true) : I64 r.k ∧ I64 r.v ∧ I64 r.w ∧ r.k.natAbs < 1000000000 ∧ r.v.natAbs < 1000000000 ∧ r.w.natAbs < 1000000000 := by
  have := Rw.ok_iff.mp h
  exact ⟨⟨by omega, by omega⟩, ⟨by omega, by omega⟩, ⟨by omega, by omega⟩, by omega, by omega, by omega⟩
theorem joinL_3 (b x y z : List UInt8) : joinL b [x, y, z] = x ++ b ++ y ++ b ++ z := by simp [joinL]
theorem fmtR_len (r : Rw) : (fmtR r).length ≤ 62 := by
  unfold fmtR
  split
  · rename_i h
    obtain ⟨h1, h2, h3, _⟩ := ok_i64 h
    have a1 := fmt_len h1
    have a2 := fmt_len h2
    have a3 := fmt_len h3
    rw [joinL_3]; simp; omega
  · simp
theorem iFormatRow (r : Rw) : callI tE f_impl_FormatRow [.int r.k, .int r.v, .int r.w] = some [.str (S (fmtR r))] := by
  simp only [c_impl_FormatRow, iValidRow, gn_c, gb_c, gs_c, gl_c, tk_s, tk_0, List.drop_succ_cons, List.drop_zero, List.headD_cons, List.getD_cons_zero, List.getD_cons_succ, bind_s]
  cases h : r.ok
  · rw [fmtR_bad h]; rfl
  · obtain ⟨h1, h2, h3, _⟩ := ok_i64 h
    have a1 := fmt_len h1
    have a2 := fmt_len h2
    have a3 := fmt_len h3
    simp only [Bool.not_true, cond_false, iFormatInt_ok h1, iFormatInt_ok h2, iFormatInt_ok h3, gn_c, gb_c, gs_c, gl_c, tk_s, tk_0, List.drop_succ_cons, List.drop_zero, List.headD_cons, List.getD_cons_zero, List.getD_cons_succ, bind_s]
    rw [fitS_S (by simp; omega), S_app, fitS_S (by simp; omega), S_app, fitS_S (by simp; omega), S_app, fitS_S (by simp; omega), S_app, fmtR_ok h, joinL_3]
    rfl
theorem sFormatRow (r : Rw) : callI tE f_spec_FormatRow [.int r.k, .int r.v, .int r.w] = some [.str (S (fmtR r))] := by
  simp only [c_spec_FormatRow, sValidRow, gn_c, gb_c, gs_c, gl_c, tk_s, tk_0, List.drop_succ_cons, List.drop_zero, List.headD_cons, List.getD_cons_zero, List.getD_cons_succ, bind_s]
  cases h : r.ok
  · rw [fmtR_bad h]; rfl
  · obtain ⟨h1, h2, h3, _⟩ := ok_i64 h
    have a1 := fmt_len h1
    have a2 := fmt_len h2
    have a3 := fmt_len h3
    simp only [Bool.not_true, cond_false, sFormatInt_ok h1, sFormatInt_ok h2, sFormatInt_ok h3, gn_c, gb_c, gs_c, gl_c, tk_s, tk_0, List.drop_succ_cons, List.drop_zero, List.headD_cons, List.getD_cons_zero, List.getD_cons_succ, bind_s]
    rw [fitS_S (by simp; omega), S_app, fitS_S (by simp; omega), S_app, fitS_S (by simp; omega), S_app, fitS_S (by simp; omega), S_app, fmtR_ok h, joinL_3]
    rfl
def txtRs (l : List Rw) : List UInt8 := joinL [32] (l.map fmtR)
def fmtRs (l : List Rw) : List UInt8 := if aok l then txtRs l else []
theorem fmtRs_ok {l : List Rw} (h : aok l = true) : fmtRs l = txtRs l := if_pos h
theorem fmtRs_bad {l : List Rw} (h : aok l = false) : fmtRs l = [] := if_neg (by simp [h])
theorem txt_sum (l : List Rw) : ((l.map fmtR).map fun x => x.length + [(32 : UInt8)].length).sum ≤ 63 * l.length := by
  induction l with
  | nil => simp
  | cons a l ih =>
    have := fmtR_len a
    simp only [List.map_cons, List.sum_cons, List.length_cons, List.length_nil] at ih ⊢
    omega
theorem txtRs_len (l : List Rw) : (txtRs l).length ≤ 63 * l.length := Nat.le_trans (joinL_len _ _) (txt_sum l)
theorem fmtRs_len (l : List Rw) : (fmtRs l).length ≤ 1512 := by
  unfold fmtRs
  split
  · rename_i h; have := aok_len h; have := txtRs_len l; omega
  · simp
theorem StE_app (u : List (List UInt8)) (r : Rw) : List.append (u.map StE) [[Dat.str (S (fmtR r))]] = (u ++ [fmtR r]).map StE := by simp [StE]
theorem sumR_lt {l : List Rw} (h : l.length < 1099511627776) : ((l.map fmtR).map fun x => x.length + [(32 : UInt8)].length).sum < 4611686018427387904 := by
  have := txt_sum l; omega
theorem iRowTexts (l : List Rw) (h : l.length < 1099511627776) : callI tE f_impl_rowTexts [.sl (l.map Rw.e)] = some [.str (S (txtRs l))] := by
  rw [c_impl_rowTexts]
  have := zip_loop (l := l) (L := fun (s : List (List UInt8)) i => L_impl_rowTexts_0 (l.map Rw.e) (lenI (l.map Rw.e)) i (s.map StE)) (F := fun _ _ => some [.str (S (txtRs l))]) (I := fun s u _ => s = u.map fmtR) (by omega) (fun u r v s e hI => by
    have hul : u.length < 1099511627776 := by rw [e] at h; simp at h; omega
    refine .inl ⟨(u ++ [r]).map fmtR, ?_, rfl, rfl⟩
    show L_impl_rowTexts_0 _ _ _ _ = L_impl_rowTexts_0 _ _ _ _
    subst e
    rw [L_impl_rowTexts_0_eq, hI]
    simp only [lt_m, in_m, tn_c, at_m, cond_true, Rw.e, gn_c, gb_c, gs_c, gl_c, tk_s, tk_0, List.drop_succ_cons, List.drop_zero, List.headD_cons, List.getD_cons_zero, List.getD_cons_succ, bind_s, iFormatRow, len_map]
    rw [show fitM (Nat.succ (u.map fmtR).length) 16 = true from fitT (by simp; omega), StE_app]
    simp) (fun s hs => by
    show L_impl_rowTexts_0 _ _ _ _ = _
    rw [L_impl_rowTexts_0_eq, lt_e, cond_false, hs, iJoined [32] (l.map fmtR) (by simp; omega) (sumR_lt h)]; rfl) [] rfl
  exact this
theorem iFormatRows (l : List Rw) : callI tE f_impl_FormatRows [.sl (l.map Rw.e)] = some [.str (S (fmtRs l))] := by
  simp only [c_impl_FormatRows, iAreValid, gn_c, gb_c, gs_c, gl_c, tk_s, tk_0, List.drop_succ_cons, List.drop_zero, List.headD_cons, List.getD_cons_zero, List.getD_cons_succ, bind_s]
  cases h : aok l
  · rw [fmtRs_bad h]; rfl
  · have := aok_len h
    rw [Bool.not_true, cond_false, iRowTexts l (by omega), fmtRs_ok h]; rfl
theorem sFormatRows (l : List Rw) (h : l.length < 1099511627776) : callI tE f_spec_FormatRows [.sl (l.map Rw.e)] = some [.str (S (fmtRs l))] := by
  rw [c_spec_FormatRows]
  cases hok : aok l
  · rw [fmtRs_bad hok, L_spec_FormatRows_0_eq, sAreValid l (by omega), hok]
    cases ltI 0 (lenI (l.map Rw.e)) <;> rfl
  · rw [fmtRs_ok hok]
    have := zip_loop (l := l) (L := fun s i => L_spec_FormatRows_0 (l.map Rw.e) (S s) i) (F := fun _ _ => some [.str (S (txtRs l))]) (I := fun s u _ => s = txtRs u) (by omega) (fun u r v s e hI => by
      refine .inl ⟨txtRs (u ++ [r]), ?_, rfl, rfl⟩
      show L_spec_FormatRows_0 _ _ _ = L_spec_FormatRows_0 _ _ _
      have hul : u.length < 1099511627776 := by rw [e] at h; simp at h; omega
      have l1 := txtRs_len u
      have l2 := fmtR_len r
      rw [L_spec_FormatRows_0_eq, sAreValid l (by omega), hok]
      subst e
      simp only [lt_m, in_m, tn_c, at_m, cond_true, Rw.e, gn_c, gb_c, gs_c, gl_c, tk_s, tk_0, List.drop_succ_cons, List.drop_zero, List.headD_cons, List.getD_cons_zero, List.getD_cons_succ, bind_s, sFormatRow, hI]
      unfold txtRs at *
      have e1 : (u ++ [r]).map fmtR = u.map fmtR ++ [fmtR r] := by simp
      rw [e1, jl_snoc]
      by_cases hu : u = []
      · subst hu
        rw [if_pos (by rfl), ltF (by simp), cond_false, fitS_S (by simp [joinL]; omega), S_app]; rfl
      · have hul : 0 < u.length := List.length_pos_iff.mpr hu
        rw [if_neg (by simpa using hu), ltT (by omega), fitS_S (by simp; omega), S_app, fitS_S (by simp; omega), S_app]; rfl) (fun s hs => by
      show L_spec_FormatRows_0 _ _ _ = _
      rw [L_spec_FormatRows_0_eq, lt_e, cond_false, hs]) [] rfl
    exact this
end Go.Proofs.YtbmafhpbinjgaaaGreat.Vai
namespace Go.Proofs.YtbmafhpbinjgaaaGreat.Vai
open Go
set_option linter.unusedSimpArgs false
set_option linter.unusedVariables false
set_option linter.unnecessarySimpa false
set_option maxRecDepth 10000
theorem joinL_le {b : UInt8} {c : Nat} : ∀ {l : List (List UInt8)}, (∀ x ∈ l, x.length ≤ c) → (l.map fun x => x.length + [b].length).sum ≤ (c + 1) * l.length
  | [], _ => by simp
  | x :: l, h => by
    have h1 := h x (by simp)
    have ih := joinL_le (b := b) (l := l) (fun y hy => h y (by simp [hy]))
    simp only [List.map_cons, List.sum_cons, List.length_cons, List.length_nil] at ih ⊢
    rw [Nat.mul_add]; omega
theorem joinL_le' {b : UInt8} {c : Nat} {l : List (List UInt8)} (h : ∀ x ∈ l, x.length ≤ c) : (joinL [b] l).length ≤ (c + 1) * l.length := Nat.le_trans (joinL_len _ _) (joinL_le h)
end Go.Proofs.YtbmafhpbinjgaaaGreat.Vai
namespace Go.Proofs.YtbmafhpbinjgaaaGreat.Vai
open Go
set_option linter.unusedSimpArgs false
set_option linter.unusedVariables false
set_option linter.unnecessarySimpa false
set_option maxRecDepth 10000
def fmtRuns (l : List (List Rw)) : List UInt8 := joinL [124] (l.map fmtRs)
theorem mapRs_le (l : List (List Rw)) : ∀ x ∈ l.map fmtRs, x.length ≤ 1512 := fun x hx => by
  obtain ⟨r, _, rfl⟩ := List.mem_map.mp hx
  exact fmtRs_len r
theorem fmtRuns_len (l : List (List Rw)) : (fmtRuns l).length ≤ 1513 * l.length := by have := joinL_le' (b := 124) (mapRs_le l); simpa [fmtRuns] using this
theorem iFormatRuns (l : List (List Rw)) (h : runSz l) : callI tE f_impl_FormatRuns [.sl (l.map rsE)] = some [.str (S (fmtRuns l))] := by
  have hl := szL_len List.length l
  unfold runSz at h
  rw [c_impl_FormatRuns]
  have hj := joinL_le (b := 124) (mapRs_le l)
  rw [List.length_map] at hj
  have := zip_loop (l := l) (L := fun (s : List (List UInt8)) i => L_impl_FormatRuns_0 (l.map rsE) (lenI (l.map rsE)) i (s.map StE)) (F := fun _ _ => some [.str (S (fmtRuns l))]) (I := fun s u _ => s = u.map fmtRs) (by omega) (fun u a v s e hI => by
    have hul : u.length < 1099511627776 := by rw [e] at hl; simp at hl; rw [e] at h; omega
    refine .inl ⟨(u ++ [a]).map fmtRs, ?_, rfl, rfl⟩
    show L_impl_FormatRuns_0 _ _ _ _ = L_impl_FormatRuns_0 _ _ _ _
    have hf : fitM (Nat.succ u.length) 16 = true := fitT (by omega)
    subst e
    rw [L_impl_FormatRuns_0_eq, hI]
    simp only [lt_m, in_m, tn_c, at_m, cond_true, rsE, gn_c, gb_c, gs_c, gl_c, tk_s, tk_0, List.drop_succ_cons, List.drop_zero, List.headD_cons, List.getD_cons_zero, List.getD_cons_succ, bind_s, iFormatRows, len_map]
    rw [List.length_map, hf, cond_true, strs_app]
    simp) (fun s hs => by
    show L_impl_FormatRuns_0 _ _ _ _ = _
    rw [L_impl_FormatRuns_0_eq, lt_e, cond_false, hs, iJoined [124] (l.map fmtRs) (by simp; omega) (by omega)]; rfl) [] rfl
  exact this
theorem sFormatRuns (l : List (List Rw)) (h : runSz l) : callI tE f_spec_FormatRuns [.sl (l.map rsE)] = some [.str (S (fmtRuns l))] := by
  have hl := szL_len List.length l
  unfold runSz at h
  rw [c_spec_FormatRuns]
  have := zip_loop (l := l) (L := fun s i => L_spec_FormatRuns_0 (l.map rsE) (S s) i) (F := fun _ _ => some [.str (S (fmtRuns l))]) (I := fun s u _ => s = fmtRuns u) (by omega) (fun u a v s e hI => by
    have hul : u.length < 1099511627776 := by rw [e] at hl; simp at hl; rw [e] at h; omega
    have ha : a.length ≤ 1073741824 := Nat.le_trans (szL_mem' (by rw [e]; simp)) h
    have l0 := fmtRuns_len u
    have l1 := fmtRs_len a
    refine .inl ⟨fmtRuns (u ++ [a]), ?_, rfl, rfl⟩
    show L_spec_FormatRuns_0 _ _ _ = L_spec_FormatRuns_0 _ _ _
    have ej : fmtRuns (u ++ [a]) = if u = [] then fmtRs a else fmtRuns u ++ [124] ++ fmtRs a := by
      unfold fmtRuns
      rw [List.map_append, List.map_cons, List.map_nil, jl_snoc]
      simp
    subst e
    rw [L_spec_FormatRuns_0_eq, hI, ej]
    simp only [lt_m, in_m, tn_c, at_m, cond_true, rsE, gn_c, gb_c, gs_c, gl_c, tk_s, tk_0, List.drop_succ_cons, List.drop_zero, List.headD_cons, List.getD_cons_zero, List.getD_cons_succ, bind_s, sFormatRows a (show a.length < 1099511627776 by omega)]
    by_cases hu : u = []
    · have e0 : fmtRuns u = [] := by rw [hu]; rfl
      rw [if_pos hu, ltF (by simp [hu]), e0, cond_false, fitS_S (by simp; omega), S_app]
      rfl
    · have hul : 0 < u.length := List.length_pos_iff.mpr hu
      rw [if_neg hu, ltT (by omega), cond_true, fitS_S (by simp; omega), S_app, cond_true, fitS_S (by simp; omega), S_app, cond_true]) (fun s hs => by
    show L_spec_FormatRuns_0 _ _ _ = _
    rw [L_spec_FormatRuns_0_eq, lt_e, cond_false, hs]) [] rfl
  exact this
theorem mrg_perm : ∀ (n : Nat) (a b : List Rw), a.length + b.length = n → (mrg a b).Perm (a ++ b)
  | _, [], b, _ => by rw [mrg_nil]; exact List.Perm.refl _
  | _, x :: a, [], _ => by rw [mrg_nil']; simp
  | 0, x :: a, y :: b, h => by simp at h
  | n + 1, x :: a, y :: b, h => by
    simp only [List.length_cons] at h
    rw [mrg_cc]
    split
    · exact (mrg_perm n a (y :: b) (by simp; omega)).cons x
    · exact ((mrg_perm n (x :: a) b (by simp; omega)).cons y).trans (List.perm_middle.symm)
theorem aok_sub {l m : List Rw} (h : aok m = true) (hl : l.length ≤ m.length) (hs : ∀ r ∈ l, r ∈ m) : aok l = true := by
  have := aok_iff.mp h
  exact aok_iff.mpr ⟨by omega, fun r hr => this.2 r (hs r hr)⟩
theorem soOk_p {s : So} (h : soOk s = true) : aok s.inp = true ∧ (0 ≤ s.pos ∧ s.pos ≤ s.inp.length) ∧ (∀ r ∈ s.runs, runOk r = true) ∧ 0 ≤ s.wr ∧ Srt s.out ∧ (∀ r ∈ s.heap, belowB r s.out = false) ∧ soTail s = true := by
  simp only [soOk, Bool.and_eq_true, win_iff, decide_eq_true_eq, List.all_eq_true, isS_iff, Bool.not_eq_true'] at h
  exact h
theorem soTail_1 {s : So} (h : soTail s = true) (p : s.ph = 1) : s.lp = 0 ∧ s.rp = 0 ∧ (s.out ≠ [] ∨ s.dfd = []) ∧ memS s ≤ 60 ∧ (s.runs.flatten ++ (s.out ++ (s.heap ++ s.dfd))).Perm (s.inp.take s.pos.toNat) := by
  unfold soTail at h
  rw [if_pos p] at h
  simp only [Bool.and_eq_true, decide_eq_true_eq, bagEq_iff] at h
  exact h
theorem soTail_n {s : So} (h : soTail s = true) (p : s.ph ≠ 1) : s.pos = s.inp.length ∧ s.heap = [] ∧ s.dfd = [] ∧ s.runs.flatten.Perm s.inp ∧ soLate s = true := by
  unfold soTail at h
  rw [if_neg p] at h
  simp only [Bool.and_eq_true, decide_eq_true_eq, bagEq_iff] at h
  exact h
theorem soLate_2 {s : So} (h : soLate s = true) (p : s.ph = 2) : ∃ a b r, s.runs = a :: b :: r ∧ (0 ≤ s.lp ∧ s.lp ≤ a.length) ∧ (0 ≤ s.rp ∧ s.rp ≤ b.length) ∧ s.out = mrg (a.take s.lp.toNat) (b.take s.rp.toNat) ∧ s.out = (mrg a b).take (s.lp.toNat + s.rp.toNat) := by
  unfold soLate at h
  rw [if_pos p] at h
  unfold mergeOk at h
  split at h
  · rename_i a b r hr
    simp only [Bool.and_eq_true, decide_eq_true_eq, win_iff] at h
    exact ⟨a, b, r, hr, h.1, h.2.1, h.2.2.1, h.2.2.2⟩
  · cases h
theorem soLate_3 {s : So} (h : soLate s = true) (p : s.ph = 3) : s.runs.length = 1 ∧ (0 ≤ s.lp ∧ s.lp < s.inp.length) ∧ s.rp = 0 ∧ s.out = [] := by
  unfold soLate at h
  rw [if_neg (by omega), if_pos p] at h
  simp only [Bool.and_eq_true, decide_eq_true_eq] at h
  exact ⟨h.1, h.2.1, h.2.2.1, h.2.2.2⟩
theorem soLate_4 {s : So} (h : soLate s = true) (p : s.ph = 4) : s.runs.length ≤ 1 ∧ s.lp = s.inp.length ∧ s.rp = 0 ∧ s.out = [] := by
  unfold soLate at h
  rw [if_neg (by omega), if_neg (by omega), if_pos p] at h
  simp only [Bool.and_eq_true, decide_eq_true_eq] at h
  exact ⟨h.1, h.2.1, h.2.2.1, h.2.2.2⟩
theorem soLate_ph {s : So} (h : soLate s = true) : s.ph = 2 ∨ s.ph = 3 ∨ s.ph = 4 := by
  unfold soLate at h
  split at h
  · exact .inl (by assumption)
  · split at h
    · exact .inr (.inl (by assumption))
    · split at h
      · exact .inr (.inr (by assumption))
      · cases h
theorem so_rows {s : So} (h : soOk s = true) : aok s.heap = true ∧ aok s.dfd = true ∧ aok s.out = true := by
  obtain ⟨h1, h2, h3, h4, h5, h6, h7⟩ := soOk_p h
  by_cases p1 : s.ph = 1
  · obtain ⟨q1, q2, q3, q4, q5⟩ := soTail_1 h7 p1
    have hlen := q5.length_eq
    simp only [List.length_append, List.length_take] at hlen
    have hm : ∀ r, r ∈ s.runs.flatten ++ (s.out ++ (s.heap ++ s.dfd)) → r ∈ s.inp := fun r hr => List.mem_of_mem_take (q5.mem_iff.mp hr)
    refine ⟨aok_sub h1 (by omega) (fun r hr => hm r ?_), aok_sub h1 (by omega) (fun r hr => hm r ?_), aok_sub h1 (by omega) (fun r hr => hm r ?_)⟩
    · exact List.mem_append_right _ (List.mem_append_right _ (List.mem_append_left _ hr))
    · exact List.mem_append_right _ (List.mem_append_right _ (List.mem_append_right _ hr))
    · exact List.mem_append_right _ (List.mem_append_left _ hr)
  · obtain ⟨q1, q2, q3, q4, q5⟩ := soTail_n h7 p1
    refine ⟨by rw [q2]; rfl, by rw [q3]; rfl, ?_⟩
    rcases soLate_ph q5 with p | p | p
    · obtain ⟨a, b, r, e1, e2, e3, e4, e5⟩ := soLate_2 q5 p
      have hp := mrg_perm _ a b rfl
      have hlen := q4.length_eq
      rw [e1] at hlen
      simp only [List.flatten_cons, List.length_append] at hlen
      have ml := mrg_length a b
      refine aok_sub h1 (by rw [e5, List.length_take]; omega) (fun x hx => ?_)
      rw [e5] at hx
      have hx2 := hp.mem_iff.mp (List.mem_of_mem_take hx)
      refine q4.mem_iff.mp ?_
      rw [e1]
      simp only [List.flatten_cons, List.mem_append] at hx2 ⊢
      rcases hx2 with hx2 | hx2
      · exact .inl hx2
      · exact .inr (.inl hx2)
    · rw [(soLate_3 q5 p).2.2.2]; rfl
    · rw [(soLate_4 q5 p).2.2.2]; rfl
def soFs (s : So) : List (List UInt8) := [fmtRs s.inp, fmt s.pos, fmtRs s.heap, fmtRs s.dfd, fmtRs s.out, fmtRuns s.runs, fmt s.lp, fmt s.rp, fmt s.ph, fmt s.wr]
def fmtSo (s : So) : List UInt8 := joinL [47] (soFs s)
def txtSo (s : So) : List UInt8 := if soOk s then fmtSo s else []
def So.nb (s : So) : Prop := I64 s.pos ∧ I64 s.lp ∧ I64 s.rp ∧ I64 s.ph ∧ I64 s.wr
theorem fmtSo_eq (s : So) : fmtSo s = fmtRs s.inp ++ [47] ++ fmt s.pos ++ [47] ++ fmtRs s.heap ++ [47] ++ fmtRs s.dfd ++ [47] ++ fmtRs s.out ++ [47] ++ fmtRuns s.runs ++ [47] ++ fmt s.lp ++ [47] ++ fmt s.rp ++ [47] ++ fmt s.ph ++ [47] ++ fmt s.wr := by
  simp [fmtSo, soFs, joinL]
theorem fmtSo_len (s : So) (hb : s.nb) (h : runSz s.runs) : (fmtSo s).length ≤ 1624571391080 := by
  obtain ⟨b1, b2, b3, b4, b5⟩ := hb
  have hl := szL_len List.length s.runs
  unfold runSz at h
  have a1 := fmt_len b1
  have a2 := fmt_len b2
  have a3 := fmt_len b3
  have a4 := fmt_len b4
  have a5 := fmt_len b5
  have l1 := fmtRs_len s.inp
  have l2 := fmtRs_len s.heap
  have l3 := fmtRs_len s.dfd
  have l4 := fmtRs_len s.out
  have l5 := fmtRuns_len s.runs
  rw [fmtSo_eq]
  simp only [List.length_append, List.length_cons, List.length_nil]
  omega
theorem iFormatSo (s : So) (h : s.B2) (hb : s.nb) : callI tE f_impl_FormatSorter [.sl (s.inp.map Rw.e), .int s.pos, .sl (s.heap.map Rw.e), .sl (s.dfd.map Rw.e), .sl (s.out.map Rw.e), .sl (s.runs.map rsE), .int s.lp, .int s.rp, .int s.ph, .int s.wr] = some [.str (S (txtSo s))] := by
  obtain ⟨h1, h2, h3, h4, h5⟩ := h.b.p
  have hl := szL_len List.length s.runs
  have h5' := h5
  unfold runSz at h5'
  obtain ⟨b1, b2, b3, b4, b5⟩ := hb
  rw [c_impl_FormatSorter, iValidSo s h]
  simp only [gn_c, gb_c, gs_c, gl_c, tk_s, tk_0, List.drop_succ_cons, List.drop_zero, List.headD_cons, List.getD_cons_zero, List.getD_cons_succ, bind_s]
  unfold txtSo
  by_cases hv : soOk s = true
  · obtain ⟨r1, r2, r3⟩ := so_rows hv
    have a1 := fmt_len b1
    have a2 := fmt_len b2
    have a3 := fmt_len b3
    have a4 := fmt_len b4
    have a5 := fmt_len b5
    have l1 := fmtRs_len s.inp
    have l2 := fmtRs_len s.heap
    have l3 := fmtRs_len s.dfd
    have l4 := fmtRs_len s.out
    have l5 := fmtRuns_len s.runs
    have t2 := iRowTexts s.heap (by omega)
    have t3 := iRowTexts s.dfd (by omega)
    have t4 := iRowTexts s.out (by omega)
    rw [← fmtRs_ok r1] at t2
    rw [← fmtRs_ok r2] at t3
    rw [← fmtRs_ok r3] at t4
    have hj := iJoined [47] (soFs s) (by simp [soFs]) (by simp [soFs]; omega)
    simp only [soFs, List.map_cons, List.map_nil, StE] at hj
    rw [hv, if_pos rfl, Bool.not_true, cond_false]
    simp only [iFormatRows, iFormatInt_ok b1, iFormatInt_ok b2, iFormatInt_ok b3, iFormatInt_ok b4, iFormatInt_ok b5, t2, t3, t4, iFormatRuns s.runs h5, gn_c, gb_c, gs_c, gl_c, tk_s, tk_0, List.drop_succ_cons, List.drop_zero, List.headD_cons, List.getD_cons_zero, List.getD_cons_succ, bind_s, hj]
    rfl
  · rw [if_neg hv, (Bool.not_eq_true _).mp hv]; rfl
theorem sFormatSo (s : So) (h : s.B2) (hb : s.nb) : callI tE f_spec_FormatSorter [.sl (s.inp.map Rw.e), .int s.pos, .sl (s.heap.map Rw.e), .sl (s.dfd.map Rw.e), .sl (s.out.map Rw.e), .sl (s.runs.map rsE), .int s.lp, .int s.rp, .int s.ph, .int s.wr] = some [.str (S (txtSo s))] := by
  obtain ⟨h1, h2, h3, h4, h5⟩ := h.b.p
  have hl := szL_len List.length s.runs
  have h5' := h5
  unfold runSz at h5'
  obtain ⟨b1, b2, b3, b4, b5⟩ := hb
  rw [c_spec_FormatSorter, sValidSo s h]
  simp only [gn_c, gb_c, gs_c, gl_c, tk_s, tk_0, List.drop_succ_cons, List.drop_zero, List.headD_cons, List.getD_cons_zero, List.getD_cons_succ, bind_s]
  unfold txtSo
  by_cases hv : soOk s = true
  · have a1 := fmt_len b1
    have a2 := fmt_len b2
    have a3 := fmt_len b3
    have a4 := fmt_len b4
    have a5 := fmt_len b5
    have l1 := fmtRs_len s.inp
    have l2 := fmtRs_len s.heap
    have l3 := fmtRs_len s.dfd
    have l4 := fmtRs_len s.out
    have l5 := fmtRuns_len s.runs
    rw [hv, if_pos rfl, Bool.not_true, cond_false, fmtSo_eq]
    simp only [sFormatRows s.inp (by omega), sFormatRows s.heap (by omega), sFormatRows s.dfd (by omega), sFormatRows s.out (by omega), sFormatInt_ok b1, sFormatInt_ok b2, sFormatInt_ok b3, sFormatInt_ok b4, sFormatInt_ok b5, sFormatRuns s.runs h5, gn_c, gb_c, gs_c, gl_c, tk_s, tk_0, List.drop_succ_cons, List.drop_zero, List.headD_cons, List.getD_cons_zero, List.getD_cons_succ, bind_s]
    rw [fitS_S (by simp; omega), S_app, cond_true, fitS_S (by simp; omega), S_app, cond_true, fitS_S (by simp; omega), S_app, cond_true, fitS_S (by simp; omega), S_app, cond_true, fitS_S (by simp; omega), S_app, cond_true, fitS_S (by simp; omega), S_app, cond_true]
    rw [fitS_S (by simp; omega), S_app, cond_true, fitS_S (by simp; omega), S_app, cond_true, fitS_S (by simp; omega), S_app, cond_true, fitS_S (by simp; omega), S_app, cond_true, fitS_S (by simp; omega), S_app, cond_true, fitS_S (by simp; omega), S_app, cond_true]
    rw [fitS_S (by simp; omega), S_app, cond_true, fitS_S (by simp; omega), S_app, cond_true, fitS_S (by simp; omega), S_app, cond_true, fitS_S (by simp; omega), S_app, cond_true, fitS_S (by simp; omega), S_app, cond_true, fitS_S (by simp; omega), S_app, cond_true]
  · rw [if_neg hv, (Bool.not_eq_true _).mp hv]; rfl
end Go.Proofs.YtbmafhpbinjgaaaGreat.Vai
namespace Go.Proofs.YtbmafhpbinjgaaaGreat.Vai
open Go
set_option linter.unusedSimpArgs false
set_option linter.unusedVariables false
set_option linter.unnecessarySimpa false
set_option maxRecDepth 10000
theorem i64_of {n : Int} (h : n.natAbs < 1000000000) : I64 n := ⟨by omega, by omega⟩
end Go.Proofs.YtbmafhpbinjgaaaGreat.Vai
namespace Go.Proofs.YtbmafhpbinjgaaaGreat.Vai
open Go
set_option linter.unusedSimpArgs false
set_option linter.unusedVariables false
set_option linter.unnecessarySimpa false
set_option maxRecDepth 10000
def tkOk (t : Tk) : Bool := win t.kind 1 4 && (aok t.left && (aok t.right && (eqI t.mat.length t.left.length && win t.level 0 4)))
theorem tkOk_p {t : Tk} (h : tkOk t = true) : (1 ≤ t.kind ∧ t.kind ≤ 4) ∧ aok t.left = true ∧ aok t.right = true ∧ t.mat.length = t.left.length ∧ 0 ≤ t.level ∧ t.level ≤ 4 := by
  simp only [tkOk, Bool.and_eq_true, win_iff, eqI, decide_eq_true_eq] at h
  obtain ⟨h1, h2, h3, h4, h5⟩ := h
  exact ⟨h1, h2, h3, by omega, h5⟩
def mkTx (l : List Bool) : List UInt8 := l.map fun b => if b then 49 else 48
theorem mkTx_len (l : List Bool) : (mkTx l).length = l.length := by simp [mkTx]
def tkFs (t : Tk) : List (List UInt8) := [fmt t.kind, fmtRs t.left, fmtRs t.right, mkTx t.mat, fmt t.level]
def fmtTk (t : Tk) : List UInt8 := joinL [59] (tkFs t)
def txtTk (t : Tk) : List UInt8 := if tkOk t then fmtTk t else []
theorem fmtTk_eq (t : Tk) : fmtTk t = fmt t.kind ++ [59] ++ fmtRs t.left ++ [59] ++ fmtRs t.right ++ [59] ++ mkTx t.mat ++ [59] ++ fmt t.level := by simp [fmtTk, tkFs, joinL]
theorem tk_small {t : Tk} (h : tkOk t = true) : t.kind.natAbs < 1000000000 ∧ t.level.natAbs < 1000000000 ∧ t.left.length ≤ 24 ∧ t.right.length ≤ 24 ∧ t.mat.length ≤ 24 := by
  obtain ⟨h1, h2, h3, h4, h5⟩ := tkOk_p h
  have := aok_len h2
  have := aok_len h3
  omega
theorem fmtTk_len {t : Tk} (h : tkOk t = true) : (fmtTk t).length ≤ 3200 := by
  obtain ⟨n1, n2, n3, n4, n5⟩ := tk_small h
  have a1 := fmt_len (i64_of n1)
  have a2 := fmt_len (i64_of n2)
  have l1 := fmtRs_len t.left
  have l2 := fmtRs_len t.right
  rw [fmtTk_eq]
  simp only [List.length_append, List.length_cons, List.length_nil, mkTx_len]
  omega
def tkZ : Tk := ⟨0, [], [], [], 0⟩
def leftSum (l : List Tk) : Nat := (l.map fun t => t.left.length).sum
def rightSum (l : List Tk) : Nat := (l.map fun t => t.right.length).sum
def jnOk (j : Jn) : Bool := decide (j.pend.length ≤ 40) && (win j.wr 0 100000 && (win j.parts 0 1000 && ((j.pend.all fun t => tkOk t && decide (t.kind = (j.pend.headD tkZ).kind)) && (decide (leftSum j.pend ≤ 24) && decide (rightSum j.pend ≤ 24)))))
theorem jnOk_p {j : Jn} (h : jnOk j = true) : j.pend.length ≤ 40 ∧ (0 ≤ j.wr ∧ j.wr ≤ 100000) ∧ (0 ≤ j.parts ∧ j.parts ≤ 1000) ∧ (∀ t ∈ j.pend, tkOk t = true ∧ t.kind = (j.pend.headD tkZ).kind) ∧ leftSum j.pend ≤ 24 ∧ rightSum j.pend ≤ 24 := by
  simp only [jnOk, Bool.and_eq_true, decide_eq_true_eq, win_iff, List.all_eq_true] at h
  exact h
def jnFs (j : Jn) : List (List UInt8) := fmt j.wr :: fmt j.parts :: j.pend.map fmtTk
def fmtJn (j : Jn) : List UInt8 := joinL [47] (jnFs j)
def txtJn (j : Jn) : List UInt8 := if jnOk j then fmtJn j else []
def rowSum (l : List Gt) : Nat := (l.map fun t => t.rows.length).sum
def agOk (a : Ag) : Bool := (a.pend.all fun t => aok t.rows && win t.level 0 4) && (decide (a.pend.length ≤ 40) && (decide (rowSum a.pend ≤ 24) && win a.wr 0 100000))
theorem agOk_p {a : Ag} (h : agOk a = true) : (∀ t ∈ a.pend, aok t.rows = true ∧ 0 ≤ t.level ∧ t.level ≤ 4) ∧ a.pend.length ≤ 40 ∧ rowSum a.pend ≤ 24 ∧ 0 ≤ a.wr ∧ a.wr ≤ 100000 := by
  simp only [agOk, Bool.and_eq_true, decide_eq_true_eq, win_iff, List.all_eq_true] at h
  exact h
def boTx (b : Bool) : List UInt8 := if b then [49] else [48]
def fmtGt (t : Gt) : List UInt8 := joinL [59] [fmt t.level, fmtRs t.rows]
theorem fmtGt_eq (t : Gt) : fmtGt t = fmt t.level ++ [59] ++ fmtRs t.rows := by simp [fmtGt, joinL]
def agFs (a : Ag) : List (List UInt8) := fmt a.wr :: boTx a.early :: a.pend.map fmtGt
def fmtAg (a : Ag) : List UInt8 := joinL [47] (agFs a)
def txtAg (a : Ag) : List UInt8 := if agOk a then fmtAg a else []
end Go.Proofs.YtbmafhpbinjgaaaGreat.Vai
namespace Go.Proofs.YtbmafhpbinjgaaaGreat.Vai
open Go
set_option linter.unusedSimpArgs false
set_option linter.unusedVariables false
set_option linter.unnecessarySimpa false
set_option maxRecDepth 10000
theorem iKind (k : Int) : callI tE f_impl_IsValidJoinKind [.int k] = some [.bool (win k 1 4)] := by
  simp only [c_impl_IsValidJoinKind, within_ok, gn_c, gb_c, gs_c, gl_c, tk_s, tk_0, List.drop_succ_cons, List.drop_zero, List.headD_cons, List.getD_cons_zero, List.getD_cons_succ, bind_s]
theorem sKind (k : Int) : callI tE f_spec_IsValidJoinKind [.int k] = some [.bool (win k 1 4)] := by
  simp only [c_spec_IsValidJoinKind, l1In_ok, gn_c, gb_c, gs_c, gl_c, tk_s, tk_0, List.drop_succ_cons, List.drop_zero, List.headD_cons, List.getD_cons_zero, List.getD_cons_succ, bind_s]
end Go.Proofs.YtbmafhpbinjgaaaGreat.Vai
namespace Go.Proofs.YtbmafhpbinjgaaaGreat.Vai
open Go
set_option linter.unusedSimpArgs false
set_option linter.unusedVariables false
set_option linter.unnecessarySimpa false
set_option maxRecDepth 10000
theorem iValidTk (t : Tk) : callI tE f_impl_IsValidTask [.int t.kind, .sl (t.left.map Rw.e), .sl (t.right.map Rw.e), .sl (t.mat.map boE), .int t.level] = some [.bool (tkOk t)] := by
  rw [c_impl_IsValidTask]
  simp only [iKind, iAreValid, within_ok, lenI_map, gn_c, gb_c, gs_c, gl_c, tk_s, tk_0, List.drop_succ_cons, List.drop_zero, List.headD_cons, List.getD_cons_zero, List.getD_cons_succ, bind_s]
  unfold tkOk
  cases win t.kind 1 4
  · rfl
  · cases aok t.left
    · rfl
    · cases aok t.right
      · rfl
      · cases eqI (t.mat.length : Nat) (t.left.length : Nat) <;> rfl
theorem sValidTk (t : Tk) (h : t.sz ≤ 1073741824) : callI tE f_spec_IsValidTask [.int t.kind, .sl (t.left.map Rw.e), .sl (t.right.map Rw.e), .sl (t.mat.map boE), .int t.level] = some [.bool (tkOk t)] := by
  unfold Tk.sz at h
  rw [c_spec_IsValidTask]
  simp only [sKind, sAreValid t.left (by omega), sAreValid t.right (by omega), l1In_ok, lenI_map, gn_c, gb_c, gs_c, gl_c, tk_s, tk_0, List.drop_succ_cons, List.drop_zero, List.headD_cons, List.getD_cons_zero, List.getD_cons_succ, bind_s]
  unfold tkOk
  cases win t.kind 1 4
  · rfl
  · cases aok t.left
    · rfl
    · cases aok t.right
      · rfl
      · cases eqI (t.mat.length : Nat) (t.left.length : Nat) <;> rfl
theorem mkTx_app (u : List Bool) (a : Bool) : mkTx (u ++ [a]) = mkTx u ++ [if a then 49 else 48] := by simp [mkTx]
theorem iFormatTk (t : Tk) : callI tE f_impl_FormatTask [.int t.kind, .sl (t.left.map Rw.e), .sl (t.right.map Rw.e), .sl (t.mat.map boE), .int t.level] = some [.str (S (txtTk t))] := by
  rw [c_impl_FormatTask, iValidTk]
  simp only [gn_c, gb_c, gs_c, gl_c, tk_s, tk_0, List.drop_succ_cons, List.drop_zero, List.headD_cons, List.getD_cons_zero, List.getD_cons_succ, bind_s]
  unfold txtTk
  by_cases hv : tkOk t = true
  · rw [hv, if_pos rfl, Bool.not_true, cond_false]
    obtain ⟨n1, n2, l1, l2, l3⟩ := tk_small hv
    have b1 := fmtRs_len t.left
    have b2 := fmtRs_len t.right
    have a1 := fmt_len (i64_of n1)
    have a2 := fmt_len (i64_of n2)
    refine zip_loop (l := t.mat) (L := fun (s : List UInt8) i => L_impl_FormatTask_0 0 (S s) (t.mat.map boE) (lenI (t.mat.map boE)) i t.kind (t.left.map Rw.e) (t.right.map Rw.e) (t.mat.map boE) t.level) (F := fun _ _ => some [.str (S (fmtTk t))]) (I := fun s u _ => s = mkTx u) (by omega) (fun u a v s e hI => ?_) (fun s hs => ?_) [] rfl
    · refine .inl ⟨mkTx (u ++ [a]), ?_, rfl, rfl⟩
      show L_impl_FormatTask_0 _ _ _ _ _ _ _ _ _ _ = L_impl_FormatTask_0 _ _ _ _ _ _ _ _ _ _
      have hul : u.length < t.mat.length := by rw [e]; simp
      have hat : at' (t.mat.map boE) u.length = boE a := at_i e rfl
      have hlen := mkTx_len u
      subst hI
      rw [L_impl_FormatTask_0_eq, lenI_map, ltT (by omega), cond_true, inRT (by omega) (by omega), cond_true, mkTx_app]
      simp only [tn_c, hat, boE, gb_c]
      rw [fitS_S (by simp; omega), fitS_S (by simp; omega), S_app, S_app]
      cases a <;> rfl
    · show L_impl_FormatTask_0 _ _ _ _ _ _ _ _ _ _ = _
      subst hs
      rw [L_impl_FormatTask_0_eq, lenI_map, ltF (Int.le_refl _), cond_false]
      have hj := iJoined [59] (tkFs t) (by simp [tkFs]) (by simp [tkFs, mkTx_len]; omega)
      rw [show (tkFs t).map StE = [[.str (S (fmt t.kind))], [.str (S (fmtRs t.left))], [.str (S (fmtRs t.right))], [.str (S (mkTx t.mat))], [.str (S (fmt t.level))]] from rfl] at hj
      simp only [iFormatInt_ok (i64_of n1), iFormatInt_ok (i64_of n2), iFormatRows, gn_c, gb_c, gs_c, gl_c, tk_s, tk_0, List.drop_succ_cons, List.drop_zero, List.headD_cons, List.getD_cons_zero, List.getD_cons_succ, bind_s, hj]
      rfl
  · rw [if_neg hv, (Bool.not_eq_true _).mp hv]; rfl
theorem sFormatTk (t : Tk) (h : t.sz ≤ 1073741824) : callI tE f_spec_FormatTask [.int t.kind, .sl (t.left.map Rw.e), .sl (t.right.map Rw.e), .sl (t.mat.map boE), .int t.level] = some [.str (S (txtTk t))] := by
  rw [c_spec_FormatTask, sValidTk t h]
  simp only [gn_c, gb_c, gs_c, gl_c, tk_s, tk_0, List.drop_succ_cons, List.drop_zero, List.headD_cons, List.getD_cons_zero, List.getD_cons_succ, bind_s]
  unfold txtTk
  by_cases hv : tkOk t = true
  · rw [hv, if_pos rfl, Bool.not_true, cond_false]
    obtain ⟨n1, n2, l1, l2, l3⟩ := tk_small hv
    have b1 := fmtRs_len t.left
    have b2 := fmtRs_len t.right
    have a1 := fmt_len (i64_of n1)
    have a2 := fmt_len (i64_of n2)
    refine zip_loop (l := t.mat) (L := fun (s : List UInt8) i => L_spec_FormatTask_0 0 (S s) i t.kind (t.left.map Rw.e) (t.right.map Rw.e) (t.mat.map boE) t.level) (F := fun _ _ => some [.str (S (fmtTk t))]) (I := fun s u _ => s = mkTx u) (by omega) (fun u a v s e hI => ?_) (fun s hs => ?_) [] rfl
    · refine .inl ⟨mkTx (u ++ [a]), ?_, rfl, rfl⟩
      show L_spec_FormatTask_0 _ _ _ _ _ _ _ _ = L_spec_FormatTask_0 _ _ _ _ _ _ _ _
      have hul : u.length < t.mat.length := by rw [e]; simp
      have hat : at' (t.mat.map boE) u.length = boE a := at_i e rfl
      have hlen := mkTx_len u
      subst hI
      rw [L_spec_FormatTask_0_eq, lenI_map, ltT (by omega), cond_true, inRT (by omega) (by omega), cond_true, mkTx_app]
      simp only [tn_c, hat, boE, gb_c]
      rw [fitS_S (by simp; omega), fitS_S (by simp; omega), S_app, S_app]
      cases a <;> rfl
    · show L_spec_FormatTask_0 _ _ _ _ _ _ _ _ = _
      subst hs
      have hlen := mkTx_len t.mat
      rw [L_spec_FormatTask_0_eq, lenI_map, ltF (Int.le_refl _), cond_false]
      simp only [sFormatInt_ok (i64_of n1), sFormatInt_ok (i64_of n2), sFormatRows t.left (show t.left.length < 1099511627776 by omega), sFormatRows t.right (show t.right.length < 1099511627776 by omega), gn_c, gb_c, gs_c, gl_c, tk_s, tk_0, List.drop_succ_cons, List.drop_zero, List.headD_cons, List.getD_cons_zero, List.getD_cons_succ, bind_s, S_app]
      iterate 8 rw [fitS_S (by simp only [List.length_append, List.length_cons, List.length_nil]; omega), cond_true]
      rw [fmtTk_eq]
  · rw [if_neg hv, (Bool.not_eq_true _).mp hv]; rfl
end Go.Proofs.YtbmafhpbinjgaaaGreat.Vai
namespace Go.Proofs.YtbmafhpbinjgaaaGreat.Vai
open Go
set_option linter.unusedSimpArgs false
set_option linter.unusedVariables false
set_option linter.unnecessarySimpa false
set_option maxRecDepth 10000
theorem leftSum_app (u v : List Tk) : leftSum (u ++ v) = leftSum u + leftSum v := by simp [leftSum]
theorem rightSum_app (u v : List Tk) : rightSum (u ++ v) = rightSum u + rightSum v := by simp [rightSum]
theorem leftSum_le : ∀ l : List Tk, leftSum l ≤ szL Tk.sz l
  | [] => Nat.le_refl _
  | a :: l => by
    have := leftSum_le l
    simp only [leftSum, List.map_cons, List.sum_cons, szL, Tk.sz] at *
    omega
theorem rightSum_le : ∀ l : List Tk, rightSum l ≤ szL Tk.sz l
  | [] => Nat.le_refl _
  | a :: l => by
    have := rightSum_le l
    simp only [rightSum, List.map_cons, List.sum_cons, szL, Tk.sz] at *
    omega
def Jn.B2 (j : Jn) : Prop := j.sz ≤ 1073741800
def pendOk (l : List Tk) (t : Tk) : Bool := tkOk t && decide (t.kind = (l.headD tkZ).kind)
def pendAll (l : List Tk) : Bool := l.all (pendOk l)
theorem jnOk_eq (j : Jn) : jnOk j = (decide (j.pend.length ≤ 40) && (win j.wr 0 100000 && (win j.parts 0 1000 && (pendAll j.pend && (decide (leftSum j.pend ≤ 24) && decide (rightSum j.pend ≤ 24)))))) := rfl
theorem leN24 (n : Nat) : leI (n : Int) 24 = decide (n ≤ 24) := by unfold leI; congr 1; apply propext; omega
theorem leN40 (n : Nat) : leI (n : Int) 40 = decide (n ≤ 40) := by unfold leI; congr 1; apply propext; omega
theorem headTk {l : List Tk} (h : 0 < l.length) : at' (l.map Tk.e) (tn 0) = (l.headD tkZ).e := by
  cases l with
  | nil => simp at h
  | cons a l => rfl
theorem iValidJn (j : Jn) (h : j.B2) : callI tE f_impl_IsValidJoiner [.sl (j.pend.map Tk.e), .int j.wr, .int j.parts] = some [.bool (jnOk j)] := by
  have hl := szL_len Tk.sz j.pend
  have hL := leftSum_le j.pend
  have hR := rightSum_le j.pend
  have hsz : szL Tk.sz j.pend ≤ 1073741800 := h
  rw [c_impl_IsValidJoiner, jnOk_eq]
  simp only [within_ok, lenI_map, gn_c, gb_c, gs_c, gl_c, tk_s, tk_0, List.drop_succ_cons, List.drop_zero, List.headD_cons, List.getD_cons_zero, List.getD_cons_succ, bind_s]
  by_cases h40 : j.pend.length ≤ 40
  · rw [ltF (by omega), cond_false, decide_eq_true h40]
    cases win j.wr 0 100000
    · rfl
    · cases win j.parts 0 1000
      · rfl
      · simp only [Bool.not_true, cond_false, Bool.true_and]
        refine (zip_loop (l := j.pend) (L := fun (s : Nat × Nat) i => L_impl_IsValidJoiner_0 0 (s.1 : Nat) (s.2 : Nat) (j.pend.map Tk.e) (j.pend.length : Nat) i (j.pend.map Tk.e) j.wr j.parts) (F := fun s v => some [.bool (v.all (pendOk j.pend) && (decide (s.1 + leftSum v ≤ 24) && decide (s.2 + rightSum v ≤ 24)))]) (I := fun s u _ => s = (leftSum u, rightSum u)) (by omega) (fun u a v s e hI => ?_) (fun s hs => ?_) (0, 0) rfl).trans ?_
        · have hul : u.length < j.pend.length := by rw [e]; simp
          have hat : at' (j.pend.map Tk.e) u.length = a.e := at_i e rfl
          have h1 : leftSum u + a.left.length ≤ 1073741800 := by
            rw [e, leftSum_app] at hL; simp only [leftSum, List.map_cons, List.sum_cons] at hL ⊢; rw [e] at hsz; omega
          have h2 : rightSum u + a.right.length ≤ 1073741800 := by
            rw [e, rightSum_app] at hR; simp only [rightSum, List.map_cons, List.sum_cons] at hR ⊢; rw [e] at hsz; omega
          subst hI
          have step : L_impl_IsValidJoiner_0 0 (leftSum u : Nat) (rightSum u : Nat) (j.pend.map Tk.e) (j.pend.length : Nat) (u.length : Nat) (j.pend.map Tk.e) j.wr j.parts = bif pendOk j.pend a then L_impl_IsValidJoiner_0 0 ((leftSum u + a.left.length : Nat) : Int) ((rightSum u + a.right.length : Nat) : Int) (j.pend.map Tk.e) (j.pend.length : Nat) (w64 (u.length + 1)) (j.pend.map Tk.e) j.wr j.parts else some [.bool false] := by
            rw [L_impl_IsValidJoiner_0_eq, ltT (by omega), cond_true, lenI_map, inRT (by omega) (by omega), cond_true, inRT (by omega) (by omega), cond_true, headTk (by omega)]
            simp only [tn_c, hat, Tk.e, gn_c, gb_c, gs_c, gl_c, tk_s, tk_0, List.drop_succ_cons, List.drop_zero, List.headD_cons, List.getD_cons_zero, List.getD_cons_succ, bind_s, iValidTk, lenI_map]
            unfold pendOk
            rw [w64_id ⟨by omega, by omega⟩, w64_id ⟨by omega, by omega⟩]
            cases tkOk a
            · rfl
            · simp only [Bool.not_true, cond_false, Bool.true_and, bifn]
              rfl
          cases hp : pendOk j.pend a with
          | true =>
            refine .inl ⟨(leftSum u + a.left.length, rightSum u + a.right.length), ?_, ?_, ?_⟩
            · show L_impl_IsValidJoiner_0 _ _ _ _ _ _ _ _ _ = L_impl_IsValidJoiner_0 _ _ _ _ _ _ _ _ _
              rw [step, hp]; rfl
            · rw [leftSum_app, rightSum_app]; simp [leftSum, rightSum]
            · simp only [List.all_cons, hp, Bool.true_and, leftSum, rightSum, List.map_cons, List.sum_cons, Nat.add_assoc]
          | false =>
            refine .inr ?_
            show L_impl_IsValidJoiner_0 _ _ _ _ _ _ _ _ _ = _
            rw [step, hp]
            simp [hp]
        · show L_impl_IsValidJoiner_0 _ _ _ _ _ _ _ _ _ = _
          subst hs
          rw [L_impl_IsValidJoiner_0_eq, ltF (Int.le_refl _), cond_false, leN24, leN24]
          simp only [List.all_nil, Bool.true_and, show leftSum [] = 0 from rfl, show rightSum [] = 0 from rfl, Nat.add_zero]
          cases decide (leftSum j.pend ≤ 24) <;> rfl
        · simp only [Nat.zero_add]; rfl
  · rw [ltT (by omega), cond_true, decide_eq_false h40]; rfl
theorem sValidJn (j : Jn) (h : j.B2) : callI tE f_spec_IsValidJoiner [.sl (j.pend.map Tk.e), .int j.wr, .int j.parts] = some [.bool (jnOk j)] := by
  have hl := szL_len Tk.sz j.pend
  have hL := leftSum_le j.pend
  have hR := rightSum_le j.pend
  have hsz : szL Tk.sz j.pend ≤ 1073741800 := h
  rw [c_spec_IsValidJoiner, jnOk_eq]
  refine (zip_loop (l := j.pend) (L := fun (s : Nat × Nat) i => L_spec_IsValidJoiner_0 0 (s.1 : Nat) (s.2 : Nat) i (j.pend.map Tk.e) j.wr j.parts) (F := fun s v => some [.bool (v.all (pendOk j.pend) && (decide (s.1 + leftSum v ≤ 24) && (decide (s.2 + rightSum v ≤ 24) && (decide (j.pend.length ≤ 40) && (win j.wr 0 100000 && win j.parts 0 1000)))))]) (I := fun s u _ => s = (leftSum u, rightSum u)) (by omega) (fun u a v s e hI => ?_) (fun s hs => ?_) (0, 0) rfl).trans ?_
  · have hul : u.length < j.pend.length := by rw [e]; simp
    have hat : at' (j.pend.map Tk.e) u.length = a.e := at_i e rfl
    have hasz : a.sz ≤ 1073741824 := Nat.le_trans (szL_mem (f := Tk.sz) (show a ∈ j.pend by rw [e]; simp)) (by omega)
    have h1 : leftSum u + a.left.length ≤ 1073741800 := by
      rw [e, leftSum_app] at hL; simp only [leftSum, List.map_cons, List.sum_cons] at hL ⊢; rw [e] at hsz; omega
    have h2 : rightSum u + a.right.length ≤ 1073741800 := by
      rw [e, rightSum_app] at hR; simp only [rightSum, List.map_cons, List.sum_cons] at hR ⊢; rw [e] at hsz; omega
    subst hI
    have step : L_spec_IsValidJoiner_0 0 (leftSum u : Nat) (rightSum u : Nat) (u.length : Nat) (j.pend.map Tk.e) j.wr j.parts = bif pendOk j.pend a then L_spec_IsValidJoiner_0 0 ((leftSum u + a.left.length : Nat) : Int) ((rightSum u + a.right.length : Nat) : Int) (w64 (u.length + 1)) (j.pend.map Tk.e) j.wr j.parts else some [.bool false] := by
      rw [L_spec_IsValidJoiner_0_eq, lenI_map, ltT (by omega), cond_true, inRT (by omega) (by omega), cond_true, inRT (by omega) (by omega), headTk (by omega)]
      simp only [tn_c, hat, Tk.e, gn_c, gb_c, gs_c, gl_c, tk_s, tk_0, List.drop_succ_cons, List.drop_zero, List.headD_cons, List.getD_cons_zero, List.getD_cons_succ, bind_s, sValidTk a hasz, lenI_map, cond_true]
      unfold pendOk
      rw [w64_id ⟨by omega, by omega⟩, w64_id ⟨by omega, by omega⟩]
      cases tkOk a
      · rfl
      · simp only [Bool.not_true, cond_false, Bool.true_and, bifn]
        rfl
    cases hp : pendOk j.pend a with
    | true =>
      refine .inl ⟨(leftSum u + a.left.length, rightSum u + a.right.length), ?_, ?_, ?_⟩
      · show L_spec_IsValidJoiner_0 _ _ _ _ _ _ _ = L_spec_IsValidJoiner_0 _ _ _ _ _ _ _
        rw [step, hp]; rfl
      · rw [leftSum_app, rightSum_app]; simp [leftSum, rightSum]
      · simp only [List.all_cons, hp, Bool.true_and, leftSum, rightSum, List.map_cons, List.sum_cons, Nat.add_assoc]
    | false =>
      refine .inr ?_
      show L_spec_IsValidJoiner_0 _ _ _ _ _ _ _ = _
      rw [step, hp]
      simp [hp]
  · show L_spec_IsValidJoiner_0 _ _ _ _ _ _ _ = _
    subst hs
    rw [L_spec_IsValidJoiner_0_eq, lenI_map, ltF (Int.le_refl _), cond_false, leN24, leN24, leN40]
    simp only [l1In_ok, gn_c, gb_c, gs_c, gl_c, tk_s, tk_0, List.drop_succ_cons, List.drop_zero, List.headD_cons, List.getD_cons_zero, List.getD_cons_succ, bind_s, List.all_nil, Bool.true_and, show leftSum [] = 0 from rfl, show rightSum [] = 0 from rfl, Nat.add_zero]
    cases decide (leftSum j.pend ≤ 24)
    · rfl
    · cases decide (rightSum j.pend ≤ 24)
      · rfl
      · cases decide (j.pend.length ≤ 40)
        · rfl
        · cases win j.wr 0 100000 <;> rfl
  · simp only [Nat.zero_add, pendAll]
    cases j.pend.all (pendOk j.pend) <;> cases decide (leftSum j.pend ≤ 24) <;> cases decide (rightSum j.pend ≤ 24) <;> cases decide (j.pend.length ≤ 40) <;> cases win j.wr 0 100000 <;> cases win j.parts 0 1000 <;> rfl
theorem jn_small {j : Jn} (h : jnOk j = true) : I64 j.wr ∧ I64 j.parts ∧ j.pend.length ≤ 40 ∧ (∀ t ∈ j.pend, tkOk t = true) := by
  obtain ⟨h1, h2, h3, h4, _⟩ := jnOk_p h
  exact ⟨⟨by omega, by omega⟩, ⟨by omega, by omega⟩, h1, fun t ht => (h4 t ht).1⟩
theorem jnFs_le {j : Jn} (h : jnOk j = true) : ∀ x ∈ jnFs j, x.length ≤ 3200 := fun x hx => by
  obtain ⟨i1, i2, _, h4⟩ := jn_small h
  have a1 := fmt_len i1
  have a2 := fmt_len i2
  simp only [jnFs, List.mem_cons] at hx
  rcases hx with rfl | rfl | hx
  · omega
  · omega
  · obtain ⟨t, ht, rfl⟩ := List.mem_map.mp hx
    exact fmtTk_len (h4 t ht)
theorem fmtJn_len {j : Jn} (h : jnOk j = true) : (fmtJn j).length ≤ 134442 := by
  have h1 := joinL_le' (b := 47) (jnFs_le h)
  have h2 := (jn_small h).2.2.1
  have h3 : (jnFs j).length = j.pend.length + 2 := by simp [jnFs]
  unfold fmtJn
  rw [h3] at h1
  omega
theorem txtTk_ok {t : Tk} (h : tkOk t = true) : txtTk t = fmtTk t := if_pos h
theorem iFormatJn (j : Jn) (h : j.B2) : callI tE f_impl_FormatJoiner [.sl (j.pend.map Tk.e), .int j.wr, .int j.parts] = some [.str (S (txtJn j))] := by
  rw [c_impl_FormatJoiner, iValidJn j h]
  simp only [gn_c, gb_c, gs_c, gl_c, tk_s, tk_0, List.drop_succ_cons, List.drop_zero, List.headD_cons, List.getD_cons_zero, List.getD_cons_succ, bind_s]
  unfold txtJn
  by_cases hv : jnOk j = true
  · rw [hv, if_pos rfl, Bool.not_true, cond_false]
    obtain ⟨i1, i2, l1, ht⟩ := jn_small hv
    simp only [iFormatInt_ok i1, iFormatInt_ok i2, gn_c, gb_c, gs_c, gl_c, tk_s, tk_0, List.drop_succ_cons, List.drop_zero, List.headD_cons, List.getD_cons_zero, List.getD_cons_succ, bind_s]
    refine zip_loop (l := j.pend) (L := fun (m : List (List UInt8)) i => L_impl_FormatJoiner_0 (j.pend.map Tk.e) (lenI (j.pend.map Tk.e)) i (m.map StE)) (F := fun _ _ => some [.str (S (fmtJn j))]) (I := fun m u _ => m = fmt j.wr :: fmt j.parts :: u.map fmtTk) (by omega) (fun u a v m e hI => ?_) (fun m hm => ?_) [fmt j.wr, fmt j.parts] rfl
    · refine .inl ⟨fmt j.wr :: fmt j.parts :: (u ++ [a]).map fmtTk, ?_, rfl, rfl⟩
      have hul : u.length < j.pend.length := by rw [e]; simp
      have hat : at' (j.pend.map Tk.e) u.length = a.e := at_i e rfl
      have hta := ht a (by rw [e]; simp)
      show L_impl_FormatJoiner_0 _ _ _ _ = L_impl_FormatJoiner_0 _ _ _ _
      have hml : m.length = u.length + 2 := by rw [hI]; simp
      rw [L_impl_FormatJoiner_0_eq, lenI_map, ltT (by omega), cond_true, inRT (by omega) (by omega), cond_true]
      simp only [tn_c, hat, Tk.e, gn_c, gb_c, gs_c, gl_c, tk_s, tk_0, List.drop_succ_cons, List.drop_zero, List.headD_cons, List.getD_cons_zero, List.getD_cons_succ, bind_s, iFormatTk, len_map]
      rw [hml, fitT (by omega), cond_true, strs_app, txtTk_ok hta, hI]
      simp
    · show L_impl_FormatJoiner_0 _ _ _ _ = _
      rw [L_impl_FormatJoiner_0_eq, lenI_map, ltF (Int.le_refl _), cond_false, hm]
      have h1 := joinL_le (b := 47) (jnFs_le hv)
      have h3 : (jnFs j).length = j.pend.length + 2 := by simp [jnFs]
      rw [h3] at h1
      have := iJoined [47] (jnFs j) (by omega) (by omega)
      unfold jnFs at this
      rw [this]; rfl
  · rw [if_neg hv, (Bool.not_eq_true _).mp hv]; rfl
theorem sFormatJn (j : Jn) (h : j.B2) : callI tE f_spec_FormatJoiner [.sl (j.pend.map Tk.e), .int j.wr, .int j.parts] = some [.str (S (txtJn j))] := by
  rw [c_spec_FormatJoiner, sValidJn j h]
  simp only [gn_c, gb_c, gs_c, gl_c, tk_s, tk_0, List.drop_succ_cons, List.drop_zero, List.headD_cons, List.getD_cons_zero, List.getD_cons_succ, bind_s]
  unfold txtJn
  by_cases hv : jnOk j = true
  · rw [hv, if_pos rfl, Bool.not_true, cond_false]
    obtain ⟨i1, i2, l1, ht⟩ := jn_small hv
    have a1 := fmt_len i1
    have a2 := fmt_len i2
    simp only [sFormatInt_ok i1, sFormatInt_ok i2, gn_c, gb_c, gs_c, gl_c, tk_s, tk_0, List.drop_succ_cons, List.drop_zero, List.headD_cons, List.getD_cons_zero, List.getD_cons_succ, bind_s, S_app]
    rw [fitS_S (by simp; omega), cond_true, fitS_S (by simp; omega), cond_true]
    refine zip_loop (l := j.pend) (L := fun (m : List UInt8) i => L_spec_FormatJoiner_0 0 (S m) i (j.pend.map Tk.e) j.wr j.parts) (F := fun _ _ => some [.str (S (fmtJn j))]) (I := fun m u _ => m = joinL [47] (fmt j.wr :: fmt j.parts :: u.map fmtTk)) (by omega) (fun u a v m e hI => ?_) (fun m hm => ?_) _ rfl
    · refine .inl ⟨joinL [47] (fmt j.wr :: fmt j.parts :: (u ++ [a]).map fmtTk), ?_, rfl, rfl⟩
      have hul : u.length < j.pend.length := by rw [e]; simp
      have hat : at' (j.pend.map Tk.e) u.length = a.e := at_i e rfl
      have hta := ht a (by rw [e]; simp)
      have hasz : a.sz ≤ 1073741824 := Nat.le_trans (szL_mem (f := Tk.sz) (show a ∈ j.pend by rw [e]; simp)) (by unfold Jn.B2 Jn.sz at h; omega)
      have hlt := fmtTk_len hta
      have hml : m.length ≤ 134442 := by
        have hle : ∀ x ∈ (fmt j.wr :: fmt j.parts :: u.map fmtTk), x.length ≤ 3200 := fun x hx => jnFs_le hv x (by
          simp only [jnFs, List.mem_cons] at hx ⊢
          rcases hx with hx | hx | hx
          · exact .inl hx
          · exact .inr (.inl hx)
          · obtain ⟨t, ht2, rfl⟩ := List.mem_map.mp hx
            exact .inr (.inr (List.mem_map.mpr ⟨t, by rw [e]; simp [ht2], rfl⟩)))
        have := joinL_le' (b := 47) hle
        rw [← hI] at this
        simp only [List.length_cons, List.length_map] at this
        omega
      show L_spec_FormatJoiner_0 _ _ _ _ _ _ = L_spec_FormatJoiner_0 _ _ _ _ _ _
      rw [L_spec_FormatJoiner_0_eq, lenI_map, ltT (by omega), cond_true, fitS_S (by simp; omega), cond_true, inRT (by omega) (by omega), cond_true]
      simp only [tn_c, hat, Tk.e, gn_c, gb_c, gs_c, gl_c, tk_s, tk_0, List.drop_succ_cons, List.drop_zero, List.headD_cons, List.getD_cons_zero, List.getD_cons_succ, bind_s, sFormatTk a hasz, S_app, txtTk_ok hta]
      rw [fitS_S (by simp; omega), cond_true]
      have hj := joinL_snoc [47] (fmt j.wr :: fmt j.parts :: u.map fmtTk) (fmtTk a) (by simp)
      rw [← hI] at hj
      rw [List.map_append, List.map_cons, List.map_nil, ← List.cons_append, ← List.cons_append, hj]
    · show L_spec_FormatJoiner_0 _ _ _ _ _ _ = _
      rw [L_spec_FormatJoiner_0_eq, lenI_map, ltF (Int.le_refl _), cond_false, hm]
      rfl
  · rw [if_neg hv, (Bool.not_eq_true _).mp hv]; rfl
end Go.Proofs.YtbmafhpbinjgaaaGreat.Vai
namespace Go.Proofs.YtbmafhpbinjgaaaGreat.Vai
open Go
set_option linter.unusedSimpArgs false
set_option linter.unusedVariables false
set_option linter.unnecessarySimpa false
set_option maxRecDepth 10000
theorem rowSum_app (u v : List Gt) : rowSum (u ++ v) = rowSum u + rowSum v := by simp [rowSum]
theorem rowSum_le : ∀ l : List Gt, rowSum l ≤ szL Gt.sz l
  | [] => Nat.le_refl _
  | a :: l => by
    have := rowSum_le l
    simp only [rowSum, List.map_cons, List.sum_cons, szL, Gt.sz] at *
    omega
def Ag.B2 (j : Ag) : Prop := j.sz ≤ 1073741800
def gtOk (t : Gt) : Bool := aok t.rows && win t.level 0 4
theorem agOk_eq (a : Ag) : agOk a = (a.pend.all gtOk && (decide (a.pend.length ≤ 40) && (decide (rowSum a.pend ≤ 24) && win a.wr 0 100000))) := rfl
theorem iValidAg (j : Ag) (h : j.B2) : callI tE f_impl_IsValidAggregator [.sl (j.pend.map Gt.e), .int j.wr, .bool j.early] = some [.bool (agOk j)] := by
  have hl := szL_len Gt.sz j.pend
  have hL := rowSum_le j.pend
  have hsz : szL Gt.sz j.pend ≤ 1073741800 := h
  rw [c_impl_IsValidAggregator, agOk_eq, lenI_map]
  refine (zip_loop (l := j.pend) (L := fun (s : Nat) i => L_impl_IsValidAggregator_0 0 (s : Nat) (j.pend.map Gt.e) (j.pend.length : Nat) i (j.pend.map Gt.e) j.wr j.early) (F := fun s v => some [.bool (v.all gtOk && (decide (j.pend.length ≤ 40) && (decide (s + rowSum v ≤ 24) && win j.wr 0 100000)))]) (I := fun s u _ => s = rowSum u) (by omega) (fun u a v s e hI => ?_) (fun s hs => ?_) 0 rfl).trans ?_
  · have hul : u.length < j.pend.length := by rw [e]; simp
    have hat : at' (j.pend.map Gt.e) u.length = a.e := at_i e rfl
    have h1 : rowSum u + a.rows.length ≤ 1073741800 := by
      rw [e, rowSum_app] at hL; simp only [rowSum, List.map_cons, List.sum_cons] at hL ⊢; rw [e] at hsz; omega
    subst hI
    have step : L_impl_IsValidAggregator_0 0 (rowSum u : Nat) (j.pend.map Gt.e) (j.pend.length : Nat) (u.length : Nat) (j.pend.map Gt.e) j.wr j.early = bif gtOk a then L_impl_IsValidAggregator_0 0 ((rowSum u + a.rows.length : Nat) : Int) (j.pend.map Gt.e) (j.pend.length : Nat) (w64 (u.length + 1)) (j.pend.map Gt.e) j.wr j.early else some [.bool false] := by
      rw [L_impl_IsValidAggregator_0_eq, ltT (by omega), cond_true, lenI_map, inRT (by omega) (by omega), cond_true]
      simp only [tn_c, hat, Gt.e, gn_c, gb_c, gs_c, gl_c, tk_s, tk_0, List.drop_succ_cons, List.drop_zero, List.headD_cons, List.getD_cons_zero, List.getD_cons_succ, bind_s, iAreValid, within_ok, lenI_map]
      unfold gtOk
      rw [w64_id (n := (rowSum u : Int) + (a.rows.length : Int)) ⟨by omega, by omega⟩]
      cases aok a.rows
      · rfl
      · cases win a.level 0 4 <;> rfl
    cases hp : gtOk a with
    | true =>
      refine .inl ⟨rowSum u + a.rows.length, ?_, ?_, ?_⟩
      · show L_impl_IsValidAggregator_0 _ _ _ _ _ _ _ _ = L_impl_IsValidAggregator_0 _ _ _ _ _ _ _ _
        rw [step, hp]; rfl
      · rw [rowSum_app]; simp [rowSum]
      · simp only [List.all_cons, hp, Bool.true_and, rowSum, List.map_cons, List.sum_cons, Nat.add_assoc]
    | false =>
      refine .inr ?_
      show L_impl_IsValidAggregator_0 _ _ _ _ _ _ _ _ = _
      rw [step, hp]
      simp [hp]
  · show L_impl_IsValidAggregator_0 _ _ _ _ _ _ _ _ = _
    subst hs
    rw [L_impl_IsValidAggregator_0_eq, ltF (Int.le_refl _), cond_false, lenI_map, leN24, leN40]
    simp only [within_ok, gn_c, gb_c, gs_c, gl_c, tk_s, tk_0, List.drop_succ_cons, List.drop_zero, List.headD_cons, List.getD_cons_zero, List.getD_cons_succ, bind_s, List.all_nil, Bool.true_and, show rowSum [] = 0 from rfl, Nat.add_zero]
    cases decide (j.pend.length ≤ 40)
    · rfl
    · cases decide (rowSum j.pend ≤ 24) <;> rfl
  · simp only [Nat.zero_add]
theorem sValidAg (j : Ag) (h : j.B2) : callI tE f_spec_IsValidAggregator [.sl (j.pend.map Gt.e), .int j.wr, .bool j.early] = some [.bool (agOk j)] := by
  have hl := szL_len Gt.sz j.pend
  have hL := rowSum_le j.pend
  have hsz : szL Gt.sz j.pend ≤ 1073741800 := h
  rw [c_spec_IsValidAggregator, agOk_eq]
  refine (zip_loop (l := j.pend) (L := fun (s : Nat) i => L_spec_IsValidAggregator_0 0 (s : Nat) i (j.pend.map Gt.e) j.wr j.early) (F := fun s v => some [.bool (v.all gtOk && (decide (s + rowSum v ≤ 24) && (decide (j.pend.length ≤ 40) && win j.wr 0 100000)))]) (I := fun s u _ => s = rowSum u) (by omega) (fun u a v s e hI => ?_) (fun s hs => ?_) 0 rfl).trans ?_
  · have hul : u.length < j.pend.length := by rw [e]; simp
    have hat : at' (j.pend.map Gt.e) u.length = a.e := at_i e rfl
    have hasz : a.rows.length ≤ 1073741824 := Nat.le_trans (szL_mem (f := Gt.sz) (show a ∈ j.pend by rw [e]; simp)) (by omega)
    have h1 : rowSum u + a.rows.length ≤ 1073741800 := by
      rw [e, rowSum_app] at hL; simp only [rowSum, List.map_cons, List.sum_cons] at hL ⊢; rw [e] at hsz; omega
    subst hI
    have step : L_spec_IsValidAggregator_0 0 (rowSum u : Nat) (u.length : Nat) (j.pend.map Gt.e) j.wr j.early = bif gtOk a then L_spec_IsValidAggregator_0 0 ((rowSum u + a.rows.length : Nat) : Int) (w64 (u.length + 1)) (j.pend.map Gt.e) j.wr j.early else some [.bool false] := by
      rw [L_spec_IsValidAggregator_0_eq, lenI_map, ltT (by omega), cond_true, inRT (by omega) (by omega), cond_true]
      simp only [tn_c, hat, Gt.e, gn_c, gb_c, gs_c, gl_c, tk_s, tk_0, List.drop_succ_cons, List.drop_zero, List.headD_cons, List.getD_cons_zero, List.getD_cons_succ, bind_s, sAreValid a.rows (show a.rows.length < 4611686018427387904 by omega), l1In_ok, lenI_map, cond_true]
      unfold gtOk
      rw [w64_id (n := (rowSum u : Int) + (a.rows.length : Int)) ⟨by omega, by omega⟩]
      cases aok a.rows
      · rfl
      · cases win a.level 0 4 <;> rfl
    cases hp : gtOk a with
    | true =>
      refine .inl ⟨rowSum u + a.rows.length, ?_, ?_, ?_⟩
      · show L_spec_IsValidAggregator_0 _ _ _ _ _ _ = L_spec_IsValidAggregator_0 _ _ _ _ _ _
        rw [step, hp]; rfl
      · rw [rowSum_app]; simp [rowSum]
      · simp only [List.all_cons, hp, Bool.true_and, rowSum, List.map_cons, List.sum_cons, Nat.add_assoc]
    | false =>
      refine .inr ?_
      show L_spec_IsValidAggregator_0 _ _ _ _ _ _ = _
      rw [step, hp]
      simp [hp]
  · show L_spec_IsValidAggregator_0 _ _ _ _ _ _ = _
    subst hs
    rw [L_spec_IsValidAggregator_0_eq, lenI_map, ltF (Int.le_refl _), cond_false, leN24, leN40]
    simp only [l1In_ok, gn_c, gb_c, gs_c, gl_c, tk_s, tk_0, List.drop_succ_cons, List.drop_zero, List.headD_cons, List.getD_cons_zero, List.getD_cons_succ, bind_s, List.all_nil, Bool.true_and, show rowSum [] = 0 from rfl, Nat.add_zero]
    cases decide (rowSum j.pend ≤ 24)
    · rfl
    · cases decide (j.pend.length ≤ 40) <;> rfl
  · simp only [Nat.zero_add]
    cases j.pend.all gtOk <;> cases decide (rowSum j.pend ≤ 24) <;> cases decide (j.pend.length ≤ 40) <;> rfl
theorem ag_small {j : Ag} (h : agOk j = true) : I64 j.wr ∧ j.pend.length ≤ 40 ∧ (∀ t ∈ j.pend, aok t.rows = true ∧ I64 t.level) := by
  obtain ⟨h1, h2, h3, h4, h5⟩ := agOk_p h
  exact ⟨⟨by omega, by omega⟩, h2, fun t ht => ⟨(h1 t ht).1, ⟨by have := (h1 t ht).2; omega, by have := (h1 t ht).2; omega⟩⟩⟩
theorem fmtGt_len {t : Gt} (h : I64 t.level) : (fmtGt t).length ≤ 1600 := by
  have a1 := fmt_len h
  have a2 := fmtRs_len t.rows
  rw [fmtGt_eq]
  simp only [List.length_append, List.length_cons, List.length_nil]
  omega
theorem boTx_len (b : Bool) : (boTx b).length = 1 := by cases b <;> rfl
theorem agFs_le {j : Ag} (h : agOk j = true) : ∀ x ∈ agFs j, x.length ≤ 1600 := fun x hx => by
  obtain ⟨i1, _, h4⟩ := ag_small h
  have a1 := fmt_len i1
  simp only [agFs, List.mem_cons] at hx
  rcases hx with rfl | rfl | hx
  · omega
  · rw [boTx_len]; omega
  · obtain ⟨t, ht, rfl⟩ := List.mem_map.mp hx
    exact fmtGt_len (h4 t ht).2
theorem agPre_le {j : Ag} (h : agOk j = true) {u v : List Gt} (e : j.pend = u ++ v) : (joinL [47] (fmt j.wr :: boTx j.early :: u.map fmtGt)).length ≤ 67242 := by
  have hle : ∀ x ∈ (fmt j.wr :: boTx j.early :: u.map fmtGt), x.length ≤ 1600 := fun x hx => agFs_le h x (by
    simp only [agFs, List.mem_cons] at hx ⊢
    rcases hx with hx | hx | hx
    · exact .inl hx
    · exact .inr (.inl hx)
    · obtain ⟨t, ht2, rfl⟩ := List.mem_map.mp hx
      exact .inr (.inr (List.mem_map.mpr ⟨t, by rw [e]; simp [ht2], rfl⟩)))
  have := joinL_le' (b := 47) hle
  have h2 := (ag_small h).2.1
  rw [e, List.length_append] at h2
  simp only [List.length_cons, List.length_map] at this
  omega
theorem fmtAg_len {j : Ag} (h : agOk j = true) : (fmtAg j).length ≤ 67242 := agPre_le h (u := j.pend) (v := []) (by simp)
theorem joinL_two (x y : List UInt8) : joinL [47] [x, y] = x ++ [47] ++ y := by simp [joinL]
theorem iFormatAg (j : Ag) (h : j.B2) : callI tE f_impl_FormatAggregator [.sl (j.pend.map Gt.e), .int j.wr, .bool j.early] = some [.str (S (txtAg j))] := by
  rw [c_impl_FormatAggregator, iValidAg j h]
  simp only [gn_c, gb_c, gs_c, gl_c, tk_s, tk_0, List.drop_succ_cons, List.drop_zero, List.headD_cons, List.getD_cons_zero, List.getD_cons_succ, bind_s]
  unfold txtAg
  by_cases hv : agOk j = true
  · rw [hv, if_pos rfl, Bool.not_true, cond_false]
    obtain ⟨i1, l1, ht⟩ := ag_small hv
    have a1 := fmt_len i1
    have key : L_impl_FormatAggregator_0 (S (joinL [47] [fmt j.wr, boTx j.early])) (j.pend.map Gt.e) (lenI (j.pend.map Gt.e)) 0 = some [.str (S (fmtAg j))] := by
      refine zip_loop (l := j.pend) (L := fun (m : List UInt8) i => L_impl_FormatAggregator_0 (S m) (j.pend.map Gt.e) (lenI (j.pend.map Gt.e)) i) (F := fun _ _ => some [.str (S (fmtAg j))]) (I := fun m u _ => m = joinL [47] (fmt j.wr :: boTx j.early :: u.map fmtGt)) (by omega) (fun u a v m e hI => ?_) (fun m hm => ?_) _ rfl
      · refine .inl ⟨joinL [47] (fmt j.wr :: boTx j.early :: (u ++ [a]).map fmtGt), ?_, rfl, rfl⟩
        have hul : u.length < j.pend.length := by rw [e]; simp
        have hat : at' (j.pend.map Gt.e) u.length = a.e := at_i e rfl
        have hta := ht a (by rw [e]; simp)
        have hml := agPre_le hv e
        rw [← hI] at hml
        have b1 := fmt_len hta.2
        have b2 := fmtRs_len a.rows
        show L_impl_FormatAggregator_0 _ _ _ _ = L_impl_FormatAggregator_0 _ _ _ _
        rw [L_impl_FormatAggregator_0_eq, lenI_map, ltT (by omega), cond_true, inRT (by omega) (by omega), cond_true]
        simp only [tn_c, hat, Gt.e, gn_c, gb_c, gs_c, gl_c, tk_s, tk_0, List.drop_succ_cons, List.drop_zero, List.headD_cons, List.getD_cons_zero, List.getD_cons_succ, bind_s, iFormatInt_ok hta.2, iFormatRows, S_app]
        iterate 4 rw [fitS_S (by simp only [List.length_append, List.length_cons, List.length_nil]; omega), cond_true]
        have hj := joinL_snoc [47] (fmt j.wr :: boTx j.early :: u.map fmtGt) (fmtGt a) (by simp)
        rw [← hI, fmtGt_eq] at hj
        rw [List.map_append, List.map_cons, List.map_nil, ← List.cons_append, ← List.cons_append, fmtGt_eq, hj]
        simp only [List.append_assoc]
      · show L_impl_FormatAggregator_0 _ _ _ _ = _
        rw [L_impl_FormatAggregator_0_eq, lenI_map, ltF (Int.le_refl _), cond_false, hm]
        rfl
    rw [joinL_two] at key
    simp only [iFormatInt_ok i1, gn_c, gb_c, gs_c, gl_c, tk_s, tk_0, List.drop_succ_cons, List.drop_zero, List.headD_cons, List.getD_cons_zero, List.getD_cons_succ, bind_s, S_app]
    cases he : j.early
    · rw [he] at key
      rw [cond_false, fitS_S (by simp; omega), cond_true, fitS_S (by simp; omega), cond_true]
      exact key
    · rw [he] at key
      rw [cond_true, fitS_S (by simp; omega), cond_true, fitS_S (by simp; omega), cond_true]
      exact key
  · rw [if_neg hv, (Bool.not_eq_true _).mp hv]; rfl
theorem sFormatAg (j : Ag) (h : j.B2) : callI tE f_spec_FormatAggregator [.sl (j.pend.map Gt.e), .int j.wr, .bool j.early] = some [.str (S (txtAg j))] := by
  rw [c_spec_FormatAggregator, sValidAg j h]
  simp only [gn_c, gb_c, gs_c, gl_c, tk_s, tk_0, List.drop_succ_cons, List.drop_zero, List.headD_cons, List.getD_cons_zero, List.getD_cons_succ, bind_s]
  unfold txtAg
  by_cases hv : agOk j = true
  · rw [hv, if_pos rfl, Bool.not_true, cond_false]
    obtain ⟨i1, l1, ht⟩ := ag_small hv
    have a1 := fmt_len i1
    have key : L_spec_FormatAggregator_0 0 (S (joinL [47] [fmt j.wr, boTx j.early])) 0 (j.pend.map Gt.e) j.wr j.early = some [.str (S (fmtAg j))] := by
      refine zip_loop (l := j.pend) (L := fun (m : List UInt8) i => L_spec_FormatAggregator_0 0 (S m) i (j.pend.map Gt.e) j.wr j.early) (F := fun _ _ => some [.str (S (fmtAg j))]) (I := fun m u _ => m = joinL [47] (fmt j.wr :: boTx j.early :: u.map fmtGt)) (by omega) (fun u a v m e hI => ?_) (fun m hm => ?_) _ rfl
      · refine .inl ⟨joinL [47] (fmt j.wr :: boTx j.early :: (u ++ [a]).map fmtGt), ?_, rfl, rfl⟩
        have hul : u.length < j.pend.length := by rw [e]; simp
        have hat : at' (j.pend.map Gt.e) u.length = a.e := at_i e rfl
        have hta := ht a (by rw [e]; simp)
        have hml := agPre_le hv e
        rw [← hI] at hml
        have b1 := fmt_len hta.2
        have b2 := fmtRs_len a.rows
        have hrl : a.rows.length < 1099511627776 := by have := aok_len hta.1; omega
        show L_spec_FormatAggregator_0 _ _ _ _ _ _ = L_spec_FormatAggregator_0 _ _ _ _ _ _
        rw [L_spec_FormatAggregator_0_eq, lenI_map, ltT (by omega), cond_true, inRT (by omega) (by omega)]
        simp only [tn_c, hat, Gt.e, gn_c, gb_c, gs_c, gl_c, tk_s, tk_0, List.drop_succ_cons, List.drop_zero, List.headD_cons, List.getD_cons_zero, List.getD_cons_succ, bind_s, sFormatInt_ok hta.2, sFormatRows a.rows hrl, S_app, cond_true]
        iterate 4 rw [fitS_S (by simp only [List.length_append, List.length_cons, List.length_nil]; omega), cond_true]
        have hj := joinL_snoc [47] (fmt j.wr :: boTx j.early :: u.map fmtGt) (fmtGt a) (by simp)
        rw [← hI, fmtGt_eq] at hj
        rw [List.map_append, List.map_cons, List.map_nil, ← List.cons_append, ← List.cons_append, fmtGt_eq, hj]
        simp only [List.append_assoc]
      · show L_spec_FormatAggregator_0 _ _ _ _ _ _ = _
        rw [L_spec_FormatAggregator_0_eq, lenI_map, ltF (Int.le_refl _), cond_false, hm]
        rfl
    rw [joinL_two] at key
    simp only [sFormatInt_ok i1, gn_c, gb_c, gs_c, gl_c, tk_s, tk_0, List.drop_succ_cons, List.drop_zero, List.headD_cons, List.getD_cons_zero, List.getD_cons_succ, bind_s, S_app]
    rw [fitS_S (by simp; omega), cond_true]
    cases he : j.early
    · rw [he] at key
      rw [cond_false]
      simp only [boTx, List.append_assoc] at key ⊢
      exact key
    · rw [he] at key
      rw [cond_true, fitS_S (by simp; omega), cond_true]
      simp only [boTx, List.append_assoc] at key ⊢
      exact key
  · rw [if_neg hv, (Bool.not_eq_true _).mp hv]; rfl
end Go.Proofs.YtbmafhpbinjgaaaGreat.Vai
namespace Go.Proofs.YtbmafhpbinjgaaaGreat.Vai
open Go
set_option linter.unusedSimpArgs false
set_option linter.unusedVariables false
set_option linter.unnecessarySimpa false
set_option maxRecDepth 10000
def pre (c : UInt8) (s : List UInt8) : List UInt8 := if s = [] then [] else c :: s
def txtOp (o : Opr) : List UInt8 := if o.kind = 1 then pre 115 (txtSo o.so) else if o.kind = 2 then pre 106 (txtJn o.jn) else if o.kind = 3 then pre 103 (txtAg o.ag) else []
theorem pre_ok {c : UInt8} {s : List UInt8} (h : s.length ≤ 9223372036854775806) : (bif (eqS (S s) (S [])) then (some [Dat.str (S [])]) else (bif (fitS (S [c]) (S s)) then (some [.str ((S [c]) ++ (S s))]) else none)) = some [.str (S (pre c s))] := by
  rw [eqS_S, fitS_S (by simp; omega), S_app]
  unfold pre
  by_cases hs : s = []
  · rw [decide_eq_true hs, if_pos hs]; rfl
  · rw [decide_eq_false hs, if_neg hs]; rfl
theorem txtSo_len {s : So} (h : s.B2) (hb : s.nb) : (txtSo s).length ≤ 9223372036854775806 := by
  have h1 := fmtSo_len s hb h.b.p.2.2.2.2
  unfold txtSo
  split
  · omega
  · simp
theorem txtJn_len (j : Jn) : (txtJn j).length ≤ 134442 := by
  unfold txtJn
  split
  · rename_i h; exact fmtJn_len h
  · simp
theorem txtAg_len (j : Ag) : (txtAg j).length ≤ 67242 := by
  unfold txtAg
  split
  · rename_i h; exact fmtAg_len h
  · simp
def Opr.B2 (o : Opr) : Prop := o.sz ≤ 1073741800
theorem Opr.B2.p {o : Opr} (h : o.B2) : o.so.B2 ∧ o.jn.B2 ∧ o.ag.B2 := by
  simp only [Opr.B2, Opr.sz, So.B2, Jn.B2, Ag.B2] at *
  omega
theorem iFormatOp (o : Opr) (h : o.B2) (hb : o.so.nb) : callI tE f_impl_FormatOp o.e = some [.str (S (txtOp o))] := by
  obtain ⟨h1, h2, h3⟩ := h.p
  show callI tE f_impl_FormatOp [.int o.kind, .sl (o.so.inp.map Rw.e), .int o.so.pos, .sl (o.so.heap.map Rw.e), .sl (o.so.dfd.map Rw.e), .sl (o.so.out.map Rw.e), .sl (o.so.runs.map rsE), .int o.so.lp, .int o.so.rp, .int o.so.ph, .int o.so.wr, .sl (o.jn.pend.map Tk.e), .int o.jn.wr, .int o.jn.parts, .sl (o.ag.pend.map Gt.e), .int o.ag.wr, .bool o.ag.early] = _
  rw [c_impl_FormatOp, iFormatSo o.so h1 hb, iFormatJn o.jn h2, iFormatAg o.ag h3]
  simp only [bind_s, gs_c]
  rw [pre_ok (txtSo_len h1 hb), pre_ok (by have := txtJn_len o.jn; omega), pre_ok (by have := txtAg_len o.ag; omega)]
  unfold txtOp
  by_cases k1 : o.kind = 1
  · rw [eqT k1, if_pos k1]; rfl
  · rw [eqF k1, if_neg k1, cond_false]
    by_cases k2 : o.kind = 2
    · rw [eqT k2, if_pos k2]; rfl
    · rw [eqF k2, if_neg k2, cond_false]
      by_cases k3 : o.kind = 3
      · rw [eqT k3, if_pos k3]; rfl
      · rw [eqF k3, if_neg k3, cond_false, eqS_S]; rfl
theorem sFormatOp (o : Opr) (h : o.B2) (hb : o.so.nb) : callI tE f_spec_FormatOp o.e = some [.str (S (txtOp o))] := by
  obtain ⟨h1, h2, h3⟩ := h.p
  show callI tE f_spec_FormatOp [.int o.kind, .sl (o.so.inp.map Rw.e), .int o.so.pos, .sl (o.so.heap.map Rw.e), .sl (o.so.dfd.map Rw.e), .sl (o.so.out.map Rw.e), .sl (o.so.runs.map rsE), .int o.so.lp, .int o.so.rp, .int o.so.ph, .int o.so.wr, .sl (o.jn.pend.map Tk.e), .int o.jn.wr, .int o.jn.parts, .sl (o.ag.pend.map Gt.e), .int o.ag.wr, .bool o.ag.early] = _
  rw [c_spec_FormatOp, sFormatSo o.so h1 hb, sFormatJn o.jn h2, sFormatAg o.ag h3]
  simp only [bind_s, gs_c]
  rw [pre_ok (txtSo_len h1 hb), pre_ok (by have := txtJn_len o.jn; omega), pre_ok (by have := txtAg_len o.ag; omega)]
  unfold txtOp
  by_cases k1 : o.kind = 1
  · rw [eqT k1, if_pos k1]; rfl
  · rw [eqF k1, if_neg k1, cond_false]
    by_cases k2 : o.kind = 2
    · rw [eqT k2, if_pos k2]; rfl
    · rw [eqF k2, if_neg k2, cond_false]
      by_cases k3 : o.kind = 3
      · rw [eqT k3, if_pos k3]; rfl
      · rw [eqF k3, if_neg k3, cond_false, eqS_S]; rfl
end Go.Proofs.YtbmafhpbinjgaaaGreat.Vai
namespace Go.Proofs.YtbmafhpbinjgaaaGreat.Vai
open Go
set_option linter.unusedSimpArgs false
set_option linter.unusedVariables false
set_option linter.unnecessarySimpa false
set_option maxRecDepth 10000
theorem of_sl {α : Type} {e : α → List Dat} {p : α → Prop} {t : TypeId} {te : TI} (ht : tE.T t = some te) (hp : 0 < te.by_) (hE : ∀ {ds : List Dat}, OkDs tE te.ls ds → ∃ x, ds = e x ∧ p x) {d : Dat} (h : OkD tE (.sl t) d) : ∃ l : List α, d = .sl (l.map e) ∧ BdL p l := by
  obtain ⟨rows, rfl, hn, hr⟩ := h.sl' ht
  have key : ∀ rows : Rows, (∀ r ∈ rows, OkDs tE te.ls r) → ∃ l : List α, rows = l.map e ∧ ∀ a ∈ l, p a := by
    intro rows
    induction rows with
    | nil => intro _; exact ⟨[], rfl, fun a ha => by cases ha⟩
    | cons r rows ih =>
      intro hr
      obtain ⟨l, h1, h2⟩ := ih (fun q hq => hr q (List.mem_cons_of_mem _ hq))
      obtain ⟨x, h3, h4⟩ := hE (hr r (by simp))
      exact ⟨x :: l, by rw [h1, h3]; rfl, fun a ha => (List.mem_cons.mp ha).elim (fun e => e ▸ h4) (h2 a)⟩
  obtain ⟨l, h1, h2⟩ := key rows hr
  refine ⟨l, by rw [h1], ?_, h2⟩
  have : rows.length = l.length := by rw [h1]; simp
  have h3 : rows.length ≤ reachBytes := Nat.le_trans (Nat.le_mul_of_pos_right _ hp) hn
  have h4 : reachBytes ≤ 1152921504606846976 := by decide
  omega
theorem OkDs.split {ls1 ls2 : List Leaf} {ds : List Dat} (h : OkDs tE (ls1 ++ ls2) ds) : ∃ d1 d2, ds = d1 ++ d2 ∧ OkDs tE ls1 d1 ∧ OkDs tE ls2 d2 := by
  induction ls1 generalizing ds with
  | nil => exact ⟨[], ds, rfl, .nil, h⟩
  | cons l ls ih =>
    obtain ⟨d, r, rfl, h1, h2⟩ := h.inv
    obtain ⟨d1, d2, rfl, h3, h4⟩ := ih h2
    exact ⟨d :: d1, d2, rfl, .cons _ _ _ _ h1 h3, h4⟩
theorem of_bool {ds : List Dat} (h : OkDs tE [.bool] ds) : ∃ n, ds = boE n ∧ BdT n := by
  obtain ⟨_, _, rfl, i, h⟩ := h.inv
  obtain rfl := h.nil_inv
  obtain ⟨n, rfl⟩ := i.bool'
  exact ⟨n, rfl, trivial⟩
theorem of_Row {ds : List Dat} (h : OkDs tE [.int .i64, .int .i64, .int .i64] ds) : ∃ x : Rw, ds = Rw.e x ∧ Rw.bd x := by
  obtain ⟨_, _, rfl, i0, h⟩ := h.inv
  obtain ⟨_, _, rfl, i1, h⟩ := h.inv
  obtain ⟨_, _, rfl, i2, h⟩ := h.inv
  obtain rfl := h.nil_inv
  obtain ⟨n0, rfl, j0⟩ := i0.i64
  obtain ⟨n1, rfl, j1⟩ := i1.i64
  obtain ⟨n2, rfl, j2⟩ := i2.i64
  exact ⟨⟨n0, n1, n2⟩, rfl, ⟨j0, j1, j2⟩⟩
theorem of_Task {ds : List Dat} (h : OkDs tE [.int .i64, .sl 119, .sl 119, .sl 4, .int .i64] ds) : ∃ x : Tk, ds = Tk.e x ∧ Tk.bd x := by
  obtain ⟨_, _, rfl, i0, h⟩ := h.inv
  obtain ⟨_, _, rfl, i1, h⟩ := h.inv
  obtain ⟨_, _, rfl, i2, h⟩ := h.inv
  obtain ⟨_, _, rfl, i3, h⟩ := h.inv
  obtain ⟨_, _, rfl, i4, h⟩ := h.inv
  obtain rfl := h.nil_inv
  obtain ⟨n0, rfl, j0⟩ := i0.i64
  obtain ⟨n1, rfl, j1⟩ := of_sl (te := ⟨[.int .i64, .int .i64, .int .i64], 24, true, [(0, 3), (1, 3), (2, 3)]⟩) rfl (by decide) of_Row i1
  obtain ⟨n2, rfl, j2⟩ := of_sl (te := ⟨[.int .i64, .int .i64, .int .i64], 24, true, [(0, 3), (1, 3), (2, 3)]⟩) rfl (by decide) of_Row i2
  obtain ⟨n3, rfl, j3⟩ := of_sl (te := ⟨[.bool], 1, false, []⟩) rfl (by decide) of_bool i3
  obtain ⟨n4, rfl, j4⟩ := i4.i64
  exact ⟨⟨n0, n1, n2, n3, n4⟩, rfl, ⟨j0, j1, j2, j3, j4⟩⟩
theorem of_GroupTask {ds : List Dat} (h : OkDs tE [.sl 119, .int .i64] ds) : ∃ x : Gt, ds = Gt.e x ∧ Gt.bd x := by
  obtain ⟨_, _, rfl, i0, h⟩ := h.inv
  obtain ⟨_, _, rfl, i1, h⟩ := h.inv
  obtain rfl := h.nil_inv
  obtain ⟨n0, rfl, j0⟩ := of_sl (te := ⟨[.int .i64, .int .i64, .int .i64], 24, true, [(0, 3), (1, 3), (2, 3)]⟩) rfl (by decide) of_Row i0
  obtain ⟨n1, rfl, j1⟩ := i1.i64
  exact ⟨⟨n0, n1⟩, rfl, ⟨j0, j1⟩⟩
theorem of_Run {ds : List Dat} (h : OkDs tE [.sl 119] ds) : ∃ x : List Rw, ds = rsE x ∧ rsB x := by
  obtain ⟨_, _, rfl, i0, h⟩ := h.inv
  obtain rfl := h.nil_inv
  obtain ⟨n0, rfl, j0⟩ := of_sl (te := ⟨[.int .i64, .int .i64, .int .i64], 24, true, [(0, 3), (1, 3), (2, 3)]⟩) rfl (by decide) of_Row i0
  exact ⟨n0, rfl, j0⟩
theorem of_Op {ds : List Dat} (h : OkDs tE [.int .i64, .sl 119, .int .i64, .sl 119, .sl 119, .sl 119, .sl 181, .int .i64, .int .i64, .int .i64, .int .i64, .sl 184, .int .i64, .int .i64, .sl 187, .int .i64, .bool] ds) : ∃ x : Opr, ds = Opr.e x ∧ Opr.bd x := by
  obtain ⟨_, _, rfl, i0, h⟩ := h.inv
  obtain ⟨_, _, rfl, i1, h⟩ := h.inv
  obtain ⟨_, _, rfl, i2, h⟩ := h.inv
  obtain ⟨_, _, rfl, i3, h⟩ := h.inv
  obtain ⟨_, _, rfl, i4, h⟩ := h.inv
  obtain ⟨_, _, rfl, i5, h⟩ := h.inv
  obtain ⟨_, _, rfl, i6, h⟩ := h.inv
  obtain ⟨_, _, rfl, i7, h⟩ := h.inv
  obtain ⟨_, _, rfl, i8, h⟩ := h.inv
  obtain ⟨_, _, rfl, i9, h⟩ := h.inv
  obtain ⟨_, _, rfl, i10, h⟩ := h.inv
  obtain ⟨_, _, rfl, i11, h⟩ := h.inv
  obtain ⟨_, _, rfl, i12, h⟩ := h.inv
  obtain ⟨_, _, rfl, i13, h⟩ := h.inv
  obtain ⟨_, _, rfl, i14, h⟩ := h.inv
  obtain ⟨_, _, rfl, i15, h⟩ := h.inv
  obtain ⟨_, _, rfl, i16, h⟩ := h.inv
  obtain rfl := h.nil_inv
  obtain ⟨n0, rfl, j0⟩ := i0.i64
  obtain ⟨n1, rfl, j1⟩ := of_sl (te := ⟨[.int .i64, .int .i64, .int .i64], 24, true, [(0, 3), (1, 3), (2, 3)]⟩) rfl (by decide) of_Row i1
  obtain ⟨n2, rfl, j2⟩ := i2.i64
  obtain ⟨n3, rfl, j3⟩ := of_sl (te := ⟨[.int .i64, .int .i64, .int .i64], 24, true, [(0, 3), (1, 3), (2, 3)]⟩) rfl (by decide) of_Row i3
  obtain ⟨n4, rfl, j4⟩ := of_sl (te := ⟨[.int .i64, .int .i64, .int .i64], 24, true, [(0, 3), (1, 3), (2, 3)]⟩) rfl (by decide) of_Row i4
  obtain ⟨n5, rfl, j5⟩ := of_sl (te := ⟨[.int .i64, .int .i64, .int .i64], 24, true, [(0, 3), (1, 3), (2, 3)]⟩) rfl (by decide) of_Row i5
  obtain ⟨n6, rfl, j6⟩ := of_sl (te := ⟨[.sl 119], 24, true, [(0, 22)]⟩) rfl (by decide) of_Run i6
  obtain ⟨n7, rfl, j7⟩ := i7.i64
  obtain ⟨n8, rfl, j8⟩ := i8.i64
  obtain ⟨n9, rfl, j9⟩ := i9.i64
  obtain ⟨n10, rfl, j10⟩ := i10.i64
  obtain ⟨n11, rfl, j11⟩ := of_sl (te := ⟨[.int .i64, .sl 119, .sl 119, .sl 4, .int .i64], 88, true, [(0, 3), (1, 22), (2, 22), (3, 130), (4, 3)]⟩) rfl (by decide) of_Task i11
  obtain ⟨n12, rfl, j12⟩ := i12.i64
  obtain ⟨n13, rfl, j13⟩ := i13.i64
  obtain ⟨n14, rfl, j14⟩ := of_sl (te := ⟨[.sl 119, .int .i64], 32, true, [(0, 22), (1, 3)]⟩) rfl (by decide) of_GroupTask i14
  obtain ⟨n15, rfl, j15⟩ := i15.i64
  obtain ⟨n16, rfl⟩ := i16.bool'
  exact ⟨⟨n0, ⟨n1, n2, n3, n4, n5, n6, n7, n8, n9, n10⟩, ⟨n11, n12, n13⟩, ⟨n14, n15, n16⟩⟩, rfl, ⟨j0, ⟨j1, j2, j3, j4, j5, j6, j7, j8, j9, j10⟩, ⟨j11, j12, j13⟩, ⟨j14, j15, trivial⟩⟩⟩
end Go.Proofs.YtbmafhpbinjgaaaGreat.Vai
namespace Go.Proofs.YtbmafhpbinjgaaaGreat.Vai
open Go
set_option linter.unusedSimpArgs false
set_option linter.unusedVariables false
set_option linter.unnecessarySimpa false
set_option maxRecDepth 10000
theorem to_Row (x : Rw) : callI tE f_laws_toRow [.int x.k, .int x.v, .int x.w] = some [.int x.k, .int x.v, .int x.w] := by
  simp only [c_laws_toRow, gn_c, gb_c, gs_c, gl_c, tk_s, tk_0, List.drop_succ_cons, List.drop_zero, List.headD_cons, List.getD_cons_zero, List.getD_cons_succ, bind_s]
theorem to_RowS (l : List Rw) (h : l.length ≤ 1048576) : callI tE f_laws_toRowS [.sl (l.map Rw.e)] = some [.sl (l.map Rw.e)] := by
  have hl : l.length ≤ 1048576 := h
  rw [c_laws_toRowS]
  have := to_loop (L := L_laws_toRowS_0) (e := Rw.e) (z := [.int 0, .int 0, .int 0]) (P := fun a => (fun _ => 0) a ≤ 1048576) (fun p q p' q' a _ hpl hlt => by
    rw [L_laws_toRowS_0_eq]
    simp only [lt_mid, in_mid, tn_c, at_mid, cond_true, cond_false, gn_c, gb_c, gs_c, gl_c, tk_s, tk_0, List.drop_succ_cons, List.drop_zero, List.headD_cons, List.getD_cons_zero, List.getD_cons_succ, bind_s, in_mid' hpl, upd_mid' hpl, Rw.e, to_Row a, setRange, List.set_cons_zero, List.set_cons_succ]) (fun p p' hpl => by
    rw [L_laws_toRowS_0_eq, lt_end, cond_false]) l [] [] rfl (fun a ha => Nat.zero_le _) (by simp; omega)
  simp only [List.nil_append, List.length_nil, Int.ofNat_zero, Int.natCast_zero] at this
  rw [le0_len, eqI_self, fitT (by show (l.map Rw.e).length * _ ≤ _; rw [List.length_map]; omega)]
  simp only [Bool.and_self, cond_true]
  rw [show tn (lenI (l.map Rw.e)) = l.length by show (l.map Rw.e).length = _; simp]
  exact this
theorem sz_RowS (l : List Rw) (n : Int) (h0 : 0 ≤ n) (h1 : n ≤ 1048576) (h : BdL Rw.bd l) : callI tE f_laws_szRowS [.sl (l.map Rw.e), .int n] = some [.int (szv n l.length)] := by
  rw [c_laws_szRowS]
  exact sz_flat h0 h1 (by simp) h.1
theorem eq_Row (x y : Rw) : callI tE f_laws_eqRow [.int x.k, .int x.v, .int x.w, .int y.k, .int y.v, .int y.w] = some [.bool (decide (x = y))] := by
  have e : decide (x = y) = (decide (x.k = y.k) && (decide (x.v = y.v) && (decide (x.w = y.w)))) := by
    cases x; cases y
    simp only [Rw.mk.injEq, Bool.decide_and]
  simp only [gn_c, gb_c, gs_c, gl_c, tk_s, tk_0, List.drop_succ_cons, List.drop_zero, List.headD_cons, List.getD_cons_zero, List.getD_cons_succ, bind_s, eqI, eqBo, e, bif_and, Bool.and_true, c_laws_eqRow]
theorem eq_RowS (l l' : List Rw) (h : l.length ≤ 1152921504606846976) : callI tE f_laws_eqRowS [.sl (l.map Rw.e), .sl (l'.map Rw.e)] = some [.bool (decide (l = l'))] := by
  have hl : l.length ≤ 1152921504606846976 := h
  rw [c_laws_eqRowS]
  by_cases hll : l.length = l'.length
  · rw [eq_len hll, Bool.not_true, cond_false]
    have := eq_loop (L := L_laws_eqRowS_0) (e := Rw.e) (P := fun a => (fun _ => 0) a ≤ 1152921504606846976) (fun p q p' q' a b _ hpl hlt => by
      rw [L_laws_eqRowS_0_eq]
      simp only [lt_mid, in_mid, tn_c, at_mid, cond_true, cond_false, gn_c, gb_c, gs_c, gl_c, tk_s, tk_0, List.drop_succ_cons, List.drop_zero, List.headD_cons, List.getD_cons_zero, List.getD_cons_succ, bind_s, in_mid' hpl, at_mid' hpl, Rw.e, eq_Row a b, bifn]) (fun p p' hpl => by
      rw [L_laws_eqRowS_0_eq, lt_end, cond_false]) l l' [] [] rfl hll (fun a ha => Nat.zero_le _) (by simp; omega)
    simpa using this
  · rw [ne_len hll, Bool.not_false, cond_true, decide_eq_false (fun e => hll (by rw [e]))]
theorem to_BoolS (l : List Bool) (h : l.length ≤ 1048576) : callI tE f_laws_toBoolS [.sl (l.map boE)] = some [.sl (l.map boE)] := by
  have hl : l.length ≤ 1048576 := h
  rw [c_laws_toBoolS]
  have := to_loop (L := L_laws_toBoolS_0) (e := boE) (z := [.bool false]) (P := fun a => (fun _ => 0) a ≤ 1048576) (fun p q p' q' a _ hpl hlt => by
    rw [L_laws_toBoolS_0_eq]
    simp only [lt_mid, in_mid, tn_c, at_mid, cond_true, cond_false, gn_c, gb_c, gs_c, gl_c, tk_s, tk_0, List.drop_succ_cons, List.drop_zero, List.headD_cons, List.getD_cons_zero, List.getD_cons_succ, bind_s, in_mid' hpl, upd_mid' hpl, boE, setRange, List.set_cons_zero, List.set_cons_succ]) (fun p p' hpl => by
    rw [L_laws_toBoolS_0_eq, lt_end, cond_false]) l [] [] rfl (fun a ha => Nat.zero_le _) (by simp; omega)
  simp only [List.nil_append, List.length_nil, Int.ofNat_zero, Int.natCast_zero] at this
  rw [le0_len, eqI_self, fitT (by show (l.map boE).length * _ ≤ _; rw [List.length_map]; omega)]
  simp only [Bool.and_self, cond_true]
  rw [show tn (lenI (l.map boE)) = l.length by show (l.map boE).length = _; simp]
  exact this
theorem sz_BoolS (l : List Bool) (n : Int) (h0 : 0 ≤ n) (h1 : n ≤ 1048576) (h : BdL BdT l) : callI tE f_laws_szBoolS [.sl (l.map boE), .int n] = some [.int (szv n l.length)] := by
  rw [c_laws_szBoolS]
  exact sz_flat h0 h1 (by simp) h.1
theorem eq_BoolS (l l' : List Bool) (h : l.length ≤ 1152921504606846976) : callI tE f_laws_eqBoolS [.sl (l.map boE), .sl (l'.map boE)] = some [.bool (decide (l = l'))] := by
  have hl : l.length ≤ 1152921504606846976 := h
  rw [c_laws_eqBoolS]
  by_cases hll : l.length = l'.length
  · rw [eq_len hll, Bool.not_true, cond_false]
    have := eq_loop (L := L_laws_eqBoolS_0) (e := boE) (P := fun a => (fun _ => 0) a ≤ 1152921504606846976) (fun p q p' q' a b _ hpl hlt => by
      rw [L_laws_eqBoolS_0_eq]
      simp only [lt_mid, in_mid, tn_c, at_mid, cond_true, cond_false, gn_c, gb_c, gs_c, gl_c, tk_s, tk_0, List.drop_succ_cons, List.drop_zero, List.headD_cons, List.getD_cons_zero, List.getD_cons_succ, bind_s, in_mid' hpl, at_mid' hpl, boE, eqBo, bifn]) (fun p p' hpl => by
      rw [L_laws_eqBoolS_0_eq, lt_end, cond_false]) l l' [] [] rfl hll (fun a ha => Nat.zero_le _) (by simp; omega)
    simpa using this
  · rw [ne_len hll, Bool.not_false, cond_true, decide_eq_false (fun e => hll (by rw [e]))]
end Go.Proofs.YtbmafhpbinjgaaaGreat.Vai
namespace Go.Proofs.YtbmafhpbinjgaaaGreat.Vai
open Go
set_option linter.unusedSimpArgs false
set_option linter.unusedVariables false
set_option linter.unnecessarySimpa false
set_option maxRecDepth 10000
theorem to_Run (x : List Rw) (h : x.length ≤ 1048576) : callI tE f_laws_toRun [.sl (x.map Rw.e)] = some [.sl (x.map Rw.e)] := by
  simp only [c_laws_toRun, to_RowS x (by exact h), gn_c, gb_c, gs_c, gl_c, tk_s, tk_0, List.drop_succ_cons, List.drop_zero, List.headD_cons, List.getD_cons_zero, List.getD_cons_succ, bind_s]
theorem to_RunS (l : List (List Rw)) (h : szL List.length l ≤ 1048576) : callI tE f_laws_toRunS [.sl (l.map rsE)] = some [.sl (l.map rsE)] := by
  have hl : l.length ≤ 1048576 := (Nat.le_trans (szL_len _ _) h)
  rw [c_laws_toRunS]
  have := to_loop (L := L_laws_toRunS_0) (e := rsE) (z := [.sl []]) (P := fun a => List.length a ≤ 1048576) (fun p q p' q' a hP hpl hlt => by
    rw [L_laws_toRunS_0_eq]
    simp only [lt_mid, in_mid, tn_c, at_mid, cond_true, cond_false, gn_c, gb_c, gs_c, gl_c, tk_s, tk_0, List.drop_succ_cons, List.drop_zero, List.headD_cons, List.getD_cons_zero, List.getD_cons_succ, bind_s, in_mid' hpl, upd_mid' hpl, rsE, to_Run a hP, setRange, List.set_cons_zero, List.set_cons_succ]) (fun p p' hpl => by
    rw [L_laws_toRunS_0_eq, lt_end, cond_false]) l [] [] rfl (fun a ha => Nat.le_trans (szL_mem ha) h) (by simp; omega)
  simp only [List.nil_append, List.length_nil, Int.ofNat_zero, Int.natCast_zero] at this
  rw [le0_len, eqI_self, fitT (by show (l.map rsE).length * _ ≤ _; rw [List.length_map]; omega)]
  simp only [Bool.and_self, cond_true]
  rw [show tn (lenI (l.map rsE)) = l.length by show (l.map rsE).length = _; simp]
  exact this
theorem sz_Run (x : List Rw) (n : Int) (h0 : 0 ≤ n) (h1 : n ≤ 1048576) (h : rsB x) : callI tE f_laws_szRun [.sl (x.map Rw.e), .int n] = some [.int (szv n (x.length))] := by
  rw [c_laws_szRun]
  have b0 : BdL Rw.bd x := h
  rw [sz_RowS x n (by omega) (by omega) b0]
  simp only [gn_c, gb_c, gs_c, gl_c, tk_s, tk_0, List.drop_succ_cons, List.drop_zero, List.headD_cons, List.getD_cons_zero, List.getD_cons_succ, bind_s]
  exact sz_last (by omega)
theorem sz_RunS (l : List (List Rw)) (n : Int) (h0 : 0 ≤ n) (h1 : n ≤ 1048576) (h : BdL rsB l) : callI tE f_laws_szRunS [.sl (l.map rsE), .int n] = some [.int (szv n (szL List.length l))] := by
  have hl : l.length ≤ 1152921504606846976 := h.1
  rw [c_laws_szRunS, szL_cnt]
  refine sz_len (X := fun m => L_laws_szRunS_0 (l.map rsE) m 0) h0 h1 (List.length_map _) hl fun h2 => ?_
  have := sz_loop (L := L_laws_szRunS_0) (e := rsE) (g := List.length) (P := rsB) (fun p q a n hP h0 h1 hlt => by
    rw [L_laws_szRunS_0_eq]
    simp only [lt_mid, in_mid, tn_c, at_mid, cond_true, cond_false, gn_c, gb_c, gs_c, gl_c, tk_s, tk_0, List.drop_succ_cons, List.drop_zero, List.headD_cons, List.getD_cons_zero, List.getD_cons_succ, bind_s, rsE, sz_Run a n h0 h1 hP]) (fun p n => by
    rw [L_laws_szRunS_0_eq, lt_end, cond_false]) l [] (n - l.length) (fun a ha => h.2 a ha) (by omega) (by omega) (by simp; omega)
  simpa using this
theorem eq_Run (x y : List Rw) (h : x.length ≤ 1152921504606846976) : callI tE f_laws_eqRun [.sl (x.map Rw.e), .sl (y.map Rw.e)] = some [.bool (decide (x = y))] := by
  simp only [c_laws_eqRun, eq_RowS x y h, gn_c, gb_c, gs_c, gl_c, tk_s, tk_0, List.drop_succ_cons, List.drop_zero, List.headD_cons, List.getD_cons_zero, List.getD_cons_succ, bind_s, bif_and, Bool.and_true]
theorem eq_RunS (l l' : List (List Rw)) (h : szL List.length l ≤ 1152921504606846976) : callI tE f_laws_eqRunS [.sl (l.map rsE), .sl (l'.map rsE)] = some [.bool (decide (l = l'))] := by
  have hl : l.length ≤ 1152921504606846976 := (Nat.le_trans (szL_len _ _) h)
  rw [c_laws_eqRunS]
  by_cases hll : l.length = l'.length
  · rw [eq_len hll, Bool.not_true, cond_false]
    have := eq_loop (L := L_laws_eqRunS_0) (e := rsE) (P := fun a => List.length a ≤ 1152921504606846976) (fun p q p' q' a b hP hpl hlt => by
      rw [L_laws_eqRunS_0_eq]
      simp only [lt_mid, in_mid, tn_c, at_mid, cond_true, cond_false, gn_c, gb_c, gs_c, gl_c, tk_s, tk_0, List.drop_succ_cons, List.drop_zero, List.headD_cons, List.getD_cons_zero, List.getD_cons_succ, bind_s, in_mid' hpl, at_mid' hpl, rsE, eq_Run a b hP, bifn]) (fun p p' hpl => by
      rw [L_laws_eqRunS_0_eq, lt_end, cond_false]) l l' [] [] rfl hll (fun a ha => Nat.le_trans (szL_mem ha) h) (by simp; omega)
    simpa using this
  · rw [ne_len hll, Bool.not_false, cond_true, decide_eq_false (fun e => hll (by rw [e]))]
theorem to_Sorter (x : So) (h : x.sz ≤ 1048576) : callI tE f_laws_toSorter [.sl (x.inp.map Rw.e), .int x.pos, .sl (x.heap.map Rw.e), .sl (x.dfd.map Rw.e), .sl (x.out.map Rw.e), .sl (x.runs.map rsE), .int x.lp, .int x.rp, .int x.ph, .int x.wr] = some [.sl (x.inp.map Rw.e), .int x.pos, .sl (x.heap.map Rw.e), .sl (x.dfd.map Rw.e), .sl (x.out.map Rw.e), .sl (x.runs.map rsE), .int x.lp, .int x.rp, .int x.ph, .int x.wr] := by
  simp only [c_laws_toSorter, to_RowS x.inp (by simp only [So.sz] at h; omega), to_RowS x.heap (by simp only [So.sz] at h; omega), to_RowS x.dfd (by simp only [So.sz] at h; omega), to_RowS x.out (by simp only [So.sz] at h; omega), to_RunS x.runs (by simp only [So.sz] at h; omega), gn_c, gb_c, gs_c, gl_c, tk_s, tk_0, List.drop_succ_cons, List.drop_zero, List.headD_cons, List.getD_cons_zero, List.getD_cons_succ, bind_s]
theorem sz_Sorter (x : So) (n : Int) (h0 : 0 ≤ n) (h1 : n ≤ 1048576) (h : x.bd) : callI tE f_laws_szSorter [.sl (x.inp.map Rw.e), .int x.pos, .sl (x.heap.map Rw.e), .sl (x.dfd.map Rw.e), .sl (x.out.map Rw.e), .sl (x.runs.map rsE), .int x.lp, .int x.rp, .int x.ph, .int x.wr, .int n] = some [.int (szv n (x.sz))] := by
  rw [c_laws_szSorter]
  simp only [So.sz]
  obtain ⟨b0, _, b2, b3, b4, b5, _, _, _, _⟩ := h
  rw [sz_RowS x.inp n (by omega) (by omega) b0]
  simp only [gn_c, gb_c, gs_c, gl_c, tk_s, tk_0, List.drop_succ_cons, List.drop_zero, List.headD_cons, List.getD_cons_zero, List.getD_cons_succ, bind_s]
  refine sz_chain (by omega) fun h0 g0 => ?_
  rw [g0]
  rw [sz_RowS x.heap (n - (x.inp.length : Nat)) (by omega) (by omega) b2]
  simp only [gn_c, gb_c, gs_c, gl_c, tk_s, tk_0, List.drop_succ_cons, List.drop_zero, List.headD_cons, List.getD_cons_zero, List.getD_cons_succ, bind_s]
  refine sz_chain (by omega) fun h1 g1 => ?_
  rw [g1]
  rw [sz_RowS x.dfd (n - (x.inp.length : Nat) - (x.heap.length : Nat)) (by omega) (by omega) b3]
  simp only [gn_c, gb_c, gs_c, gl_c, tk_s, tk_0, List.drop_succ_cons, List.drop_zero, List.headD_cons, List.getD_cons_zero, List.getD_cons_succ, bind_s]
  refine sz_chain (by omega) fun h2 g2 => ?_
  rw [g2]
  rw [sz_RowS x.out (n - (x.inp.length : Nat) - (x.heap.length : Nat) - (x.dfd.length : Nat)) (by omega) (by omega) b4]
  simp only [gn_c, gb_c, gs_c, gl_c, tk_s, tk_0, List.drop_succ_cons, List.drop_zero, List.headD_cons, List.getD_cons_zero, List.getD_cons_succ, bind_s]
  refine sz_chain (by omega) fun h3 g3 => ?_
  rw [g3]
  rw [sz_RunS x.runs (n - (x.inp.length : Nat) - (x.heap.length : Nat) - (x.dfd.length : Nat) - (x.out.length : Nat)) (by omega) (by omega) b5]
  simp only [gn_c, gb_c, gs_c, gl_c, tk_s, tk_0, List.drop_succ_cons, List.drop_zero, List.headD_cons, List.getD_cons_zero, List.getD_cons_succ, bind_s]
  exact sz_last (by omega)
theorem eq_Sorter (x y : So) (h : x.sz ≤ 1152921504606846976) : callI tE f_laws_eqSorter [.sl (x.inp.map Rw.e), .int x.pos, .sl (x.heap.map Rw.e), .sl (x.dfd.map Rw.e), .sl (x.out.map Rw.e), .sl (x.runs.map rsE), .int x.lp, .int x.rp, .int x.ph, .int x.wr, .sl (y.inp.map Rw.e), .int y.pos, .sl (y.heap.map Rw.e), .sl (y.dfd.map Rw.e), .sl (y.out.map Rw.e), .sl (y.runs.map rsE), .int y.lp, .int y.rp, .int y.ph, .int y.wr] = some [.bool (decide (x = y))] := by
  have e : decide (x = y) = (decide (x.inp = y.inp) && (decide (x.pos = y.pos) && (decide (x.heap = y.heap) && (decide (x.dfd = y.dfd) && (decide (x.out = y.out) && (decide (x.runs = y.runs) && (decide (x.lp = y.lp) && (decide (x.rp = y.rp) && (decide (x.ph = y.ph) && (decide (x.wr = y.wr))))))))))) := by
    cases x; cases y
    simp only [So.mk.injEq, Bool.decide_and]
  simp only [eq_RowS x.inp y.inp (by simp only [So.sz] at h; omega), eq_RowS x.heap y.heap (by simp only [So.sz] at h; omega), eq_RowS x.dfd y.dfd (by simp only [So.sz] at h; omega), eq_RowS x.out y.out (by simp only [So.sz] at h; omega), eq_RunS x.runs y.runs (by simp only [So.sz] at h; omega), gn_c, gb_c, gs_c, gl_c, tk_s, tk_0, List.drop_succ_cons, List.drop_zero, List.headD_cons, List.getD_cons_zero, List.getD_cons_succ, bind_s, eqI, eqBo, e, bif_and, Bool.and_true, c_laws_eqSorter]
end Go.Proofs.YtbmafhpbinjgaaaGreat.Vai
namespace Go.Proofs.YtbmafhpbinjgaaaGreat.Vai
open Go
set_option linter.unusedSimpArgs false
set_option linter.unusedVariables false
set_option linter.unnecessarySimpa false
set_option maxRecDepth 10000
theorem to_Task (x : Tk) (h : x.sz ≤ 1048576) : callI tE f_laws_toTask [.int x.kind, .sl (x.left.map Rw.e), .sl (x.right.map Rw.e), .sl (x.mat.map boE), .int x.level] = some [.int x.kind, .sl (x.left.map Rw.e), .sl (x.right.map Rw.e), .sl (x.mat.map boE), .int x.level] := by
  simp only [c_laws_toTask, to_RowS x.left (by simp only [Tk.sz] at h; omega), to_RowS x.right (by simp only [Tk.sz] at h; omega), to_BoolS x.mat (by simp only [Tk.sz] at h; omega), gn_c, gb_c, gs_c, gl_c, tk_s, tk_0, List.drop_succ_cons, List.drop_zero, List.headD_cons, List.getD_cons_zero, List.getD_cons_succ, bind_s]
theorem to_TaskS (l : List Tk) (h : szL Tk.sz l ≤ 1048576) : callI tE f_laws_toTaskS [.sl (l.map Tk.e)] = some [.sl (l.map Tk.e)] := by
  have hl : l.length ≤ 1048576 := (Nat.le_trans (szL_len _ _) h)
  rw [c_laws_toTaskS]
  have := to_loop (L := L_laws_toTaskS_0) (e := Tk.e) (z := [.int 0, .sl [], .sl [], .sl [], .int 0]) (P := fun a => Tk.sz a ≤ 1048576) (fun p q p' q' a hP hpl hlt => by
    rw [L_laws_toTaskS_0_eq]
    simp only [lt_mid, in_mid, tn_c, at_mid, cond_true, cond_false, gn_c, gb_c, gs_c, gl_c, tk_s, tk_0, List.drop_succ_cons, List.drop_zero, List.headD_cons, List.getD_cons_zero, List.getD_cons_succ, bind_s, in_mid' hpl, upd_mid' hpl, Tk.e, to_Task a hP, setRange, List.set_cons_zero, List.set_cons_succ]) (fun p p' hpl => by
    rw [L_laws_toTaskS_0_eq, lt_end, cond_false]) l [] [] rfl (fun a ha => Nat.le_trans (szL_mem ha) h) (by simp; omega)
  simp only [List.nil_append, List.length_nil, Int.ofNat_zero, Int.natCast_zero] at this
  rw [le0_len, eqI_self, fitT (by show (l.map Tk.e).length * _ ≤ _; rw [List.length_map]; omega)]
  simp only [Bool.and_self, cond_true]
  rw [show tn (lenI (l.map Tk.e)) = l.length by show (l.map Tk.e).length = _; simp]
  exact this
theorem sz_Task (x : Tk) (n : Int) (h0 : 0 ≤ n) (h1 : n ≤ 1048576) (h : x.bd) : callI tE f_laws_szTask [.int x.kind, .sl (x.left.map Rw.e), .sl (x.right.map Rw.e), .sl (x.mat.map boE), .int x.level, .int n] = some [.int (szv n (x.sz))] := by
  rw [c_laws_szTask]
  simp only [Tk.sz]
  obtain ⟨_, b1, b2, b3, _⟩ := h
  rw [sz_RowS x.left n (by omega) (by omega) b1]
  simp only [gn_c, gb_c, gs_c, gl_c, tk_s, tk_0, List.drop_succ_cons, List.drop_zero, List.headD_cons, List.getD_cons_zero, List.getD_cons_succ, bind_s]
  refine sz_chain (by omega) fun h0 g0 => ?_
  rw [g0]
  rw [sz_RowS x.right (n - (x.left.length : Nat)) (by omega) (by omega) b2]
  simp only [gn_c, gb_c, gs_c, gl_c, tk_s, tk_0, List.drop_succ_cons, List.drop_zero, List.headD_cons, List.getD_cons_zero, List.getD_cons_succ, bind_s]
  refine sz_chain (by omega) fun h1 g1 => ?_
  rw [g1]
  rw [sz_BoolS x.mat (n - (x.left.length : Nat) - (x.right.length : Nat)) (by omega) (by omega) b3]
  simp only [gn_c, gb_c, gs_c, gl_c, tk_s, tk_0, List.drop_succ_cons, List.drop_zero, List.headD_cons, List.getD_cons_zero, List.getD_cons_succ, bind_s]
  exact sz_last (by omega)
theorem sz_TaskS (l : List Tk) (n : Int) (h0 : 0 ≤ n) (h1 : n ≤ 1048576) (h : BdL Tk.bd l) : callI tE f_laws_szTaskS [.sl (l.map Tk.e), .int n] = some [.int (szv n (szL Tk.sz l))] := by
  have hl : l.length ≤ 1152921504606846976 := h.1
  rw [c_laws_szTaskS, szL_cnt]
  refine sz_len (X := fun m => L_laws_szTaskS_0 (l.map Tk.e) m 0) h0 h1 (List.length_map _) hl fun h2 => ?_
  have := sz_loop (L := L_laws_szTaskS_0) (e := Tk.e) (g := Tk.sz) (P := Tk.bd) (fun p q a n hP h0 h1 hlt => by
    rw [L_laws_szTaskS_0_eq]
    simp only [lt_mid, in_mid, tn_c, at_mid, cond_true, cond_false, gn_c, gb_c, gs_c, gl_c, tk_s, tk_0, List.drop_succ_cons, List.drop_zero, List.headD_cons, List.getD_cons_zero, List.getD_cons_succ, bind_s, Tk.e, sz_Task a n h0 h1 hP]) (fun p n => by
    rw [L_laws_szTaskS_0_eq, lt_end, cond_false]) l [] (n - l.length) (fun a ha => h.2 a ha) (by omega) (by omega) (by simp; omega)
  simpa using this
theorem eq_Task (x y : Tk) (h : x.sz ≤ 1152921504606846976) : callI tE f_laws_eqTask [.int x.kind, .sl (x.left.map Rw.e), .sl (x.right.map Rw.e), .sl (x.mat.map boE), .int x.level, .int y.kind, .sl (y.left.map Rw.e), .sl (y.right.map Rw.e), .sl (y.mat.map boE), .int y.level] = some [.bool (decide (x = y))] := by
  have e : decide (x = y) = (decide (x.kind = y.kind) && (decide (x.left = y.left) && (decide (x.right = y.right) && (decide (x.mat = y.mat) && (decide (x.level = y.level)))))) := by
    cases x; cases y
    simp only [Tk.mk.injEq, Bool.decide_and]
  simp only [eq_RowS x.left y.left (by simp only [Tk.sz] at h; omega), eq_RowS x.right y.right (by simp only [Tk.sz] at h; omega), eq_BoolS x.mat y.mat (by simp only [Tk.sz] at h; omega), gn_c, gb_c, gs_c, gl_c, tk_s, tk_0, List.drop_succ_cons, List.drop_zero, List.headD_cons, List.getD_cons_zero, List.getD_cons_succ, bind_s, eqI, eqBo, e, bif_and, Bool.and_true, c_laws_eqTask]
theorem eq_TaskS (l l' : List Tk) (h : szL Tk.sz l ≤ 1152921504606846976) : callI tE f_laws_eqTaskS [.sl (l.map Tk.e), .sl (l'.map Tk.e)] = some [.bool (decide (l = l'))] := by
  have hl : l.length ≤ 1152921504606846976 := (Nat.le_trans (szL_len _ _) h)
  rw [c_laws_eqTaskS]
  by_cases hll : l.length = l'.length
  · rw [eq_len hll, Bool.not_true, cond_false]
    have := eq_loop (L := L_laws_eqTaskS_0) (e := Tk.e) (P := fun a => Tk.sz a ≤ 1152921504606846976) (fun p q p' q' a b hP hpl hlt => by
      rw [L_laws_eqTaskS_0_eq]
      simp only [lt_mid, in_mid, tn_c, at_mid, cond_true, cond_false, gn_c, gb_c, gs_c, gl_c, tk_s, tk_0, List.drop_succ_cons, List.drop_zero, List.headD_cons, List.getD_cons_zero, List.getD_cons_succ, bind_s, in_mid' hpl, at_mid' hpl, Tk.e, eq_Task a b hP, bifn]) (fun p p' hpl => by
      rw [L_laws_eqTaskS_0_eq, lt_end, cond_false]) l l' [] [] rfl hll (fun a ha => Nat.le_trans (szL_mem ha) h) (by simp; omega)
    simpa using this
  · rw [ne_len hll, Bool.not_false, cond_true, decide_eq_false (fun e => hll (by rw [e]))]
theorem to_GroupTask (x : Gt) (h : x.sz ≤ 1048576) : callI tE f_laws_toGroupTask [.sl (x.rows.map Rw.e), .int x.level] = some [.sl (x.rows.map Rw.e), .int x.level] := by
  simp only [c_laws_toGroupTask, to_RowS x.rows (by simp only [Gt.sz] at h; omega), gn_c, gb_c, gs_c, gl_c, tk_s, tk_0, List.drop_succ_cons, List.drop_zero, List.headD_cons, List.getD_cons_zero, List.getD_cons_succ, bind_s]
theorem to_GroupTaskS (l : List Gt) (h : szL Gt.sz l ≤ 1048576) : callI tE f_laws_toGroupTaskS [.sl (l.map Gt.e)] = some [.sl (l.map Gt.e)] := by
  have hl : l.length ≤ 1048576 := (Nat.le_trans (szL_len _ _) h)
  rw [c_laws_toGroupTaskS]
  have := to_loop (L := L_laws_toGroupTaskS_0) (e := Gt.e) (z := [.sl [], .int 0]) (P := fun a => Gt.sz a ≤ 1048576) (fun p q p' q' a hP hpl hlt => by
    rw [L_laws_toGroupTaskS_0_eq]
    simp only [lt_mid, in_mid, tn_c, at_mid, cond_true, cond_false, gn_c, gb_c, gs_c, gl_c, tk_s, tk_0, List.drop_succ_cons, List.drop_zero, List.headD_cons, List.getD_cons_zero, List.getD_cons_succ, bind_s, in_mid' hpl, upd_mid' hpl, Gt.e, to_GroupTask a hP, setRange, List.set_cons_zero, List.set_cons_succ]) (fun p p' hpl => by
    rw [L_laws_toGroupTaskS_0_eq, lt_end, cond_false]) l [] [] rfl (fun a ha => Nat.le_trans (szL_mem ha) h) (by simp; omega)
  simp only [List.nil_append, List.length_nil, Int.ofNat_zero, Int.natCast_zero] at this
  rw [le0_len, eqI_self, fitT (by show (l.map Gt.e).length * _ ≤ _; rw [List.length_map]; omega)]
  simp only [Bool.and_self, cond_true]
  rw [show tn (lenI (l.map Gt.e)) = l.length by show (l.map Gt.e).length = _; simp]
  exact this
theorem sz_GroupTask (x : Gt) (n : Int) (h0 : 0 ≤ n) (h1 : n ≤ 1048576) (h : x.bd) : callI tE f_laws_szGroupTask [.sl (x.rows.map Rw.e), .int x.level, .int n] = some [.int (szv n (x.sz))] := by
  rw [c_laws_szGroupTask]
  simp only [Gt.sz]
  obtain ⟨b0, _⟩ := h
  rw [sz_RowS x.rows n (by omega) (by omega) b0]
  simp only [gn_c, gb_c, gs_c, gl_c, tk_s, tk_0, List.drop_succ_cons, List.drop_zero, List.headD_cons, List.getD_cons_zero, List.getD_cons_succ, bind_s]
  exact sz_last (by omega)
theorem sz_GroupTaskS (l : List Gt) (n : Int) (h0 : 0 ≤ n) (h1 : n ≤ 1048576) (h : BdL Gt.bd l) : callI tE f_laws_szGroupTaskS [.sl (l.map Gt.e), .int n] = some [.int (szv n (szL Gt.sz l))] := by
  have hl : l.length ≤ 1152921504606846976 := h.1
  rw [c_laws_szGroupTaskS, szL_cnt]
  refine sz_len (X := fun m => L_laws_szGroupTaskS_0 (l.map Gt.e) m 0) h0 h1 (List.length_map _) hl fun h2 => ?_
  have := sz_loop (L := L_laws_szGroupTaskS_0) (e := Gt.e) (g := Gt.sz) (P := Gt.bd) (fun p q a n hP h0 h1 hlt => by
    rw [L_laws_szGroupTaskS_0_eq]
    simp only [lt_mid, in_mid, tn_c, at_mid, cond_true, cond_false, gn_c, gb_c, gs_c, gl_c, tk_s, tk_0, List.drop_succ_cons, List.drop_zero, List.headD_cons, List.getD_cons_zero, List.getD_cons_succ, bind_s, Gt.e, sz_GroupTask a n h0 h1 hP]) (fun p n => by
    rw [L_laws_szGroupTaskS_0_eq, lt_end, cond_false]) l [] (n - l.length) (fun a ha => h.2 a ha) (by omega) (by omega) (by simp; omega)
  simpa using this
theorem eq_GroupTask (x y : Gt) (h : x.sz ≤ 1152921504606846976) : callI tE f_laws_eqGroupTask [.sl (x.rows.map Rw.e), .int x.level, .sl (y.rows.map Rw.e), .int y.level] = some [.bool (decide (x = y))] := by
  have e : decide (x = y) = (decide (x.rows = y.rows) && (decide (x.level = y.level))) := by
    cases x; cases y
    simp only [Gt.mk.injEq, Bool.decide_and]
  simp only [eq_RowS x.rows y.rows (by simp only [Gt.sz] at h; omega), gn_c, gb_c, gs_c, gl_c, tk_s, tk_0, List.drop_succ_cons, List.drop_zero, List.headD_cons, List.getD_cons_zero, List.getD_cons_succ, bind_s, eqI, eqBo, e, bif_and, Bool.and_true, c_laws_eqGroupTask]
theorem eq_GroupTaskS (l l' : List Gt) (h : szL Gt.sz l ≤ 1152921504606846976) : callI tE f_laws_eqGroupTaskS [.sl (l.map Gt.e), .sl (l'.map Gt.e)] = some [.bool (decide (l = l'))] := by
  have hl : l.length ≤ 1152921504606846976 := (Nat.le_trans (szL_len _ _) h)
  rw [c_laws_eqGroupTaskS]
  by_cases hll : l.length = l'.length
  · rw [eq_len hll, Bool.not_true, cond_false]
    have := eq_loop (L := L_laws_eqGroupTaskS_0) (e := Gt.e) (P := fun a => Gt.sz a ≤ 1152921504606846976) (fun p q p' q' a b hP hpl hlt => by
      rw [L_laws_eqGroupTaskS_0_eq]
      simp only [lt_mid, in_mid, tn_c, at_mid, cond_true, cond_false, gn_c, gb_c, gs_c, gl_c, tk_s, tk_0, List.drop_succ_cons, List.drop_zero, List.headD_cons, List.getD_cons_zero, List.getD_cons_succ, bind_s, in_mid' hpl, at_mid' hpl, Gt.e, eq_GroupTask a b hP, bifn]) (fun p p' hpl => by
      rw [L_laws_eqGroupTaskS_0_eq, lt_end, cond_false]) l l' [] [] rfl hll (fun a ha => Nat.le_trans (szL_mem ha) h) (by simp; omega)
    simpa using this
  · rw [ne_len hll, Bool.not_false, cond_true, decide_eq_false (fun e => hll (by rw [e]))]
theorem to_Joiner (x : Jn) (h : x.sz ≤ 1048576) : callI tE f_laws_toJoiner [.sl (x.pend.map Tk.e), .int x.wr, .int x.parts] = some [.sl (x.pend.map Tk.e), .int x.wr, .int x.parts] := by
  simp only [c_laws_toJoiner, to_TaskS x.pend (by simp only [Jn.sz] at h; omega), gn_c, gb_c, gs_c, gl_c, tk_s, tk_0, List.drop_succ_cons, List.drop_zero, List.headD_cons, List.getD_cons_zero, List.getD_cons_succ, bind_s]
theorem sz_Joiner (x : Jn) (n : Int) (h0 : 0 ≤ n) (h1 : n ≤ 1048576) (h : x.bd) : callI tE f_laws_szJoiner [.sl (x.pend.map Tk.e), .int x.wr, .int x.parts, .int n] = some [.int (szv n (x.sz))] := by
  rw [c_laws_szJoiner]
  simp only [Jn.sz]
  obtain ⟨b0, _, _⟩ := h
  rw [sz_TaskS x.pend n (by omega) (by omega) b0]
  simp only [gn_c, gb_c, gs_c, gl_c, tk_s, tk_0, List.drop_succ_cons, List.drop_zero, List.headD_cons, List.getD_cons_zero, List.getD_cons_succ, bind_s]
  exact sz_last (by omega)
theorem eq_Joiner (x y : Jn) (h : x.sz ≤ 1152921504606846976) : callI tE f_laws_eqJoiner [.sl (x.pend.map Tk.e), .int x.wr, .int x.parts, .sl (y.pend.map Tk.e), .int y.wr, .int y.parts] = some [.bool (decide (x = y))] := by
  have e : decide (x = y) = (decide (x.pend = y.pend) && (decide (x.wr = y.wr) && (decide (x.parts = y.parts)))) := by
    cases x; cases y
    simp only [Jn.mk.injEq, Bool.decide_and]
  simp only [eq_TaskS x.pend y.pend (by simp only [Jn.sz] at h; omega), gn_c, gb_c, gs_c, gl_c, tk_s, tk_0, List.drop_succ_cons, List.drop_zero, List.headD_cons, List.getD_cons_zero, List.getD_cons_succ, bind_s, eqI, eqBo, e, bif_and, Bool.and_true, c_laws_eqJoiner]
theorem to_Aggregator (x : Ag) (h : x.sz ≤ 1048576) : callI tE f_laws_toAggregator [.sl (x.pend.map Gt.e), .int x.wr, .bool x.early] = some [.sl (x.pend.map Gt.e), .int x.wr, .bool x.early] := by
  simp only [c_laws_toAggregator, to_GroupTaskS x.pend (by simp only [Ag.sz] at h; omega), gn_c, gb_c, gs_c, gl_c, tk_s, tk_0, List.drop_succ_cons, List.drop_zero, List.headD_cons, List.getD_cons_zero, List.getD_cons_succ, bind_s]
theorem sz_Aggregator (x : Ag) (n : Int) (h0 : 0 ≤ n) (h1 : n ≤ 1048576) (h : x.bd) : callI tE f_laws_szAggregator [.sl (x.pend.map Gt.e), .int x.wr, .bool x.early, .int n] = some [.int (szv n (x.sz))] := by
  rw [c_laws_szAggregator]
  simp only [Ag.sz]
  obtain ⟨b0, _, _⟩ := h
  rw [sz_GroupTaskS x.pend n (by omega) (by omega) b0]
  simp only [gn_c, gb_c, gs_c, gl_c, tk_s, tk_0, List.drop_succ_cons, List.drop_zero, List.headD_cons, List.getD_cons_zero, List.getD_cons_succ, bind_s]
  exact sz_last (by omega)
theorem eq_Aggregator (x y : Ag) (h : x.sz ≤ 1152921504606846976) : callI tE f_laws_eqAggregator [.sl (x.pend.map Gt.e), .int x.wr, .bool x.early, .sl (y.pend.map Gt.e), .int y.wr, .bool y.early] = some [.bool (decide (x = y))] := by
  have e : decide (x = y) = (decide (x.pend = y.pend) && (decide (x.wr = y.wr) && (decide (x.early = y.early)))) := by
    cases x; cases y
    simp only [Ag.mk.injEq, Bool.decide_and]
  simp only [eq_GroupTaskS x.pend y.pend (by simp only [Ag.sz] at h; omega), gn_c, gb_c, gs_c, gl_c, tk_s, tk_0, List.drop_succ_cons, List.drop_zero, List.headD_cons, List.getD_cons_zero, List.getD_cons_succ, bind_s, eqI, eqBo, e, bif_and, Bool.and_true, c_laws_eqAggregator]
theorem to_Op (x : Opr) (h : x.sz ≤ 1048576) : callI tE f_laws_toOp [.int x.kind, .sl (x.so.inp.map Rw.e), .int x.so.pos, .sl (x.so.heap.map Rw.e), .sl (x.so.dfd.map Rw.e), .sl (x.so.out.map Rw.e), .sl (x.so.runs.map rsE), .int x.so.lp, .int x.so.rp, .int x.so.ph, .int x.so.wr, .sl (x.jn.pend.map Tk.e), .int x.jn.wr, .int x.jn.parts, .sl (x.ag.pend.map Gt.e), .int x.ag.wr, .bool x.ag.early] = some [.int x.kind, .sl (x.so.inp.map Rw.e), .int x.so.pos, .sl (x.so.heap.map Rw.e), .sl (x.so.dfd.map Rw.e), .sl (x.so.out.map Rw.e), .sl (x.so.runs.map rsE), .int x.so.lp, .int x.so.rp, .int x.so.ph, .int x.so.wr, .sl (x.jn.pend.map Tk.e), .int x.jn.wr, .int x.jn.parts, .sl (x.ag.pend.map Gt.e), .int x.ag.wr, .bool x.ag.early] := by
  simp only [c_laws_toOp, to_Sorter x.so (by simp only [Opr.sz] at h; omega), to_Joiner x.jn (by simp only [Opr.sz] at h; omega), to_Aggregator x.ag (by simp only [Opr.sz] at h; omega), gn_c, gb_c, gs_c, gl_c, tk_s, tk_0, List.drop_succ_cons, List.drop_zero, List.headD_cons, List.getD_cons_zero, List.getD_cons_succ, bind_s]
theorem sz_Op (x : Opr) (n : Int) (h0 : 0 ≤ n) (h1 : n ≤ 1048576) (h : x.bd) : callI tE f_laws_szOp [.int x.kind, .sl (x.so.inp.map Rw.e), .int x.so.pos, .sl (x.so.heap.map Rw.e), .sl (x.so.dfd.map Rw.e), .sl (x.so.out.map Rw.e), .sl (x.so.runs.map rsE), .int x.so.lp, .int x.so.rp, .int x.so.ph, .int x.so.wr, .sl (x.jn.pend.map Tk.e), .int x.jn.wr, .int x.jn.parts, .sl (x.ag.pend.map Gt.e), .int x.ag.wr, .bool x.ag.early, .int n] = some [.int (szv n (x.sz))] := by
  rw [c_laws_szOp]
  simp only [Opr.sz]
  obtain ⟨_, b1, b2, b3⟩ := h
  rw [sz_Sorter x.so n (by omega) (by omega) b1]
  simp only [gn_c, gb_c, gs_c, gl_c, tk_s, tk_0, List.drop_succ_cons, List.drop_zero, List.headD_cons, List.getD_cons_zero, List.getD_cons_succ, bind_s]
  refine sz_chain (by omega) fun h0 g0 => ?_
  rw [g0]
  rw [sz_Joiner x.jn (n - (x.so.sz : Nat)) (by omega) (by omega) b2]
  simp only [gn_c, gb_c, gs_c, gl_c, tk_s, tk_0, List.drop_succ_cons, List.drop_zero, List.headD_cons, List.getD_cons_zero, List.getD_cons_succ, bind_s]
  refine sz_chain (by omega) fun h1 g1 => ?_
  rw [g1]
  rw [sz_Aggregator x.ag (n - (x.so.sz : Nat) - (x.jn.sz : Nat)) (by omega) (by omega) b3]
  simp only [gn_c, gb_c, gs_c, gl_c, tk_s, tk_0, List.drop_succ_cons, List.drop_zero, List.headD_cons, List.getD_cons_zero, List.getD_cons_succ, bind_s]
  exact sz_last (by omega)
theorem eq_Op (x y : Opr) (h : x.sz ≤ 1152921504606846976) : callI tE f_laws_eqOp [.int x.kind, .sl (x.so.inp.map Rw.e), .int x.so.pos, .sl (x.so.heap.map Rw.e), .sl (x.so.dfd.map Rw.e), .sl (x.so.out.map Rw.e), .sl (x.so.runs.map rsE), .int x.so.lp, .int x.so.rp, .int x.so.ph, .int x.so.wr, .sl (x.jn.pend.map Tk.e), .int x.jn.wr, .int x.jn.parts, .sl (x.ag.pend.map Gt.e), .int x.ag.wr, .bool x.ag.early, .int y.kind, .sl (y.so.inp.map Rw.e), .int y.so.pos, .sl (y.so.heap.map Rw.e), .sl (y.so.dfd.map Rw.e), .sl (y.so.out.map Rw.e), .sl (y.so.runs.map rsE), .int y.so.lp, .int y.so.rp, .int y.so.ph, .int y.so.wr, .sl (y.jn.pend.map Tk.e), .int y.jn.wr, .int y.jn.parts, .sl (y.ag.pend.map Gt.e), .int y.ag.wr, .bool y.ag.early] = some [.bool (decide (x = y))] := by
  have e : decide (x = y) = (decide (x.kind = y.kind) && (decide (x.so = y.so) && (decide (x.jn = y.jn) && (decide (x.ag = y.ag))))) := by
    cases x; cases y
    simp only [Opr.mk.injEq, Bool.decide_and]
  simp only [eq_Sorter x.so y.so (by simp only [Opr.sz] at h; omega), eq_Joiner x.jn y.jn (by simp only [Opr.sz] at h; omega), eq_Aggregator x.ag y.ag (by simp only [Opr.sz] at h; omega), gn_c, gb_c, gs_c, gl_c, tk_s, tk_0, List.drop_succ_cons, List.drop_zero, List.headD_cons, List.getD_cons_zero, List.getD_cons_succ, bind_s, eqI, eqBo, e, bif_and, Bool.and_true, c_laws_eqOp]
end Go.Proofs.YtbmafhpbinjgaaaGreat.Vai
namespace Go.Proofs.YtbmafhpbinjgaaaGreat.Vai
open Go
set_option linter.unusedSimpArgs false
set_option linter.unusedVariables false
set_option linter.unnecessarySimpa false
theorem szv_ok {n : Int} {s : Nat} (h : (s : Int) ≤ n) : szv n s = n - s := if_pos h
theorem szv_no {n : Int} {s : Nat} (h : ¬ (s : Int) ≤ n) : szv n s = -1 := if_neg h
end Go.Proofs.YtbmafhpbinjgaaaGreat.Vai
namespace Go.Proofs.YtbmafhpbinjgaaaGreat.Vai
open Go
set_option linter.unusedSimpArgs false
set_option linter.unusedVariables false
set_option linter.unnecessarySimpa false
set_option maxRecDepth 100000
theorem c_laws_FnExactFormatOp (a0 : Int) (a1 : List (List Dat)) (a2 : Int) (a3 : List (List Dat)) (a4 : List (List Dat)) (a5 : List (List Dat)) (a6 : List (List Dat)) (a7 : Int) (a8 : Int) (a9 : Int) (a10 : Int) (a11 : List (List Dat)) (a12 : Int) (a13 : Int) (a14 : List (List Dat)) (a15 : Int) (a16 : Bool) : callI tE f_laws_FnExactFormatOp [.int a0, .sl a1, .int a2, .sl a3, .sl a4, .sl a5, .sl a6, .int a7, .int a8, .int a9, .int a10, .sl a11, .int a12, .int a13, .sl a14, .int a15, .bool a16] = (((callI tE f_laws_szOp [(.int a0), (.sl a1), (.int a2), (.sl a3), (.sl a4), (.sl a5), (.sl a6), (.int a7), (.int a8), (.int a9), (.int a10), (.sl a11), (.int a12), (.int a13), (.sl a14), (.int a15), (.bool a16), (.int 1048576)])).bind (fun r0 => (bif (ltI (gn r0) 0) then (some [(.bool Bool.true)]) else (((callI tE f_laws_toOp [(.int a0), (.sl a1), (.int a2), (.sl a3), (.sl a4), (.sl a5), (.sl a6), (.int a7), (.int a8), (.int a9), (.int a10), (.sl a11), (.int a12), (.int a13), (.sl a14), (.int a15), (.bool a16)])).bind (fun r1 => (((callI tE f_spec_FormatOp [(.int (gn r1)), (.sl (gl (tk 1 r1))), (.int (gn (tk 2 r1))), (.sl (gl (tk 3 r1))), (.sl (gl (tk 4 r1))), (.sl (gl (tk 5 r1))), (.sl (gl (tk 6 r1))), (.int (gn (tk 7 r1))), (.int (gn (tk 8 r1))), (.int (gn (tk 9 r1))), (.int (gn (tk 10 r1))), (.sl (gl (tk 11 r1))), (.int (gn (tk 12 r1))), (.int (gn (tk 13 r1))), (.sl (gl (tk 14 r1))), (.int (gn (tk 15 r1))), (.bool (gb (tk 16 r1)))])).bind (fun r2 => (((callI tE f_laws_toOp [(.int a0), (.sl a1), (.int a2), (.sl a3), (.sl a4), (.sl a5), (.sl a6), (.int a7), (.int a8), (.int a9), (.int a10), (.sl a11), (.int a12), (.int a13), (.sl a14), (.int a15), (.bool a16)])).bind (fun r3 => (((callI tE f_impl_FormatOp [(.int (gn r3)), (.sl (gl (tk 1 r3))), (.int (gn (tk 2 r3))), (.sl (gl (tk 3 r3))), (.sl (gl (tk 4 r3))), (.sl (gl (tk 5 r3))), (.sl (gl (tk 6 r3))), (.int (gn (tk 7 r3))), (.int (gn (tk 8 r3))), (.int (gn (tk 9 r3))), (.int (gn (tk 10 r3))), (.sl (gl (tk 11 r3))), (.int (gn (tk 12 r3))), (.int (gn (tk 13 r3))), (.sl (gl (tk 14 r3))), (.int (gn (tk 15 r3))), (.bool (gb (tk 16 r3)))])).bind (fun r4 => (bif (!(eqS (gs r4) (gs r2))) then (some [(.bool Bool.false)]) else (((callI tE f_laws_toOp [(.int a0), (.sl a1), (.int a2), (.sl a3), (.sl a4), (.sl a5), (.sl a6), (.int a7), (.int a8), (.int a9), (.int a10), (.sl a11), (.int a12), (.int a13), (.sl a14), (.int a15), (.bool a16)])).bind (fun r5 => (((callI tE f_laws_eqOp [(.int (gn r3)), (.sl (gl (tk 1 r3))), (.int (gn (tk 2 r3))), (.sl (gl (tk 3 r3))), (.sl (gl (tk 4 r3))), (.sl (gl (tk 5 r3))), (.sl (gl (tk 6 r3))), (.int (gn (tk 7 r3))), (.int (gn (tk 8 r3))), (.int (gn (tk 9 r3))), (.int (gn (tk 10 r3))), (.sl (gl (tk 11 r3))), (.int (gn (tk 12 r3))), (.int (gn (tk 13 r3))), (.sl (gl (tk 14 r3))), (.int (gn (tk 15 r3))), (.bool (gb (tk 16 r3))), (.int (gn r5)), (.sl (gl (tk 1 r5))), (.int (gn (tk 2 r5))), (.sl (gl (tk 3 r5))), (.sl (gl (tk 4 r5))), (.sl (gl (tk 5 r5))), (.sl (gl (tk 6 r5))), (.int (gn (tk 7 r5))), (.int (gn (tk 8 r5))), (.int (gn (tk 9 r5))), (.int (gn (tk 10 r5))), (.sl (gl (tk 11 r5))), (.int (gn (tk 12 r5))), (.int (gn (tk 13 r5))), (.sl (gl (tk 14 r5))), (.int (gn (tk 15 r5))), (.bool (gb (tk 16 r5)))])).bind (fun r6 => (bif (!(gb r6)) then (some [(.bool Bool.false)]) else (some [(.bool Bool.true)])))))))))))))))))) := (callI_run rfl (by kernel_rfl)).trans (by kernel_rfl)
end Go.Proofs.YtbmafhpbinjgaaaGreat.Vai
namespace Go.Proofs.YtbmafhpbinjgaaaGreat.Vai
open Go
set_option linter.unusedSimpArgs false
set_option linter.unusedVariables false
set_option linter.unnecessarySimpa false
set_option maxRecDepth 10000
theorem pure_FnExactFormatOp : ∀ ds, OkDs tE [.int .i64, .sl 119, .int .i64, .sl 119, .sl 119, .sl 119, .sl 181, .int .i64, .int .i64, .int .i64, .int .i64, .sl 184, .int .i64, .int .i64, .sl 187, .int .i64, .bool] ds → callI tE f_laws_FnExactFormatOp ds = some [.bool true] := by
  intro ds h0
  obtain ⟨_, _, rfl, i0, h1⟩ := OkDs.split (ls1 := [.int .i64, .sl 119, .int .i64, .sl 119, .sl 119, .sl 119, .sl 181, .int .i64, .int .i64, .int .i64, .int .i64, .sl 184, .int .i64, .int .i64, .sl 187, .int .i64, .bool]) (ls2 := []) h0
  obtain ⟨x0, rfl, hx0⟩ := of_Op i0
  obtain rfl := h1.nil_inv
  simp only [Opr.e, List.cons_append, List.nil_append]
  rw [c_laws_FnExactFormatOp, sz_Op x0 1048576 (by omega) (by omega) hx0]
  simp only [gn_c, gb_c, gs_c, gl_c, tk_s, tk_0, List.drop_succ_cons, List.drop_zero, List.headD_cons, List.getD_cons_zero, List.getD_cons_succ, bind_s]
  by_cases hs : (x0.sz : Int) ≤ 1048576
  · have hb2 : x0.B2 := by simp only [Opr.B2]; omega
    have hso := hx0.2.1
    have hnb : x0.so.nb := ⟨hso.2.1, hso.2.2.2.2.2.2.1, hso.2.2.2.2.2.2.2.1, hso.2.2.2.2.2.2.2.2.1, hso.2.2.2.2.2.2.2.2.2⟩
    have e1 := iFormatOp x0 hb2 hnb
    have e2 := sFormatOp x0 hb2 hnb
    simp only [Opr.e] at e1 e2
    rw [szv_ok hs, ltF (by omega), cond_false, to_Op x0 (by omega)]
    simp only [gn_c, gb_c, gs_c, gl_c, tk_s, tk_0, List.drop_succ_cons, List.drop_zero, List.headD_cons, List.getD_cons_zero, List.getD_cons_succ, bind_s, e1, e2, eq_Op x0 x0 (by omega), eqS_self, decide_true, eqBo_self, Bool.not_true, cond_false]
  · rw [szv_no hs]; rfl
end Go.Proofs.YtbmafhpbinjgaaaGreat.Vai
