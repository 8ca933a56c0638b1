/- What the law of this claim leans on; no condition. -/
import Derived.Test.YtbmafhpbinjgaaaPkFnExactIsValidCheckpoint1
namespace Go.Proofs.Ytbmafhpbinjgaaa.Vai
open Go
set_option linter.unusedSimpArgs false
set_option linter.unusedVariables false
set_option linter.unnecessarySimpa false
set_option maxRecDepth 10000
def mergeOk (s : So) : Bool := match s.runs with
  | a :: b :: _ => win s.lp 0 a.length && (win s.rp 0 b.length && (decide (s.out = mrg (a.take s.lp.toNat) (b.take s.rp.toNat)) && decide (s.out = (mrg a b).take (s.lp.toNat + s.rp.toNat))))
  | _ => false
def soLate (s : So) : Bool :=
  if s.ph = 2 then mergeOk s
  else if s.ph = 3 then decide (s.runs.length = 1) && (decide (0 ≤ s.lp ∧ s.lp < s.inp.length) && (decide (s.rp = 0) && decide (s.out = [])))
  else if s.ph = 4 then decide (s.runs.length ≤ 1) && (decide (s.lp = s.inp.length) && (decide (s.rp = 0) && decide (s.out = [])))
  else false
def soTail (s : So) : Bool :=
  if s.ph = 1 then decide (s.lp = 0) && (decide (s.rp = 0) && (decide (s.out ≠ [] ∨ s.dfd = []) && (decide (memS s ≤ 60) && bagEq (s.runs.flatten ++ (s.out ++ (s.heap ++ s.dfd))) (s.inp.take s.pos.toNat))))
  else decide (s.pos = s.inp.length) && (decide (s.heap = []) && (decide (s.dfd = []) && (bagEq s.runs.flatten s.inp && soLate s)))
def soOk (s : So) : Bool := aok s.inp && (win s.pos 0 s.inp.length && (s.runs.all runOk && (decide (0 ≤ s.wr) && (isS s.out && ((s.heap.all fun r => !belowB r s.out) && soTail s)))))
def So.B2 (s : So) : Prop := s.sz ≤ 1073741800
theorem So.B2.b {s : So} (h : s.B2) : s.B := by simp only [So.B2, So.B] at *; omega
theorem take_p (l : List Rw) (p : Int) : List.take (tn (p - 0)) (List.drop (tn 0) (l.map Rw.e)) = (l.take p.toNat).map Rw.e := by
  show List.take (p - 0).toNat (List.drop 0 (l.map Rw.e)) = _
  rw [Int.sub_zero, List.drop_zero, List.map_take]
theorem nil_len {α : Type} (l : List α) : decide (l = []) = decide (l.length = 0) := by
  cases l <;> simp
theorem dec_le60 (n : Nat) : leI (n : Int) 60 = decide (n ≤ 60) := by
  unfold leI; congr 1; apply propext; omega
theorem iTail (s : So) (h : s.B2) (hp : win s.pos 0 s.inp.length = true) (x0 : Int) (x1 : Rows) (n : Int) :
    L_impl_IsValidSorter_0 x0 x1 n n (s.inp.map Rw.e) s.pos (s.heap.map Rw.e) (s.dfd.map Rw.e) (s.out.map Rw.e) (s.runs.map rsE) s.lp s.rp s.ph s.wr = some [.bool (soTail s)] := by
  obtain ⟨h1, h2, h3, h4, h5⟩ := h.b.p
  have hpp := win_iff.mp hp
  have hfl := flat_le s.runs
  have hsz : s.inp.length + (s.heap.length + (s.dfd.length + (s.out.length + s.runs.flatten.length))) ≤ 1073741800 := by
    simp only [So.B2, So.sz] at h; omega
  have ht : callI tE f_impl_together [.sl [[.sl (s.runs.flatten.map Rw.e)], [.sl (s.out.map Rw.e)], [.sl (s.heap.map Rw.e)], [.sl (s.dfd.map Rw.e)]]] = some [.sl ((s.runs.flatten ++ (s.out ++ (s.heap ++ s.dfd))).map Rw.e)] := by
    have := iTogether [s.runs.flatten, s.out, s.heap, s.dfd] (by simp only [szL]; omega)
    simpa [rsE] using this
  have hb1 := iBags (s.runs.flatten ++ (s.out ++ (s.heap ++ s.dfd))) (s.inp.take s.pos.toNat) (by (first | omega | (simp only [List.length_append, List.length_cons, List.length_nil, List.length_map, List.length_take, List.length_drop, List.length_replicate, szI_S] at * <;> omega))) (by (first | omega | (simp only [List.length_append, List.length_cons, List.length_nil, List.length_map, List.length_take, List.length_drop, List.length_replicate, szI_S] at * <;> omega)))
  have hb2 := iBags s.runs.flatten s.inp (by omega) (by omega)
  rw [L_impl_IsValidSorter_0_eq, ltF (Int.le_refl n), cond_false]
  simp only [iFlatten s.runs h5, iMem s h.b, gn_c, gb_c, gs_c, gl_c, tk_s, tk_0, List.drop_succ_cons, List.drop_zero, List.headD_cons, List.getD_cons_zero, List.getD_cons_succ, bind_s, ht, hb2, take_p, hb1]
  unfold soTail
  by_cases p1 : s.ph = 1
  · rw [eqT p1, cond_true, if_pos p1]
    by_cases q1 : s.lp = 0
    · rw [eqT q1, cond_true, decide_eq_true q1]
      by_cases q2 : s.rp = 0
      · rw [eqT q2, cond_true, decide_eq_true q2, leT (show 0 ≤ s.pos by omega), show leI s.pos (lenI (s.inp.map Rw.e)) = true by rw [lenI_map]; exact leT (by omega)]
        simp only [Bool.and_self, cond_true, dec_le60, lenI_map]
        by_cases q3 : 0 < s.out.length
        · rw [ltT (by omega), cond_true, decide_eq_true (show s.out ≠ [] ∨ s.dfd = [] from .inl (fun e => by rw [e] at q3; simp at q3))]
          cases decide (memS s ≤ 60) <;> rfl
        · rw [ltF (by omega), cond_false]
          have qo : s.out = [] := List.length_eq_zero_iff.mp (by omega)
          by_cases q4 : s.dfd.length = 0
          · rw [eqT (by omega), cond_true, decide_eq_true (show s.out ≠ [] ∨ s.dfd = [] from .inr (List.length_eq_zero_iff.mp q4))]
            cases decide (memS s ≤ 60) <;> rfl
          · rw [eqF (by omega), cond_false, decide_eq_false (show ¬ (s.out ≠ [] ∨ s.dfd = []) from fun e => e.elim (fun e => e qo) (fun e => q4 (by rw [e]; rfl)))]
            rfl
      · rw [eqF q2, decide_eq_false q2]; rfl
    · rw [eqF q1, decide_eq_false q1]; rfl
  · rw [eqF p1, cond_false, if_neg p1]
    simp only [lenI_map]
    by_cases q1 : s.pos = s.inp.length
    · rw [eqT q1, Bool.not_true, cond_false, decide_eq_true q1]
      by_cases q2 : s.heap.length = 0
      · rw [ltF (by omega), cond_false, nil_len s.heap, decide_eq_true q2]
        by_cases q3 : s.dfd.length = 0
        · rw [ltF (by omega), cond_false, nil_len s.dfd, decide_eq_true q3]
          simp only [Bool.true_and]
          cases bagEq s.runs.flatten s.inp
          · rfl
          · simp only [Bool.not_true, cond_false, Bool.true_and]
            unfold soLate
            by_cases p2 : s.ph = 2
            · rw [eqT p2, cond_true, if_pos p2]
              unfold mergeOk
              cases hr : s.runs with
              | nil => rfl
              | cons a r =>
                cases r with
                | nil => rfl
                | cons b r =>
                  have ha : a.length ≤ 1073741824 := Nat.le_trans (szL_mem' (by rw [hr]; simp)) h5
                  have hb : b.length ≤ 1073741824 := Nat.le_trans (szL_mem' (by rw [hr]; simp)) h5
                  have g0 : at' ((a :: b :: r).map rsE) (tn 0) = rsE a := rfl
                  have g1 : at' ((a :: b :: r).map rsE) (tn 1) = rsE b := rfl
                  have l0 : ltI ((a :: b :: r).length : Int) 2 = false := ltF (by simp; omega)
                  have l1 : inR 0 ((a :: b :: r).length : Int) = true := inRT (by omega) (by simp; omega)
                  have l2 : inR 1 ((a :: b :: r).length : Int) = true := inRT (by omega) (by simp; omega)
                  simp only [l0, l1, l2, cond_true, cond_false, g0, g1, rsE, gn_c, gb_c, gs_c, gl_c, tk_s, tk_0, List.drop_succ_cons, List.drop_zero, List.headD_cons, List.getD_cons_zero, List.getD_cons_succ, bind_s, lenI_map, within_ok]
                  by_cases w1 : win s.lp 0 a.length = true
                  · by_cases w2 : win s.rp 0 b.length = true
                    · have w3 := win_iff.mp w1
                      have w4 := win_iff.mp w2
                      have m1 := iMrg (a.take s.lp.toNat) (b.take s.rp.toNat) (by simp; omega)
                      have m2 := iMrg a b (by omega)
                      have ml := mrg_length a b
                      have e1 := iEqual s.out (mrg (a.take s.lp.toNat) (b.take s.rp.toNat)) (by omega)
                      have e2 := iEqual s.out ((mrg a b).take (s.lp.toNat + s.rp.toNat)) (by omega)
                      have e3 : w64 (s.lp + s.rp) = s.lp + s.rp := w64_id ⟨by omega, by omega⟩
                      have e4 : (s.lp + s.rp).toNat = s.lp.toNat + s.rp.toNat := by omega
                      rw [w1, w2, leT w3.1, leT w3.2, leT w4.1, leT w4.2]
                      simp only [Bool.not_true, cond_false, Bool.and_self, cond_true, take_p, m1, m2, e1, gn_c, gb_c, gs_c, gl_c, tk_s, tk_0, List.drop_succ_cons, List.drop_zero, List.headD_cons, List.getD_cons_zero, List.getD_cons_succ, bind_s, e3, e4, lenI_map, e2]
                      rw [leT (by omega), leT (by rw [ml]; omega)]
                      simp only [Bool.and_self, cond_true, Bool.true_and]
                      cases decide (s.out = mrg (a.take s.lp.toNat) (b.take s.rp.toNat)) <;> rfl
                    · rw [w1, (Bool.not_eq_true _).mp w2]; rfl
                  · rw [(Bool.not_eq_true _).mp w1]; rfl
            · rw [eqF p2, cond_false, if_neg p2]
              by_cases p3 : s.ph = 3
              · rw [eqT p3, cond_true, if_pos p3]
                by_cases w1 : s.runs.length = 1
                · rw [eqT (by omega), cond_true, decide_eq_true w1]
                  simp only [within_ok, win_len (show s.inp.length ≤ 1073741824 by omega), gn_c, gb_c, gs_c, gl_c, tk_s, tk_0, List.drop_succ_cons, List.drop_zero, List.headD_cons, List.getD_cons_zero, List.getD_cons_succ, bind_s, Bool.true_and]
                  by_cases w2 : 0 ≤ s.lp ∧ s.lp < s.inp.length
                  · rw [decide_eq_true w2, cond_true]
                    by_cases w3 : s.rp = 0
                    · rw [eqT w3, cond_true, decide_eq_true w3, nil_len]
                      unfold eqI
                      simp
                    · rw [eqF w3, decide_eq_false w3]; rfl
                  · rw [decide_eq_false w2]; rfl
                · rw [eqF (by omega), decide_eq_false w1]; rfl
              · rw [eqF p3, cond_false, if_neg p3]
                by_cases p4 : s.ph = 4
                · rw [eqT p4, cond_true, if_pos p4]
                  by_cases w1 : s.runs.length ≤ 1
                  · rw [leT (by omega), cond_true, decide_eq_true w1]
                    by_cases w2 : s.lp = s.inp.length
                    · rw [eqT w2, cond_true, decide_eq_true w2]
                      by_cases w3 : s.rp = 0
                      · rw [eqT w3, cond_true, decide_eq_true w3, nil_len]
                        unfold eqI
                        simp
                      · rw [eqF w3, decide_eq_false w3]; rfl
                    · rw [eqF w2, decide_eq_false w2]; rfl
                  · rw [leF (by omega), decide_eq_false w1]; rfl
                · rw [eqF p4, if_neg p4]; rfl
        · rw [ltT (by omega), nil_len s.dfd, decide_eq_false q3]; simp
      · rw [ltT (by omega), nil_len s.heap, decide_eq_false q2]; rfl
    · rw [eqF q1, decide_eq_false q1]; rfl
theorem iValidSo (s : So) (h : s.B2) : callI tE f_impl_IsValidSorter [.sl (s.inp.map Rw.e), .int s.pos, .sl (s.heap.map Rw.e), .sl (s.dfd.map Rw.e), .sl (s.out.map Rw.e), .sl (s.runs.map rsE), .int s.lp, .int s.rp, .int s.ph, .int s.wr] = some [.bool (soOk s)] := by
  obtain ⟨h1, h2, h3, h4, h5⟩ := h.b.p
  rw [c_impl_IsValidSorter]
  simp only [iAreValid, within_ok, lenI_map, iValidRuns s.runs h5, iIsSorted s.out (by omega), gn_c, gb_c, gs_c, gl_c, tk_s, tk_0, List.drop_succ_cons, List.drop_zero, List.headD_cons, List.getD_cons_zero, List.getD_cons_succ, bind_s]
  unfold soOk
  cases aok s.inp
  · rfl
  · by_cases hp : win s.pos 0 s.inp.length = true
    · rw [hp]
      cases s.runs.all runOk
      · rfl
      · by_cases hw : 0 ≤ s.wr
        · rw [ltF hw, decide_eq_true hw]
          cases isS s.out
          · rfl
          · have := all_loop (l := s.heap) (L := fun i => L_impl_IsValidSorter_0 0 (s.heap.map Rw.e) (s.heap.length : Nat) i (s.inp.map Rw.e) s.pos (s.heap.map Rw.e) (s.dfd.map Rw.e) (s.out.map Rw.e) (s.runs.map rsE) s.lp s.rp s.ph s.wr) (p := fun r => !belowB r s.out) (no := some [.bool false]) (yes := some [.bool (soTail s)]) (by omega) (fun u a v e => by
              have hu : u.length < s.heap.length := by rw [e]; simp
              have ha : at' (s.heap.map Rw.e) u.length = a.e := at_i e rfl
              rw [L_impl_IsValidSorter_0_eq, ltT (by omega), cond_true, in_i hu, cond_true]
              simp only [tn_c, ha, gk, gv, gw, iBelow a s.out (by omega), gn_c, gb_c, gs_c, gl_c, tk_s, tk_0, List.drop_succ_cons, List.drop_zero, List.headD_cons, List.getD_cons_zero, List.getD_cons_succ, bind_s]
              cases belowB a s.out <;> rfl) (iTail s h hp 0 _ _)
            refine this.trans ?_
            cases s.heap.all fun r => !belowB r s.out <;> rfl
        · rw [ltT (by omega), decide_eq_false hw]; rfl
    · rw [(Bool.not_eq_true _).mp hp]; rfl
theorem sTail (s : So) (h : s.B2) (hp : win s.pos 0 s.inp.length = true) (x0 : Int) :
    L_spec_IsValidSorter_0 x0 (w64 ((s.out.length : Int) - 1)) (s.heap.length : Nat) (s.inp.map Rw.e) s.pos (s.heap.map Rw.e) (s.dfd.map Rw.e) (s.out.map Rw.e) (s.runs.map rsE) s.lp s.rp s.ph s.wr = some [.bool (soTail s)] := by
  obtain ⟨h1, h2, h3, h4, h5⟩ := h.b.p
  have hpp := win_iff.mp hp
  have hfl := flat_le s.runs
  have hsz : s.inp.length + (s.heap.length + (s.dfd.length + (s.out.length + s.runs.flatten.length))) ≤ 1073741800 := by
    simp only [So.B2, So.sz] at h; omega
  have hb1 := sBags (s.runs.flatten ++ (s.out ++ (s.heap ++ s.dfd))) (s.inp.take s.pos.toNat) (by (first | omega | (simp only [List.length_append, List.length_cons, List.length_nil, List.length_map, List.length_take, List.length_drop, List.length_replicate, szI_S] at * <;> omega))) (by (first | omega | (simp only [List.length_append, List.length_cons, List.length_nil, List.length_map, List.length_take, List.length_drop, List.length_replicate, szI_S] at * <;> omega)))
  have hb2 := sBags s.runs.flatten s.inp (by omega) (by omega)
  have f1 : fitM (s.runs.flatten.length + s.out.length) 24 = true := fitT (by omega)
  have f2 : fitM ((s.runs.flatten ++ s.out).length + s.heap.length) 24 = true := fitT (by (first | omega | (simp only [List.length_append, List.length_cons, List.length_nil, List.length_map, List.length_take, List.length_drop, List.length_replicate, szI_S] at * <;> omega)))
  have f3 : fitM ((s.runs.flatten ++ s.out ++ s.heap).length + s.dfd.length) 24 = true := fitT (by (first | omega | (simp only [List.length_append, List.length_cons, List.length_nil, List.length_map, List.length_take, List.length_drop, List.length_replicate, szI_S] at * <;> omega)))
  have hass : s.runs.flatten ++ s.out ++ s.heap ++ s.dfd = s.runs.flatten ++ (s.out ++ (s.heap ++ s.dfd)) := by simp
  have hlast : leI 0 (w64 ((s.out.length : Int) - 1)) = decide (0 < s.out.length) := by
    rw [w64_id ⟨by omega, by omega⟩]; unfold leI; congr 1; apply propext; omega
  rw [L_spec_IsValidSorter_0_eq, lenI_map, ltF (Int.le_refl _), cond_false]
  simp only [sFlatten s.runs h5, sMem s h.b, gn_c, gb_c, gs_c, gl_c, tk_s, tk_0, List.drop_succ_cons, List.drop_zero, List.headD_cons, List.getD_cons_zero, List.getD_cons_succ, bind_s, hb2, take_p, len_map, app_map2, f1, f2, f3, cond_true, hass, hb1, hlast, lenI_map]
  unfold soTail
  by_cases p1 : s.ph = 1
  · rw [eqT p1, cond_true, if_pos p1]
    by_cases q1 : s.lp = 0
    · rw [eqT q1, cond_true, decide_eq_true q1]
      by_cases q2 : s.rp = 0
      · rw [eqT q2, cond_true, decide_eq_true q2, leT (show 0 ≤ s.pos by omega), leT (show s.pos ≤ s.inp.length by omega)]
        simp only [Bool.and_self, cond_true, dec_le60]
        by_cases q4 : s.dfd.length = 0
        · rw [eqT (by omega), cond_true, decide_eq_true (show s.out ≠ [] ∨ s.dfd = [] from .inr (List.length_eq_zero_iff.mp q4))]
          cases decide (memS s ≤ 60) <;> rfl
        · rw [eqF (by omega), cond_false]
          by_cases q3 : 0 < s.out.length
          · rw [decide_eq_true q3, cond_true, decide_eq_true (show s.out ≠ [] ∨ s.dfd = [] from .inl (fun e => by rw [e] at q3; simp at q3))]
            cases decide (memS s ≤ 60) <;> rfl
          · have qo : s.out = [] := List.length_eq_zero_iff.mp (by omega)
            rw [decide_eq_false q3, cond_false, decide_eq_false (show ¬ (s.out ≠ [] ∨ s.dfd = []) from fun e => e.elim (fun e => e qo) (fun e => q4 (by rw [e]; rfl)))]
            rfl
      · rw [eqF q2, decide_eq_false q2]; rfl
    · rw [eqF q1, decide_eq_false q1]; rfl
  · rw [eqF p1, cond_false, if_neg p1]
    by_cases q1 : s.pos = s.inp.length
    · rw [eqT q1, Bool.not_true, cond_false, decide_eq_true q1, w64_id (n := (s.heap.length : Int) + (s.dfd.length : Int)) ⟨by omega, by omega⟩]
      by_cases q2 : s.heap.length = 0
      · by_cases q3 : s.dfd.length = 0
        · rw [ltF (by omega), cond_false, nil_len s.heap, decide_eq_true q2, nil_len s.dfd, decide_eq_true q3]
          simp only [Bool.true_and]
          unfold soLate
          by_cases p2 : s.ph = 2
          · rw [eqT p2, cond_true, if_pos p2]
            unfold mergeOk
            cases hr : s.runs with
            | nil => simp [ltI]
            | cons a r =>
              cases r with
              | nil => simp [ltI]
              | cons b r =>
                have ha : a.length ≤ 1073741824 := Nat.le_trans (szL_mem' (by rw [hr]; simp)) h5
                have hb : b.length ≤ 1073741824 := Nat.le_trans (szL_mem' (by rw [hr]; simp)) h5
                have g0 : at' ((a :: b :: r).map rsE) (tn 0) = rsE a := rfl
                have g1 : at' ((a :: b :: r).map rsE) (tn 1) = rsE b := rfl
                have l0 : ltI ((a :: b :: r).length : Int) 2 = false := ltF (by simp; omega)
                have l1 : inR 0 ((a :: b :: r).length : Int) = true := inRT (by omega) (by simp; omega)
                have l2 : inR 1 ((a :: b :: r).length : Int) = true := inRT (by omega) (by simp; omega)
                simp only [l0, l1, l2, cond_true, cond_false, g0, g1, rsE, gn_c, gb_c, gs_c, gl_c, tk_s, tk_0, List.drop_succ_cons, List.drop_zero, List.headD_cons, List.getD_cons_zero, List.getD_cons_succ, bind_s, lenI_map, l1In_ok]
                by_cases w1 : win s.lp 0 a.length = true
                · by_cases w2 : win s.rp 0 b.length = true
                  · have w3 := win_iff.mp w1
                    have w4 := win_iff.mp w2
                    have m1 := sMrg (a.take s.lp.toNat) (b.take s.rp.toNat) (by simp; omega)
                    have m2 := sMrg a b (by omega)
                    have ml := mrg_length a b
                    have ml2 := mrg_length (a.take s.lp.toNat) (b.take s.rp.toNat)
                    simp only [List.length_take] at ml2
                    have e1 := sEqual (mrg (a.take s.lp.toNat) (b.take s.rp.toNat)) s.out (by omega)
                    have e2 := sEqual s.out ((mrg a b).take (s.lp.toNat + s.rp.toNat)) (by omega)
                    have e3 : w64 (s.lp + s.rp) = s.lp + s.rp := w64_id ⟨by omega, by omega⟩
                    have e4 : (s.lp + s.rp).toNat = s.lp.toNat + s.rp.toNat := by omega
                    have e5 : decide (mrg (a.take s.lp.toNat) (b.take s.rp.toNat) = s.out) = decide (s.out = mrg (a.take s.lp.toNat) (b.take s.rp.toNat)) := by
                      congr 1; exact propext ⟨fun e => e.symm, fun e => e.symm⟩
                    rw [w1, w2, leT w3.1, leT w3.2, leT w4.1, leT w4.2]
                    simp only [Bool.not_true, cond_false, Bool.and_self, cond_true, take_p, m1, m2, gn_c, gb_c, gs_c, gl_c, tk_s, tk_0, List.drop_succ_cons, List.drop_zero, List.headD_cons, List.getD_cons_zero, List.getD_cons_succ, bind_s, e3, e4, lenI_map, e2, e1]
                    rw [leT (by omega), leT (by rw [ml]; omega), e5]
                    simp only [Bool.and_self, cond_true, Bool.true_and]
                    cases decide (s.out = (mrg a b).take (s.lp.toNat + s.rp.toNat)) <;> cases decide (s.out = mrg (a.take s.lp.toNat) (b.take s.rp.toNat)) <;> simp
                  · rw [w1, (Bool.not_eq_true _).mp w2]; simp
                · rw [(Bool.not_eq_true _).mp w1]; simp
          · rw [eqF p2, cond_false, if_neg p2]
            by_cases w1 : s.runs.length ≤ 1
            · rw [ltF (by omega), cond_false]
              by_cases w2 : s.rp = 0
              · rw [eqT w2, Bool.not_true, cond_false, decide_eq_true w2]
                by_cases w3 : s.out.length = 0
                · rw [ltF (by omega), cond_false, nil_len s.out, decide_eq_true w3]
                  cases bagEq s.runs.flatten s.inp
                  · rfl
                  · simp only [Bool.not_true, cond_false, Bool.true_and, Bool.and_true]
                    by_cases p3 : s.ph = 3
                    · rw [eqT p3, cond_true, if_pos p3]
                      by_cases w4 : s.runs.length = 1
                      · rw [eqT (by omega), cond_true, decide_eq_true w4]
                        simp only [l1In_ok, win_len (show s.inp.length ≤ 1073741824 by omega), gn_c, gb_c, gs_c, gl_c, tk_s, tk_0, List.drop_succ_cons, List.drop_zero, List.headD_cons, List.getD_cons_zero, List.getD_cons_succ, bind_s, Bool.true_and]
                      · rw [eqF (by omega), decide_eq_false w4]; rfl
                    · rw [eqF p3, cond_false, if_neg p3]
                      by_cases p4 : s.ph = 4
                      · rw [eqT p4, cond_true, if_pos p4, decide_eq_true w1]
                        unfold eqI
                        simp
                      · rw [eqF p4, if_neg p4]; rfl
                · rw [ltT (by omega), nil_len s.out, decide_eq_false w3]
                  simp
              · rw [eqF w2, decide_eq_false w2]
                simp
            · rw [ltT (by omega), decide_eq_false w1, decide_eq_false (show ¬ s.runs.length = 1 by omega)]
              simp
        · rw [ltT (by omega), nil_len s.dfd, decide_eq_false q3]; simp
      · rw [ltT (by omega), nil_len s.heap, decide_eq_false q2]; simp
    · rw [eqF q1, decide_eq_false q1]; rfl
theorem sValidSo (s : So) (h : s.B2) : callI tE f_spec_IsValidSorter [.sl (s.inp.map Rw.e), .int s.pos, .sl (s.heap.map Rw.e), .sl (s.dfd.map Rw.e), .sl (s.out.map Rw.e), .sl (s.runs.map rsE), .int s.lp, .int s.rp, .int s.ph, .int s.wr] = some [.bool (soOk s)] := by
  obtain ⟨h1, h2, h3, h4, h5⟩ := h.b.p
  rw [c_spec_IsValidSorter]
  simp only [sAreValid s.inp (by omega), l1In_ok, lenI_map, sValidRuns s.runs h5, sIsSorted s.out (by omega), gn_c, gb_c, gs_c, gl_c, tk_s, tk_0, List.drop_succ_cons, List.drop_zero, List.headD_cons, List.getD_cons_zero, List.getD_cons_succ, bind_s]
  unfold soOk
  cases aok s.inp
  · rfl
  · by_cases hp : win s.pos 0 s.inp.length = true
    · rw [hp]
      cases s.runs.all runOk
      · rfl
      · by_cases hw : 0 ≤ s.wr
        · rw [ltF hw, decide_eq_true hw]
          cases isS s.out
          · rfl
          · have hlast : leI 0 (w64 ((s.out.length : Int) - 1)) = decide (0 < s.out.length) := by
              rw [w64_id ⟨by omega, by omega⟩]; unfold leI; congr 1; apply propext; omega
            have := all_loop (l := s.heap) (L := fun i => L_spec_IsValidSorter_0 0 (w64 ((s.out.length : Int) - 1)) i (s.inp.map Rw.e) s.pos (s.heap.map Rw.e) (s.dfd.map Rw.e) (s.out.map Rw.e) (s.runs.map rsE) s.lp s.rp s.ph s.wr) (p := fun r => !belowB r s.out) (no := some [.bool false]) (yes := some [.bool (soTail s)]) (by omega) (fun u a v e => by
              have hu : u.length < s.heap.length := by rw [e]; simp
              have ha : at' (s.heap.map Rw.e) u.length = a.e := at_i e rfl
              rw [L_spec_IsValidSorter_0_eq, lenI_map, ltT (by omega), cond_true, hlast]
              rcases snoc_or s.out with ho | ⟨q, x, ho⟩
              · rw [ho, belowB_nil]; rfl
              · have hx : at' (s.out.map Rw.e) q.length = x.e := at_i (u := q) (v := []) (by rw [ho]) rfl
                have hql : s.out.length = q.length + 1 := by rw [ho]; simp
                have hl2 : w64 ((s.out.length : Int) - 1) = (q.length : Int) := by rw [w64_id ⟨by omega, by omega⟩]; omega
                rw [decide_eq_true (by omega : 0 < s.out.length), cond_true, hl2, inRT (by omega) (by omega), in_i (by omega)]
                simp only [cond_true, tn_c, ha, hx, gk, gv, gw, sCompare, gn_c, gb_c, gs_c, gl_c, tk_s, tk_0, List.drop_succ_cons, List.drop_zero, List.headD_cons, List.getD_cons_zero, List.getD_cons_succ, bind_s, lt_cmp0]
                rw [show belowB a s.out = decide (Rw.lt a x) by rw [ho, belowB_snoc]]
                cases decide (Rw.lt a x) <;> rfl) (sTail s h hp 0)
            refine this.trans ?_
            cases s.heap.all fun r => !belowB r s.out <;> rfl
        · rw [ltT (by omega), decide_eq_false hw]; rfl
    · rw [(Bool.not_eq_true _).mp hp]; rfl
def remS (s : So) : Int := if soOk s then (if s.ph = 3 ∨ s.ph = 4 then w64 ((s.inp.length : Int) - s.lp) else s.inp.length) else 0
theorem iRem (s : So) (h : s.B2) : callI tE f_impl_RemainingRows [.sl (s.inp.map Rw.e), .int s.pos, .sl (s.heap.map Rw.e), .sl (s.dfd.map Rw.e), .sl (s.out.map Rw.e), .sl (s.runs.map rsE), .int s.lp, .int s.rp, .int s.ph, .int s.wr] = some [.int (remS s)] := by
  rw [c_impl_RemainingRows, iValidSo s h]
  simp only [gn_c, gb_c, gs_c, gl_c, tk_s, tk_0, List.drop_succ_cons, List.drop_zero, List.headD_cons, List.getD_cons_zero, List.getD_cons_succ, bind_s, lenI_map]
  unfold remS
  by_cases hv : soOk s = true
  · rw [hv, if_pos rfl]
    by_cases p3 : s.ph = 3
    · rw [eqT p3, if_pos (.inl p3)]; rfl
    · rw [eqF p3]
      by_cases p4 : s.ph = 4
      · rw [eqT p4, if_pos (.inr p4)]; rfl
      · rw [eqF p4, if_neg (fun e => e.elim p3 p4)]; rfl
  · rw [(Bool.not_eq_true _).mp hv]; rfl
theorem sRem (s : So) (h : s.B2) : callI tE f_spec_RemainingRows [.sl (s.inp.map Rw.e), .int s.pos, .sl (s.heap.map Rw.e), .sl (s.dfd.map Rw.e), .sl (s.out.map Rw.e), .sl (s.runs.map rsE), .int s.lp, .int s.rp, .int s.ph, .int s.wr] = some [.int (remS s)] := by
  rw [c_spec_RemainingRows, sValidSo s h]
  simp only [gn_c, gb_c, gs_c, gl_c, tk_s, tk_0, List.drop_succ_cons, List.drop_zero, List.headD_cons, List.getD_cons_zero, List.getD_cons_succ, bind_s, lenI_map]
  unfold remS
  by_cases hv : soOk s = true
  · rw [hv, if_pos rfl]
    by_cases p3 : s.ph = 3
    · rw [eqT p3, if_pos (.inl p3)]; rfl
    · rw [eqF p3]
      by_cases p4 : s.ph = 4
      · rw [eqT p4, if_pos (.inr p4)]; rfl
      · rw [eqF p4, if_neg (fun e => e.elim p3 p4)]; rfl
  · rw [(Bool.not_eq_true _).mp hv]; rfl
def ckOk (c : Ck) : Bool := soOk c.so && (aok c.em && (decide (w64 ((c.em.length : Int) + remS c.so) = c.so.inp.length) && decide (c.em = (isort c.so.inp).take c.em.length)))
def Ck.B2 (c : Ck) : Prop := c.sz ≤ 1073741800
theorem rem_nn {s : So} (h : s.B2) : 0 ≤ remS s ∧ remS s ≤ s.inp.length := by
  obtain ⟨h1, h2, h3, h4, h5⟩ := h.b.p
  unfold remS
  by_cases hv : soOk s = true
  · rw [if_pos hv]
    by_cases hp : s.ph = 3 ∨ s.ph = 4
    · rw [if_pos hp]
      have hlp : 0 ≤ s.lp ∧ s.lp ≤ s.inp.length := by
        simp only [soOk, Bool.and_eq_true] at hv
        have ht := hv.2.2.2.2.2.2
        unfold soTail at ht
        rw [if_neg (by omega)] at ht
        simp only [Bool.and_eq_true] at ht
        have hl := ht.2.2.2.2
        unfold soLate at hl
        rw [if_neg (by omega)] at hl
        by_cases p3 : s.ph = 3
        · rw [if_pos p3] at hl
          simp only [Bool.and_eq_true, decide_eq_true_eq] at hl
          omega
        · rw [if_neg p3, if_pos (by omega)] at hl
          simp only [Bool.and_eq_true, decide_eq_true_eq] at hl
          omega
      rw [w64_id ⟨by omega, by omega⟩]
      omega
    · rw [if_neg hp]; omega
  · rw [if_neg hv]; omega
theorem iValidCk (c : Ck) (h : c.B2) : callI tE f_impl_IsValidCheckpoint [.sl (c.so.inp.map Rw.e), .int c.so.pos, .sl (c.so.heap.map Rw.e), .sl (c.so.dfd.map Rw.e), .sl (c.so.out.map Rw.e), .sl (c.so.runs.map rsE), .int c.so.lp, .int c.so.rp, .int c.so.ph, .int c.so.wr, .sl (c.em.map Rw.e)] = some [.bool (ckOk c)] := by
  have hso : c.so.B2 := by simp only [Ck.B2, Ck.sz, So.B2] at *; omega
  have hem : c.em.length ≤ 1073741824 := by simp only [Ck.B2, Ck.sz] at h; omega
  obtain ⟨h1, h2, h3, h4, h5⟩ := hso.b.p
  have hr := rem_nn hso
  rw [c_impl_IsValidCheckpoint]
  simp only [iValidSo c.so hso, iAreValid, iRem c.so hso, iSort c.so.inp (by omega), gn_c, gb_c, gs_c, gl_c, tk_s, tk_0, List.drop_succ_cons, List.drop_zero, List.headD_cons, List.getD_cons_zero, List.getD_cons_succ, bind_s, lenI_map]
  unfold ckOk
  cases soOk c.so
  · rfl
  · cases aok c.em
    · rfl
    · simp only [cond_true, Bool.true_and]
      by_cases hq : w64 ((c.em.length : Int) + remS c.so) = c.so.inp.length
      · rw [eqT hq, decide_eq_true hq]
        rw [w64_id ⟨by omega, by omega⟩] at hq
        rw [leT (by omega), leT (by rw [isort_len]; omega)]
        simp only [Bool.and_self, cond_true, take_e, iEqual c.em _ (show c.em.length ≤ 1152921504606846976 by omega), gn_c, gb_c, gs_c, gl_c, tk_s, tk_0, List.drop_succ_cons, List.drop_zero, List.headD_cons, List.getD_cons_zero, List.getD_cons_succ, bind_s, Bool.true_and]
      · rw [eqF hq, decide_eq_false hq]; rfl
theorem sValidCk (c : Ck) (h : c.B2) : callI tE f_spec_IsValidCheckpoint [.sl (c.so.inp.map Rw.e), .int c.so.pos, .sl (c.so.heap.map Rw.e), .sl (c.so.dfd.map Rw.e), .sl (c.so.out.map Rw.e), .sl (c.so.runs.map rsE), .int c.so.lp, .int c.so.rp, .int c.so.ph, .int c.so.wr, .sl (c.em.map Rw.e)] = some [.bool (ckOk c)] := by
  have hso : c.so.B2 := by simp only [Ck.B2, Ck.sz, So.B2] at *; omega
  have hem : c.em.length ≤ 1073741824 := by simp only [Ck.B2, Ck.sz] at h; omega
  obtain ⟨h1, h2, h3, h4, h5⟩ := hso.b.p
  have hr := rem_nn hso
  rw [c_spec_IsValidCheckpoint]
  simp only [sValidSo c.so hso, sAreValid c.em (by omega), sRem c.so hso, sSort c.so.inp (by omega), gn_c, gb_c, gs_c, gl_c, tk_s, tk_0, List.drop_succ_cons, List.drop_zero, List.headD_cons, List.getD_cons_zero, List.getD_cons_succ, bind_s, lenI_map]
  unfold ckOk
  cases soOk c.so
  · rfl
  · cases aok c.em
    · rfl
    · simp only [Bool.not_true, cond_false, Bool.true_and]
      by_cases hq : w64 ((c.em.length : Int) + remS c.so) = c.so.inp.length
      · rw [eqT hq, decide_eq_true hq]
        rw [w64_id ⟨by omega, by omega⟩] at hq
        rw [leT (by omega), leT (by rw [isort_len]; omega)]
        simp only [Bool.not_true, cond_false, Bool.and_self, cond_true, take_e, sEqual c.em _ (show c.em.length ≤ 1152921504606846976 by omega), gn_c, gb_c, gs_c, gl_c, tk_s, tk_0, List.drop_succ_cons, List.drop_zero, List.headD_cons, List.getD_cons_zero, List.getD_cons_succ, bind_s, Bool.true_and]
      · rw [eqF hq, decide_eq_false hq]; rfl
end Go.Proofs.Ytbmafhpbinjgaaa.Vai
namespace Go.Proofs.Ytbmafhpbinjgaaa.Vai
open Go
set_option linter.unusedSimpArgs false
set_option linter.unusedVariables false
set_option linter.unnecessarySimpa false
theorem szv_ok {n : Int} {s : Nat} (h : (s : Int) ≤ n) : szv n s = n - s := if_pos h
theorem szv_no {n : Int} {s : Nat} (h : ¬ (s : Int) ≤ n) : szv n s = -1 := if_neg h
end Go.Proofs.Ytbmafhpbinjgaaa.Vai
namespace Go.Proofs.Ytbmafhpbinjgaaa.Vai
open Go
set_option linter.unusedSimpArgs false
set_option linter.unusedVariables false
set_option linter.unnecessarySimpa false
set_option maxRecDepth 10000
theorem of_sl {α : Type} {e : α → List Dat} {p : α → Prop} {t : TypeId} {te : TI} (ht : tE.T t = some te) (hp : 0 < te.by_) (hE : ∀ {ds : List Dat}, OkDs tE te.ls ds → ∃ x, ds = e x ∧ p x) {d : Dat} (h : OkD tE (.sl t) d) : ∃ l : List α, d = .sl (l.map e) ∧ BdL p l := by
  obtain ⟨rows, rfl, hn, hr⟩ := h.sl' ht
  have key : ∀ rows : Rows, (∀ r ∈ rows, OkDs tE te.ls r) → ∃ l : List α, rows = l.map e ∧ ∀ a ∈ l, p a := by
    intro rows
    induction rows with
    | nil => intro _; exact ⟨[], rfl, fun a ha => by cases ha⟩
    | cons r rows ih =>
      intro hr
      obtain ⟨l, h1, h2⟩ := ih (fun q hq => hr q (List.mem_cons_of_mem _ hq))
      obtain ⟨x, h3, h4⟩ := hE (hr r (by simp))
      exact ⟨x :: l, by rw [h1, h3]; rfl, fun a ha => (List.mem_cons.mp ha).elim (fun e => e ▸ h4) (h2 a)⟩
  obtain ⟨l, h1, h2⟩ := key rows hr
  refine ⟨l, by rw [h1], ?_, h2⟩
  have : rows.length = l.length := by rw [h1]; simp
  have h3 : rows.length ≤ reachBytes := Nat.le_trans (Nat.le_mul_of_pos_right _ hp) hn
  have h4 : reachBytes ≤ 1152921504606846976 := by decide
  omega
theorem OkDs.split {ls1 ls2 : List Leaf} {ds : List Dat} (h : OkDs tE (ls1 ++ ls2) ds) : ∃ d1 d2, ds = d1 ++ d2 ∧ OkDs tE ls1 d1 ∧ OkDs tE ls2 d2 := by
  induction ls1 generalizing ds with
  | nil => exact ⟨[], ds, rfl, .nil, h⟩
  | cons l ls ih =>
    obtain ⟨d, r, rfl, h1, h2⟩ := h.inv
    obtain ⟨d1, d2, rfl, h3, h4⟩ := ih h2
    exact ⟨d :: d1, d2, rfl, .cons _ _ _ _ h1 h3, h4⟩
theorem of_Row {ds : List Dat} (h : OkDs tE [.int .i64, .int .i64, .int .i64] ds) : ∃ x : Rw, ds = Rw.e x ∧ Rw.bd x := by
  obtain ⟨_, _, rfl, i0, h⟩ := h.inv
  obtain ⟨_, _, rfl, i1, h⟩ := h.inv
  obtain ⟨_, _, rfl, i2, h⟩ := h.inv
  obtain rfl := h.nil_inv
  obtain ⟨n0, rfl, j0⟩ := i0.i64
  obtain ⟨n1, rfl, j1⟩ := i1.i64
  obtain ⟨n2, rfl, j2⟩ := i2.i64
  exact ⟨⟨n0, n1, n2⟩, rfl, ⟨j0, j1, j2⟩⟩
theorem of_Run {ds : List Dat} (h : OkDs tE [.sl 65] ds) : ∃ x : List Rw, ds = rsE x ∧ rsB x := by
  obtain ⟨_, _, rfl, i0, h⟩ := h.inv
  obtain rfl := h.nil_inv
  obtain ⟨n0, rfl, j0⟩ := of_sl (te := ⟨[.int .i64, .int .i64, .int .i64], 24, true, [(0, 3), (1, 3), (2, 3)]⟩) rfl (by decide) of_Row i0
  exact ⟨n0, rfl, j0⟩
theorem of_Checkpoint {ds : List Dat} (h : OkDs tE [.sl 65, .int .i64, .sl 65, .sl 65, .sl 65, .sl 314, .int .i64, .int .i64, .int .i64, .int .i64, .sl 65] ds) : ∃ x : Ck, ds = Ck.e x ∧ Ck.bd x := by
  obtain ⟨_, _, rfl, i0, h⟩ := h.inv
  obtain ⟨_, _, rfl, i1, h⟩ := h.inv
  obtain ⟨_, _, rfl, i2, h⟩ := h.inv
  obtain ⟨_, _, rfl, i3, h⟩ := h.inv
  obtain ⟨_, _, rfl, i4, h⟩ := h.inv
  obtain ⟨_, _, rfl, i5, h⟩ := h.inv
  obtain ⟨_, _, rfl, i6, h⟩ := h.inv
  obtain ⟨_, _, rfl, i7, h⟩ := h.inv
  obtain ⟨_, _, rfl, i8, h⟩ := h.inv
  obtain ⟨_, _, rfl, i9, h⟩ := h.inv
  obtain ⟨_, _, rfl, i10, h⟩ := h.inv
  obtain rfl := h.nil_inv
  obtain ⟨n0, rfl, j0⟩ := of_sl (te := ⟨[.int .i64, .int .i64, .int .i64], 24, true, [(0, 3), (1, 3), (2, 3)]⟩) rfl (by decide) of_Row i0
  obtain ⟨n1, rfl, j1⟩ := i1.i64
  obtain ⟨n2, rfl, j2⟩ := of_sl (te := ⟨[.int .i64, .int .i64, .int .i64], 24, true, [(0, 3), (1, 3), (2, 3)]⟩) rfl (by decide) of_Row i2
  obtain ⟨n3, rfl, j3⟩ := of_sl (te := ⟨[.int .i64, .int .i64, .int .i64], 24, true, [(0, 3), (1, 3), (2, 3)]⟩) rfl (by decide) of_Row i3
  obtain ⟨n4, rfl, j4⟩ := of_sl (te := ⟨[.int .i64, .int .i64, .int .i64], 24, true, [(0, 3), (1, 3), (2, 3)]⟩) rfl (by decide) of_Row i4
  obtain ⟨n5, rfl, j5⟩ := of_sl (te := ⟨[.sl 65], 24, true, [(0, 58)]⟩) rfl (by decide) of_Run i5
  obtain ⟨n6, rfl, j6⟩ := i6.i64
  obtain ⟨n7, rfl, j7⟩ := i7.i64
  obtain ⟨n8, rfl, j8⟩ := i8.i64
  obtain ⟨n9, rfl, j9⟩ := i9.i64
  obtain ⟨n10, rfl, j10⟩ := of_sl (te := ⟨[.int .i64, .int .i64, .int .i64], 24, true, [(0, 3), (1, 3), (2, 3)]⟩) rfl (by decide) of_Row i10
  exact ⟨⟨⟨n0, n1, n2, n3, n4, n5, n6, n7, n8, n9⟩, n10⟩, rfl, ⟨⟨j0, j1, j2, j3, j4, j5, j6, j7, j8, j9⟩, j10⟩⟩
end Go.Proofs.Ytbmafhpbinjgaaa.Vai
namespace Go.Proofs.Ytbmafhpbinjgaaa.Vai
open Go
set_option linter.unusedSimpArgs false
set_option linter.unusedVariables false
set_option linter.unnecessarySimpa false
set_option maxRecDepth 10000
theorem to_Row (x : Rw) : callI tE f_laws_toRow [.int x.k, .int x.v, .int x.w] = some [.int x.k, .int x.v, .int x.w] := by
  simp only [c_laws_toRow, gn_c, gb_c, gs_c, gl_c, tk_s, tk_0, List.drop_succ_cons, List.drop_zero, List.headD_cons, List.getD_cons_zero, List.getD_cons_succ, bind_s]
theorem to_RowS (l : List Rw) (h : l.length ≤ 1048576) : callI tE f_laws_toRowS [.sl (l.map Rw.e)] = some [.sl (l.map Rw.e)] := by
  have hl : l.length ≤ 1048576 := h
  rw [c_laws_toRowS]
  have := to_loop (L := L_laws_toRowS_0) (e := Rw.e) (z := [.int 0, .int 0, .int 0]) (P := fun a => (fun _ => 0) a ≤ 1048576) (fun p q p' q' a _ hpl hlt => by
    rw [L_laws_toRowS_0_eq]
    simp only [lt_mid, in_mid, tn_c, at_mid, cond_true, cond_false, gn_c, gb_c, gs_c, gl_c, tk_s, tk_0, List.drop_succ_cons, List.drop_zero, List.headD_cons, List.getD_cons_zero, List.getD_cons_succ, bind_s, in_mid' hpl, upd_mid' hpl, Rw.e, to_Row a, setRange, List.set_cons_zero, List.set_cons_succ]) (fun p p' hpl => by
    rw [L_laws_toRowS_0_eq, lt_end, cond_false]) l [] [] rfl (fun a ha => Nat.zero_le _) (by simp; omega)
  simp only [List.nil_append, List.length_nil, Int.ofNat_zero, Int.natCast_zero] at this
  rw [le0_len, eqI_self, fitT (by show (l.map Rw.e).length * _ ≤ _; rw [List.length_map]; omega)]
  simp only [Bool.and_self, cond_true]
  rw [show tn (lenI (l.map Rw.e)) = l.length by show (l.map Rw.e).length = _; simp]
  exact this
theorem sz_RowS (l : List Rw) (n : Int) (h0 : 0 ≤ n) (h1 : n ≤ 1048576) (h : BdL Rw.bd l) : callI tE f_laws_szRowS [.sl (l.map Rw.e), .int n] = some [.int (szv n l.length)] := by
  rw [c_laws_szRowS]
  exact sz_flat h0 h1 (by simp) h.1
theorem eq_Row (x y : Rw) : callI tE f_laws_eqRow [.int x.k, .int x.v, .int x.w, .int y.k, .int y.v, .int y.w] = some [.bool (decide (x = y))] := by
  have e : decide (x = y) = (decide (x.k = y.k) && (decide (x.v = y.v) && (decide (x.w = y.w)))) := by
    cases x; cases y
    simp only [Rw.mk.injEq, Bool.decide_and]
  simp only [gn_c, gb_c, gs_c, gl_c, tk_s, tk_0, List.drop_succ_cons, List.drop_zero, List.headD_cons, List.getD_cons_zero, List.getD_cons_succ, bind_s, eqI, eqBo, e, bif_and, Bool.and_true, c_laws_eqRow]
theorem eq_RowS (l l' : List Rw) (h : l.length ≤ 1152921504606846976) : callI tE f_laws_eqRowS [.sl (l.map Rw.e), .sl (l'.map Rw.e)] = some [.bool (decide (l = l'))] := by
  have hl : l.length ≤ 1152921504606846976 := h
  rw [c_laws_eqRowS]
  by_cases hll : l.length = l'.length
  · rw [eq_len hll, Bool.not_true, cond_false]
    have := eq_loop (L := L_laws_eqRowS_0) (e := Rw.e) (P := fun a => (fun _ => 0) a ≤ 1152921504606846976) (fun p q p' q' a b _ hpl hlt => by
      rw [L_laws_eqRowS_0_eq]
      simp only [lt_mid, in_mid, tn_c, at_mid, cond_true, cond_false, gn_c, gb_c, gs_c, gl_c, tk_s, tk_0, List.drop_succ_cons, List.drop_zero, List.headD_cons, List.getD_cons_zero, List.getD_cons_succ, bind_s, in_mid' hpl, at_mid' hpl, Rw.e, eq_Row a b, bifn]) (fun p p' hpl => by
      rw [L_laws_eqRowS_0_eq, lt_end, cond_false]) l l' [] [] rfl hll (fun a ha => Nat.zero_le _) (by simp; omega)
    simpa using this
  · rw [ne_len hll, Bool.not_false, cond_true, decide_eq_false (fun e => hll (by rw [e]))]
end Go.Proofs.Ytbmafhpbinjgaaa.Vai
namespace Go.Proofs.Ytbmafhpbinjgaaa.Vai
open Go
set_option linter.unusedSimpArgs false
set_option linter.unusedVariables false
set_option linter.unnecessarySimpa false
set_option maxRecDepth 10000
theorem to_Run (x : List Rw) (h : x.length ≤ 1048576) : callI tE f_laws_toRun [.sl (x.map Rw.e)] = some [.sl (x.map Rw.e)] := by
  simp only [c_laws_toRun, to_RowS x (by exact h), gn_c, gb_c, gs_c, gl_c, tk_s, tk_0, List.drop_succ_cons, List.drop_zero, List.headD_cons, List.getD_cons_zero, List.getD_cons_succ, bind_s]
theorem to_RunS (l : List (List Rw)) (h : szL List.length l ≤ 1048576) : callI tE f_laws_toRunS [.sl (l.map rsE)] = some [.sl (l.map rsE)] := by
  have hl : l.length ≤ 1048576 := (Nat.le_trans (szL_len _ _) h)
  rw [c_laws_toRunS]
  have := to_loop (L := L_laws_toRunS_0) (e := rsE) (z := [.sl []]) (P := fun a => List.length a ≤ 1048576) (fun p q p' q' a hP hpl hlt => by
    rw [L_laws_toRunS_0_eq]
    simp only [lt_mid, in_mid, tn_c, at_mid, cond_true, cond_false, gn_c, gb_c, gs_c, gl_c, tk_s, tk_0, List.drop_succ_cons, List.drop_zero, List.headD_cons, List.getD_cons_zero, List.getD_cons_succ, bind_s, in_mid' hpl, upd_mid' hpl, rsE, to_Run a hP, setRange, List.set_cons_zero, List.set_cons_succ]) (fun p p' hpl => by
    rw [L_laws_toRunS_0_eq, lt_end, cond_false]) l [] [] rfl (fun a ha => Nat.le_trans (szL_mem ha) h) (by simp; omega)
  simp only [List.nil_append, List.length_nil, Int.ofNat_zero, Int.natCast_zero] at this
  rw [le0_len, eqI_self, fitT (by show (l.map rsE).length * _ ≤ _; rw [List.length_map]; omega)]
  simp only [Bool.and_self, cond_true]
  rw [show tn (lenI (l.map rsE)) = l.length by show (l.map rsE).length = _; simp]
  exact this
theorem sz_Run (x : List Rw) (n : Int) (h0 : 0 ≤ n) (h1 : n ≤ 1048576) (h : rsB x) : callI tE f_laws_szRun [.sl (x.map Rw.e), .int n] = some [.int (szv n (x.length))] := by
  rw [c_laws_szRun]
  have b0 : BdL Rw.bd x := h
  rw [sz_RowS x n (by omega) (by omega) b0]
  simp only [gn_c, gb_c, gs_c, gl_c, tk_s, tk_0, List.drop_succ_cons, List.drop_zero, List.headD_cons, List.getD_cons_zero, List.getD_cons_succ, bind_s]
  exact sz_last (by omega)
theorem sz_RunS (l : List (List Rw)) (n : Int) (h0 : 0 ≤ n) (h1 : n ≤ 1048576) (h : BdL rsB l) : callI tE f_laws_szRunS [.sl (l.map rsE), .int n] = some [.int (szv n (szL List.length l))] := by
  have hl : l.length ≤ 1152921504606846976 := h.1
  rw [c_laws_szRunS, szL_cnt]
  refine sz_len (X := fun m => L_laws_szRunS_0 (l.map rsE) m 0) h0 h1 (List.length_map _) hl fun h2 => ?_
  have := sz_loop (L := L_laws_szRunS_0) (e := rsE) (g := List.length) (P := rsB) (fun p q a n hP h0 h1 hlt => by
    rw [L_laws_szRunS_0_eq]
    simp only [lt_mid, in_mid, tn_c, at_mid, cond_true, cond_false, gn_c, gb_c, gs_c, gl_c, tk_s, tk_0, List.drop_succ_cons, List.drop_zero, List.headD_cons, List.getD_cons_zero, List.getD_cons_succ, bind_s, rsE, sz_Run a n h0 h1 hP]) (fun p n => by
    rw [L_laws_szRunS_0_eq, lt_end, cond_false]) l [] (n - l.length) (fun a ha => h.2 a ha) (by omega) (by omega) (by simp; omega)
  simpa using this
theorem eq_Run (x y : List Rw) (h : x.length ≤ 1152921504606846976) : callI tE f_laws_eqRun [.sl (x.map Rw.e), .sl (y.map Rw.e)] = some [.bool (decide (x = y))] := by
  simp only [c_laws_eqRun, eq_RowS x y h, gn_c, gb_c, gs_c, gl_c, tk_s, tk_0, List.drop_succ_cons, List.drop_zero, List.headD_cons, List.getD_cons_zero, List.getD_cons_succ, bind_s, bif_and, Bool.and_true]
theorem eq_RunS (l l' : List (List Rw)) (h : szL List.length l ≤ 1152921504606846976) : callI tE f_laws_eqRunS [.sl (l.map rsE), .sl (l'.map rsE)] = some [.bool (decide (l = l'))] := by
  have hl : l.length ≤ 1152921504606846976 := (Nat.le_trans (szL_len _ _) h)
  rw [c_laws_eqRunS]
  by_cases hll : l.length = l'.length
  · rw [eq_len hll, Bool.not_true, cond_false]
    have := eq_loop (L := L_laws_eqRunS_0) (e := rsE) (P := fun a => List.length a ≤ 1152921504606846976) (fun p q p' q' a b hP hpl hlt => by
      rw [L_laws_eqRunS_0_eq]
      simp only [lt_mid, in_mid, tn_c, at_mid, cond_true, cond_false, gn_c, gb_c, gs_c, gl_c, tk_s, tk_0, List.drop_succ_cons, List.drop_zero, List.headD_cons, List.getD_cons_zero, List.getD_cons_succ, bind_s, in_mid' hpl, at_mid' hpl, rsE, eq_Run a b hP, bifn]) (fun p p' hpl => by
      rw [L_laws_eqRunS_0_eq, lt_end, cond_false]) l l' [] [] rfl hll (fun a ha => Nat.le_trans (szL_mem ha) h) (by simp; omega)
    simpa using this
  · rw [ne_len hll, Bool.not_false, cond_true, decide_eq_false (fun e => hll (by rw [e]))]
theorem eq_Sorter (x y : So) (h : x.sz ≤ 1152921504606846976) : callI tE f_laws_eqSorter [.sl (x.inp.map Rw.e), .int x.pos, .sl (x.heap.map Rw.e), .sl (x.dfd.map Rw.e), .sl (x.out.map Rw.e), .sl (x.runs.map rsE), .int x.lp, .int x.rp, .int x.ph, .int x.wr, .sl (y.inp.map Rw.e), .int y.pos, .sl (y.heap.map Rw.e), .sl (y.dfd.map Rw.e), .sl (y.out.map Rw.e), .sl (y.runs.map rsE), .int y.lp, .int y.rp, .int y.ph, .int y.wr] = some [.bool (decide (x = y))] := by
  have e : decide (x = y) = (decide (x.inp = y.inp) && (decide (x.pos = y.pos) && (decide (x.heap = y.heap) && (decide (x.dfd = y.dfd) && (decide (x.out = y.out) && (decide (x.runs = y.runs) && (decide (x.lp = y.lp) && (decide (x.rp = y.rp) && (decide (x.ph = y.ph) && (decide (x.wr = y.wr))))))))))) := by
    cases x; cases y
    simp only [So.mk.injEq, Bool.decide_and]
  simp only [eq_RowS x.inp y.inp (by simp only [So.sz] at h; omega), eq_RowS x.heap y.heap (by simp only [So.sz] at h; omega), eq_RowS x.dfd y.dfd (by simp only [So.sz] at h; omega), eq_RowS x.out y.out (by simp only [So.sz] at h; omega), eq_RunS x.runs y.runs (by simp only [So.sz] at h; omega), gn_c, gb_c, gs_c, gl_c, tk_s, tk_0, List.drop_succ_cons, List.drop_zero, List.headD_cons, List.getD_cons_zero, List.getD_cons_succ, bind_s, eqI, eqBo, e, bif_and, Bool.and_true, c_laws_eqSorter]
theorem to_Sorter (x : So) (h : x.sz ≤ 1048576) : callI tE f_laws_toSorter [.sl (x.inp.map Rw.e), .int x.pos, .sl (x.heap.map Rw.e), .sl (x.dfd.map Rw.e), .sl (x.out.map Rw.e), .sl (x.runs.map rsE), .int x.lp, .int x.rp, .int x.ph, .int x.wr] = some [.sl (x.inp.map Rw.e), .int x.pos, .sl (x.heap.map Rw.e), .sl (x.dfd.map Rw.e), .sl (x.out.map Rw.e), .sl (x.runs.map rsE), .int x.lp, .int x.rp, .int x.ph, .int x.wr] := by
  simp only [c_laws_toSorter, to_RowS x.inp (by simp only [So.sz] at h; omega), to_RowS x.heap (by simp only [So.sz] at h; omega), to_RowS x.dfd (by simp only [So.sz] at h; omega), to_RowS x.out (by simp only [So.sz] at h; omega), to_RunS x.runs (by simp only [So.sz] at h; omega), gn_c, gb_c, gs_c, gl_c, tk_s, tk_0, List.drop_succ_cons, List.drop_zero, List.headD_cons, List.getD_cons_zero, List.getD_cons_succ, bind_s]
theorem sz_Sorter (x : So) (n : Int) (h0 : 0 ≤ n) (h1 : n ≤ 1048576) (h : x.bd) : callI tE f_laws_szSorter [.sl (x.inp.map Rw.e), .int x.pos, .sl (x.heap.map Rw.e), .sl (x.dfd.map Rw.e), .sl (x.out.map Rw.e), .sl (x.runs.map rsE), .int x.lp, .int x.rp, .int x.ph, .int x.wr, .int n] = some [.int (szv n (x.sz))] := by
  rw [c_laws_szSorter]
  simp only [So.sz]
  obtain ⟨b0, _, b2, b3, b4, b5, _, _, _, _⟩ := h
  rw [sz_RowS x.inp n (by omega) (by omega) b0]
  simp only [gn_c, gb_c, gs_c, gl_c, tk_s, tk_0, List.drop_succ_cons, List.drop_zero, List.headD_cons, List.getD_cons_zero, List.getD_cons_succ, bind_s]
  refine sz_chain (by omega) fun h0 g0 => ?_
  rw [g0]
  rw [sz_RowS x.heap (n - (x.inp.length : Nat)) (by omega) (by omega) b2]
  simp only [gn_c, gb_c, gs_c, gl_c, tk_s, tk_0, List.drop_succ_cons, List.drop_zero, List.headD_cons, List.getD_cons_zero, List.getD_cons_succ, bind_s]
  refine sz_chain (by omega) fun h1 g1 => ?_
  rw [g1]
  rw [sz_RowS x.dfd (n - (x.inp.length : Nat) - (x.heap.length : Nat)) (by omega) (by omega) b3]
  simp only [gn_c, gb_c, gs_c, gl_c, tk_s, tk_0, List.drop_succ_cons, List.drop_zero, List.headD_cons, List.getD_cons_zero, List.getD_cons_succ, bind_s]
  refine sz_chain (by omega) fun h2 g2 => ?_
  rw [g2]
  rw [sz_RowS x.out (n - (x.inp.length : Nat) - (x.heap.length : Nat) - (x.dfd.length : Nat)) (by omega) (by omega) b4]
  simp only [gn_c, gb_c, gs_c, gl_c, tk_s, tk_0, List.drop_succ_cons, List.drop_zero, List.headD_cons, List.getD_cons_zero, List.getD_cons_succ, bind_s]
  refine sz_chain (by omega) fun h3 g3 => ?_
  rw [g3]
  rw [sz_RunS x.runs (n - (x.inp.length : Nat) - (x.heap.length : Nat) - (x.dfd.length : Nat) - (x.out.length : Nat)) (by omega) (by omega) b5]
  simp only [gn_c, gb_c, gs_c, gl_c, tk_s, tk_0, List.drop_succ_cons, List.drop_zero, List.headD_cons, List.getD_cons_zero, List.getD_cons_succ, bind_s]
  exact sz_last (by omega)
theorem to_Checkpoint (x : Ck) (h : x.sz ≤ 1048576) : callI tE f_laws_toCheckpoint [.sl (x.so.inp.map Rw.e), .int x.so.pos, .sl (x.so.heap.map Rw.e), .sl (x.so.dfd.map Rw.e), .sl (x.so.out.map Rw.e), .sl (x.so.runs.map rsE), .int x.so.lp, .int x.so.rp, .int x.so.ph, .int x.so.wr, .sl (x.em.map Rw.e)] = some [.sl (x.so.inp.map Rw.e), .int x.so.pos, .sl (x.so.heap.map Rw.e), .sl (x.so.dfd.map Rw.e), .sl (x.so.out.map Rw.e), .sl (x.so.runs.map rsE), .int x.so.lp, .int x.so.rp, .int x.so.ph, .int x.so.wr, .sl (x.em.map Rw.e)] := by
  simp only [c_laws_toCheckpoint, to_Sorter x.so (by simp only [Ck.sz] at h; omega), to_RowS x.em (by simp only [Ck.sz] at h; omega), gn_c, gb_c, gs_c, gl_c, tk_s, tk_0, List.drop_succ_cons, List.drop_zero, List.headD_cons, List.getD_cons_zero, List.getD_cons_succ, bind_s]
theorem sz_Checkpoint (x : Ck) (n : Int) (h0 : 0 ≤ n) (h1 : n ≤ 1048576) (h : x.bd) : callI tE f_laws_szCheckpoint [.sl (x.so.inp.map Rw.e), .int x.so.pos, .sl (x.so.heap.map Rw.e), .sl (x.so.dfd.map Rw.e), .sl (x.so.out.map Rw.e), .sl (x.so.runs.map rsE), .int x.so.lp, .int x.so.rp, .int x.so.ph, .int x.so.wr, .sl (x.em.map Rw.e), .int n] = some [.int (szv n (x.sz))] := by
  rw [c_laws_szCheckpoint]
  simp only [Ck.sz]
  obtain ⟨b0, b1⟩ := h
  rw [sz_Sorter x.so n (by omega) (by omega) b0]
  simp only [gn_c, gb_c, gs_c, gl_c, tk_s, tk_0, List.drop_succ_cons, List.drop_zero, List.headD_cons, List.getD_cons_zero, List.getD_cons_succ, bind_s]
  refine sz_chain (by omega) fun h0 g0 => ?_
  rw [g0]
  rw [sz_RowS x.em (n - (x.so.sz : Nat)) (by omega) (by omega) b1]
  simp only [gn_c, gb_c, gs_c, gl_c, tk_s, tk_0, List.drop_succ_cons, List.drop_zero, List.headD_cons, List.getD_cons_zero, List.getD_cons_succ, bind_s]
  exact sz_last (by omega)
theorem eq_Checkpoint (x y : Ck) (h : x.sz ≤ 1152921504606846976) : callI tE f_laws_eqCheckpoint [.sl (x.so.inp.map Rw.e), .int x.so.pos, .sl (x.so.heap.map Rw.e), .sl (x.so.dfd.map Rw.e), .sl (x.so.out.map Rw.e), .sl (x.so.runs.map rsE), .int x.so.lp, .int x.so.rp, .int x.so.ph, .int x.so.wr, .sl (x.em.map Rw.e), .sl (y.so.inp.map Rw.e), .int y.so.pos, .sl (y.so.heap.map Rw.e), .sl (y.so.dfd.map Rw.e), .sl (y.so.out.map Rw.e), .sl (y.so.runs.map rsE), .int y.so.lp, .int y.so.rp, .int y.so.ph, .int y.so.wr, .sl (y.em.map Rw.e)] = some [.bool (decide (x = y))] := by
  have e : decide (x = y) = (decide (x.so = y.so) && (decide (x.em = y.em))) := by
    cases x; cases y
    simp only [Ck.mk.injEq, Bool.decide_and]
  simp only [eq_Sorter x.so y.so (by simp only [Ck.sz] at h; omega), eq_RowS x.em y.em (by simp only [Ck.sz] at h; omega), gn_c, gb_c, gs_c, gl_c, tk_s, tk_0, List.drop_succ_cons, List.drop_zero, List.headD_cons, List.getD_cons_zero, List.getD_cons_succ, bind_s, eqI, eqBo, e, bif_and, Bool.and_true, c_laws_eqCheckpoint]
end Go.Proofs.Ytbmafhpbinjgaaa.Vai
namespace Go.Proofs.Ytbmafhpbinjgaaa.Vai
open Go
set_option linter.unusedSimpArgs false
set_option linter.unusedVariables false
set_option linter.unnecessarySimpa false
set_option maxRecDepth 100000
theorem c_laws_FnExactIsValidCheckpoint (a0 : List (List Dat)) (a1 : Int) (a2 : List (List Dat)) (a3 : List (List Dat)) (a4 : List (List Dat)) (a5 : List (List Dat)) (a6 : Int) (a7 : Int) (a8 : Int) (a9 : Int) (a10 : List (List Dat)) : callI tE f_laws_FnExactIsValidCheckpoint [.sl a0, .int a1, .sl a2, .sl a3, .sl a4, .sl a5, .int a6, .int a7, .int a8, .int a9, .sl a10] = (((callI tE f_laws_szCheckpoint [(.sl a0), (.int a1), (.sl a2), (.sl a3), (.sl a4), (.sl a5), (.int a6), (.int a7), (.int a8), (.int a9), (.sl a10), (.int 1048576)])).bind (fun r0 => (bif (ltI (gn r0) 0) then (some [(.bool Bool.true)]) else (((callI tE f_laws_toCheckpoint [(.sl a0), (.int a1), (.sl a2), (.sl a3), (.sl a4), (.sl a5), (.int a6), (.int a7), (.int a8), (.int a9), (.sl a10)])).bind (fun r1 => (((callI tE f_spec_IsValidCheckpoint [(.sl (gl r1)), (.int (gn (tk 1 r1))), (.sl (gl (tk 2 r1))), (.sl (gl (tk 3 r1))), (.sl (gl (tk 4 r1))), (.sl (gl (tk 5 r1))), (.int (gn (tk 6 r1))), (.int (gn (tk 7 r1))), (.int (gn (tk 8 r1))), (.int (gn (tk 9 r1))), (.sl (gl (tk 10 r1)))])).bind (fun r2 => (((callI tE f_laws_toCheckpoint [(.sl a0), (.int a1), (.sl a2), (.sl a3), (.sl a4), (.sl a5), (.int a6), (.int a7), (.int a8), (.int a9), (.sl a10)])).bind (fun r3 => (((callI tE f_impl_IsValidCheckpoint [(.sl (gl r3)), (.int (gn (tk 1 r3))), (.sl (gl (tk 2 r3))), (.sl (gl (tk 3 r3))), (.sl (gl (tk 4 r3))), (.sl (gl (tk 5 r3))), (.int (gn (tk 6 r3))), (.int (gn (tk 7 r3))), (.int (gn (tk 8 r3))), (.int (gn (tk 9 r3))), (.sl (gl (tk 10 r3)))])).bind (fun r4 => (bif (!(eqBo (gb r4) (gb r2))) then (some [(.bool Bool.false)]) else (((callI tE f_laws_toCheckpoint [(.sl a0), (.int a1), (.sl a2), (.sl a3), (.sl a4), (.sl a5), (.int a6), (.int a7), (.int a8), (.int a9), (.sl a10)])).bind (fun r5 => (((callI tE f_laws_eqCheckpoint [(.sl (gl r3)), (.int (gn (tk 1 r3))), (.sl (gl (tk 2 r3))), (.sl (gl (tk 3 r3))), (.sl (gl (tk 4 r3))), (.sl (gl (tk 5 r3))), (.int (gn (tk 6 r3))), (.int (gn (tk 7 r3))), (.int (gn (tk 8 r3))), (.int (gn (tk 9 r3))), (.sl (gl (tk 10 r3))), (.sl (gl r5)), (.int (gn (tk 1 r5))), (.sl (gl (tk 2 r5))), (.sl (gl (tk 3 r5))), (.sl (gl (tk 4 r5))), (.sl (gl (tk 5 r5))), (.int (gn (tk 6 r5))), (.int (gn (tk 7 r5))), (.int (gn (tk 8 r5))), (.int (gn (tk 9 r5))), (.sl (gl (tk 10 r5)))])).bind (fun r6 => (bif (!(gb r6)) then (some [(.bool Bool.false)]) else (some [(.bool Bool.true)])))))))))))))))))) := (callI_run rfl (by kernel_rfl)).trans (by kernel_rfl)
end Go.Proofs.Ytbmafhpbinjgaaa.Vai
namespace Go.Proofs.Ytbmafhpbinjgaaa.Vai
open Go
set_option linter.unusedSimpArgs false
set_option linter.unusedVariables false
set_option linter.unnecessarySimpa false
set_option maxRecDepth 10000
theorem pure_FnExactIsValidCheckpoint : ∀ ds, OkDs tE [.sl 65, .int .i64, .sl 65, .sl 65, .sl 65, .sl 314, .int .i64, .int .i64, .int .i64, .int .i64, .sl 65] ds → callI tE f_laws_FnExactIsValidCheckpoint ds = some [.bool true] := by
  intro ds h0
  obtain ⟨_, _, rfl, i0, h1⟩ := OkDs.split (ls1 := [.sl 65, .int .i64, .sl 65, .sl 65, .sl 65, .sl 314, .int .i64, .int .i64, .int .i64, .int .i64, .sl 65]) (ls2 := []) h0
  obtain ⟨x0, rfl, hx0⟩ := of_Checkpoint i0
  obtain rfl := h1.nil_inv
  show callI tE f_laws_FnExactIsValidCheckpoint [.sl (x0.so.inp.map Rw.e), .int x0.so.pos, .sl (x0.so.heap.map Rw.e), .sl (x0.so.dfd.map Rw.e), .sl (x0.so.out.map Rw.e), .sl (x0.so.runs.map rsE), .int x0.so.lp, .int x0.so.rp, .int x0.so.ph, .int x0.so.wr, .sl (x0.em.map Rw.e)] = _
  rw [c_laws_FnExactIsValidCheckpoint, sz_Checkpoint x0 1048576 (by omega) (by omega) hx0]
  simp only [gn_c, gb_c, gs_c, gl_c, tk_s, tk_0, List.drop_succ_cons, List.drop_zero, List.headD_cons, List.getD_cons_zero, List.getD_cons_succ, bind_s]
  by_cases hs : (x0.sz : Int) ≤ 1048576
  · have hb2 : x0.B2 := by simp only [Ck.B2]; omega
    rw [szv_ok hs, ltF (by omega), cond_false, to_Checkpoint x0 (by omega)]
    have e4 := eq_Checkpoint x0 x0 (by omega)
    simp only [gn_c, gb_c, gs_c, gl_c, tk_s, tk_0, List.drop_succ_cons, List.drop_zero, List.headD_cons, List.getD_cons_zero, List.getD_cons_succ, bind_s, iValidCk x0 hb2, sValidCk x0 hb2, e4, eqBo_self, decide_true, Bool.not_true, cond_false]
  · rw [szv_no hs]; rfl
end Go.Proofs.Ytbmafhpbinjgaaa.Vai
