/- Rows sorted: the whole sort of both programs; no condition. -/
import Derived.Test.YtbmafhpbinjgaaaQ5
namespace Go.Proofs.Ytbmafhpbinjgaaa.Vai
open Go
set_option linter.unusedSimpArgs false
set_option linter.unusedVariables false
set_option linter.unnecessarySimpa false
set_option maxRecDepth 10000
theorem st0 (n : Nat) : ∀ (f : Nat) (r p : List Rw), r.length ≤ f → Blk 20 p → 20 ∣ p.length → n = p.length + r.length → n < 1152921504606846976 →
    ∃ x, x.Perm (p ++ r) ∧ Blk 20 x ∧ L_slices_stableCmpFunc_Row_0 (n : Nat) 20 (p.length : Nat) ((p.length + 20 : Nat) : Int) ((p ++ r).map Rw.e) = L_slices_stableCmpFunc_Row_1 (n : Nat) 20 (x.map Rw.e) := by
  intro f
  induction f with
  | zero =>
    intro r p hf hb hd hn hl
    have : r = [] := List.length_eq_zero_iff.mp (by omega)
    subst this
    simp only [List.length_nil] at hn
    obtain ⟨w, w1, w2, w3⟩ := insSort [] p [] (by simp; omega) (a := p.length) (b := n) rfl (by simp; omega)
    have : w = [] := w1.eq_nil
    subst this
    refine ⟨p, by simp, hb, ?_⟩
    simp only [List.append_nil] at w3 ⊢
    rw [L_slices_stableCmpFunc_Row_0_eq, show leI ((p.length + 20 : Nat) : Int) (n : Nat) = false from leF (by omega), cond_false, w3]
    rfl
  | succ f ih =>
    intro r p hf hb hd hn hl
    by_cases hr : 20 ≤ r.length
    · obtain ⟨r1, r2, rfl, hr1⟩ := cut_at (u := r) (t := 20) hr
      simp only [List.length_append] at hn hf hr
      obtain ⟨w, w1, w2, w3⟩ := insSort r1 p r2 (by simp only [List.length_append]; omega) (a := p.length) (b := p.length + 20) rfl (by omega)
      have hw := w1.length_eq
      obtain ⟨x, x1, x2, x3⟩ := ih r2 (p ++ w) (by omega) (hb.app (by omega) hd w2 (by omega)) (by simp only [List.length_append]; omega) (by simp only [List.length_append]; omega) hl
      refine ⟨x, x1.trans ?_, x2, ?_⟩
      · rw [List.append_assoc]
        exact List.Perm.append_left p (List.Perm.append_right r2 w1)
      · rw [L_slices_stableCmpFunc_Row_0_eq, leT (by omega), cond_true, w3]
        simp only [gn_c, gb_c, gs_c, gl_c, tk_s, tk_0, List.drop_succ_cons, List.drop_zero, List.headD_cons, List.getD_cons_zero, List.getD_cons_succ, bind_s]
        rw [show w64 (((p.length + 20 : Nat) : Int) + 20) = ((p.length + 20 + 20 : Nat) : Int) from w64_add _ 20 (by omega)]
        simp only [List.length_append, hw, hr1, List.append_assoc] at x3
        exact x3
    · obtain ⟨w, w1, w2, w3⟩ := insSort r p [] (by simp; omega) (a := p.length) (b := n) rfl (by omega)
      have hw := w1.length_eq
      refine ⟨p ++ w, List.Perm.append_left p w1, hb.app (by omega) hd w2 (by omega), ?_⟩
      simp only [List.append_nil] at w3
      rw [L_slices_stableCmpFunc_Row_0_eq, leF (by omega), cond_false, w3]
      rfl
theorem w64_dbl (k : Nat) (h : k < 1152921504606846976) : w64 (2 * (k : Int)) = ((2 * k : Nat) : Int) ∧ w64 ((k : Int) * 2) = ((2 * k : Nat) : Int) := by
  constructor <;> (rw [w64_id ⟨by omega, by omega⟩]; omega)
theorem st2 (n k : Nat) (hk : 0 < k) (hk2 : k < 1152921504606846976) : ∀ (f : Nat) (r p : List Rw), r.length ≤ f → Blk (2 * k) p → (2 * k) ∣ p.length → Blk k r → n = p.length + r.length → n < 1152921504606846976 →
    ∃ x, x.Perm (p ++ r) ∧ Blk (2 * k) x ∧ L_slices_stableCmpFunc_Row_2 (n : Nat) (k : Nat) (p.length : Nat) ((p.length + 2 * k : Nat) : Int) ((p ++ r).map Rw.e) = L_slices_stableCmpFunc_Row_1 (n : Nat) ((2 * k : Nat) : Int) (x.map Rw.e) := by
  have small : ∀ (r p : List Rw), r.length ≤ k → Blk (2 * k) p → (2 * k) ∣ p.length → Blk k r → n = p.length + r.length → n < 1152921504606846976 →
      ∃ x, x.Perm (p ++ r) ∧ Blk (2 * k) x ∧ L_slices_stableCmpFunc_Row_2 (n : Nat) (k : Nat) (p.length : Nat) ((p.length + 2 * k : Nat) : Int) ((p ++ r).map Rw.e) = L_slices_stableCmpFunc_Row_1 (n : Nat) ((2 * k : Nat) : Int) (x.map Rw.e) := fun r p h1 hb hd hr hn hl => by
    refine ⟨p ++ r, List.Perm.refl _, hb.app (by omega) hd (hr.srt h1) (by omega), ?_⟩
    rw [L_slices_stableCmpFunc_Row_2_eq, leF (by omega), cond_false, w64_add _ _ (by omega), ltF (by omega), cond_false, (w64_dbl k hk2).2]
  intro f
  induction f with
  | zero => exact fun r p hf hb hd hr hn hl => small r p (by omega) hb hd hr hn hl
  | succ f ih =>
    intro r p hf hb hd hr hn hl
    by_cases h1 : r.length ≤ k
    · exact small r p h1 hb hd hr hn hl
    · obtain ⟨u, r', rfl, hu⟩ := cut_at (u := r) (t := k) (by omega)
      obtain ⟨su, hr'⟩ := hr.cut hk hu
      simp only [List.length_append] at hn hf h1
      by_cases h2 : k ≤ r'.length
      · obtain ⟨v, r2, rfl, hv⟩ := cut_at (u := r') (t := k) h2
        obtain ⟨sv, hr2⟩ := hr'.cut hk hv
        simp only [List.length_append] at hn hf h1 h2
        obtain ⟨w, w1, w2⟩ := mg_ok _ u v p r2 (Nat.le_refl _) (by omega) (by omega) su sv (by simp only [List.length_append]; omega)
        have hw := w1.1.length_eq
        simp only [List.length_append] at hw
        obtain ⟨x, x1, x2, x3⟩ := ih r2 (p ++ w) (by omega) (hb.app (by omega) hd w1.2 (by omega)) (by
          simp only [List.length_append]
          rw [hw, hu, hv, ← Nat.two_mul]
          exact Nat.dvd_add hd (Nat.dvd_refl _)) hr2 (by simp only [List.length_append]; omega) hl
        refine ⟨x, x1.trans ?_, x2, ?_⟩
        · rw [List.append_assoc, ← List.append_assoc u]
          exact List.Perm.append_left p (List.Perm.append_right r2 w1.1)
        · rw [L_slices_stableCmpFunc_Row_2_eq, leT (by omega), cond_true, w64_add _ _ (by omega), w2 _ _ _ rfl (by omega) (by omega)]
          simp only [gn_c, gb_c, gs_c, gl_c, tk_s, tk_0, List.drop_succ_cons, List.drop_zero, List.headD_cons, List.getD_cons_zero, List.getD_cons_succ, bind_s]
          rw [(w64_dbl k hk2).1, w64_add _ _ (by omega)]
          simp only [List.length_append, hw, hu, hv, List.append_assoc, ← Nat.two_mul] at x3
          exact x3
      · have sv := hr'.srt (by omega)
        obtain ⟨w, w1, w2⟩ := mg_ok _ u r' p [] (Nat.le_refl _) (by omega) (by omega) su sv (by simp only [List.length_append, List.length_nil]; omega)
        have hw := w1.1.length_eq
        simp only [List.length_append] at hw
        refine ⟨p ++ w, List.Perm.append_left p w1.1, hb.app (by omega) hd w1.2 (by omega), ?_⟩
        have w2 := w2 (p.length : Nat) ((p.length + k : Nat) : Int) (n : Nat) rfl (by omega) (by omega)
        simp only [List.append_nil] at w2
        rw [L_slices_stableCmpFunc_Row_2_eq, leF (by omega), cond_false, w64_add _ _ (by omega), ltT (by omega), cond_true, w2]
        simp only [gn_c, gb_c, gs_c, gl_c, tk_s, tk_0, List.drop_succ_cons, List.drop_zero, List.headD_cons, List.getD_cons_zero, List.getD_cons_succ, bind_s]
        rw [(w64_dbl k hk2).2]
theorem st1 (n : Nat) (hn : n < 1152921504606846976) : ∀ (f k : Nat) (x : List Rw), 0 < k → n ≤ k + f → k < 1152921504606846976 → Blk k x → x.length = n →
    ∃ y, y.Perm x ∧ Srt y ∧ L_slices_stableCmpFunc_Row_1 (n : Nat) (k : Nat) (x.map Rw.e) = some [.sl (y.map Rw.e)] := by
  intro f
  induction f with
  | zero =>
    intro k x hk hf hk2 hb hx
    refine ⟨x, List.Perm.refl _, hb.srt (by omega), ?_⟩
    rw [L_slices_stableCmpFunc_Row_1_eq, ltF (by omega), cond_false]
  | succ f ih =>
    intro k x hk hf hk2 hb hx
    by_cases h : k < n
    · obtain ⟨y, y1, y2, y3⟩ := st2 n k hk hk2 x.length x [] (Nat.le_refl _) (fun i j hi hj => by simp at hj) (by simp) hb (by simpa using hx.symm) hn
      have hy := y1.length_eq
      simp only [List.nil_append, List.length_nil, Nat.zero_add] at hy y1 y3
      by_cases h3 : 2 * k < 1152921504606846976
      · obtain ⟨z, z1, z2, z3⟩ := ih (2 * k) y (by omega) (by omega) h3 y2 (by omega)
        refine ⟨z, z1.trans y1, z2, ?_⟩
        rw [L_slices_stableCmpFunc_Row_1_eq, ltT (by omega), cond_true, (w64_dbl k hk2).1]
        exact y3.trans z3
      · refine ⟨y, y1, y2.srt (by omega), ?_⟩
        rw [L_slices_stableCmpFunc_Row_1_eq, ltT (by omega), cond_true, (w64_dbl k hk2).1]
        refine y3.trans ?_
        rw [L_slices_stableCmpFunc_Row_1_eq, ltF (by omega), cond_false]
    · refine ⟨x, List.Perm.refl _, hb.srt (by omega), ?_⟩
      rw [L_slices_stableCmpFunc_Row_1_eq, ltF (by omega), cond_false]
/-- the sort of the library -/
theorem sortStable (x : List Rw) (hx : x.length < 1152921504606846976) : ∃ y, y.Perm x ∧ Srt y ∧ callI tE f_slices_SortStableFunc_Row [.sl (x.map Rw.e)] = some [.sl (y.map Rw.e)] := by
  obtain ⟨z, z1, z2, z3⟩ := st0 x.length x.length x [] (Nat.le_refl _) (fun i j hi hj => by simp at hj) (by simp) (by simp) hx
  simp only [List.nil_append, List.length_nil, Nat.zero_add] at z1 z3
  obtain ⟨y, y1, y2, y3⟩ := st1 x.length hx x.length 20 z (by omega) (by omega) (by omega) z2 z1.length_eq
  refine ⟨y, y1.trans z1, y2, ?_⟩
  rw [c_slices_SortStableFunc_Row, lenI_map, c_slices_stableCmpFunc_Row]
  have z3 : L_slices_stableCmpFunc_Row_0 (x.length : Nat) 20 0 20 (x.map Rw.e) = L_slices_stableCmpFunc_Row_1 (x.length : Nat) 20 (z.map Rw.e) := z3
  have y3 : L_slices_stableCmpFunc_Row_1 (x.length : Nat) 20 (z.map Rw.e) = some [.sl (y.map Rw.e)] := y3
  rw [z3, y3]
  rfl
end Go.Proofs.Ytbmafhpbinjgaaa.Vai
