/- Rows swapped, ranges turned; no condition. -/
import Derived.Test.YtbmafhpbinjgaaaEqG
import Derived.Test.YtbmafhpbinjgaaaP1
namespace Go.Proofs.Ytbmafhpbinjgaaa.Vai
open Go
set_option linter.unusedSimpArgs false
set_option linter.unusedVariables false
set_option linter.unnecessarySimpa false
set_option maxRecDepth 10000
theorem rw_of (r : Rw) : [Dat.int r.k, .int r.v, .int r.w] = r.e := rfl
theorem upd_rw (u v : List Rw) (a d : Rw) : updR ((u ++ a :: v).map Rw.e) u.length 0 d.e = (u ++ d :: v).map Rw.e := by
  rw [upd_m]
  have : setRange (Rw.e a) 0 d.e = d.e := rfl
  rw [this]
  simp
theorem gk (r : Rw) : gn r.e = r.k := rfl
theorem gv (r : Rw) : gn (tk 1 r.e) = r.v := rfl
theorem gw (r : Rw) : gn (tk 2 r.e) = r.w := rfl
theorem at_i {α : Type} {e : α → List Dat} {l u v : List α} {a : α} {i : Nat} (h : l = u ++ a :: v) (hi : u.length = i) : at' (l.map e) i = e a := by rw [h, ← hi]; exact at_m u v a
theorem in_i {α : Type} {e : α → List Dat} {l : List α} {i : Nat} (hi : i < l.length) : inR (i : Int) (lenI (l.map e)) = true := inRT (by omega) (by rw [lenI_map]; omega)
theorem upd_i {l u v : List Rw} {a d : Rw} {i : Nat} (h : l = u ++ a :: v) (hi : u.length = i) : updR (l.map Rw.e) i 0 [.int d.k, .int d.v, .int d.w] = (u ++ d :: v).map Rw.e := by rw [h, ← hi]; exact upd_rw u v a d
/-- two rows change places -/
theorem swap_eq {l p q s : List Rw} {a b : Rw} {i j : Nat} (h : l = p ++ a :: (q ++ b :: s)) (hi : p.length = i) (hj : p.length + 1 + q.length = j) (hl : l.length < 4611686018427387904) {X : Option (List Dat)} {K : Rows → Option (List Dat)} (hK : K ((p ++ b :: (q ++ a :: s)).map Rw.e) = X) :
    (bif inR (j : Int) (lenI (l.map Rw.e)) then (bif inR (i : Int) (lenI (l.map Rw.e)) then (bif inR (i : Int) (lenI (l.map Rw.e)) then
      (bif inR (j : Int) (lenI (updR (l.map Rw.e) (tn (i : Int)) 0 [.int (gn (at' (l.map Rw.e) (tn (j : Int)))), .int (gn (tk 1 (at' (l.map Rw.e) (tn (j : Int))))), .int (gn (tk 2 (at' (l.map Rw.e) (tn (j : Int)))))])) then
        K (updR (updR (l.map Rw.e) (tn (i : Int)) 0 [.int (gn (at' (l.map Rw.e) (tn (j : Int)))), .int (gn (tk 1 (at' (l.map Rw.e) (tn (j : Int))))), .int (gn (tk 2 (at' (l.map Rw.e) (tn (j : Int)))))]) (tn (j : Int)) 0 [.int (gn (at' (l.map Rw.e) (tn (i : Int)))), .int (gn (tk 1 (at' (l.map Rw.e) (tn (i : Int))))), .int (gn (tk 2 (at' (l.map Rw.e) (tn (i : Int)))))])
        else none) else none) else none) else none) = X := by
  have hb : at' (l.map Rw.e) j = b.e := at_i (u := p ++ a :: q) (v := s) (by rw [h]; simp) (by simp; omega)
  have ha : at' (l.map Rw.e) i = a.e := at_i h hi
  have hlen : l.length = p.length + 1 + q.length + 1 + s.length := by rw [h]; simp; omega
  have h1 : updR (l.map Rw.e) i 0 [.int b.k, .int b.v, .int b.w] = (p ++ b :: (q ++ b :: s)).map Rw.e := upd_i h hi
  have h2 : updR ((p ++ b :: (q ++ b :: s)).map Rw.e) j 0 [.int a.k, .int a.v, .int a.w] = (p ++ b :: (q ++ a :: s)).map Rw.e := by
    rw [upd_i (u := p ++ b :: q) (v := s) (a := b) (by simp) (by simp; omega)]
    simp
  simp only [tn_c, hb, ha, gk, gv, gw, h1, h2]
  rw [in_i (by omega), in_i (by omega), in_i (by simp; omega)]
  exact hK
theorem swapRange_ok : ∀ (u2 v2 : List Rw) (p u1 q v1 s : List Rw), u2.length = v2.length → u1.length = v1.length → (p ++ (v1 ++ (u2 ++ (q ++ (u1 ++ (v2 ++ s)))))).length < 4611686018427387904 →
    L_slices_swapRangeCmpFunc_Row_0 (p.length : Nat) ((p.length + v1.length + u2.length + q.length : Nat) : Int) ((v1.length + u2.length : Nat) : Int) (v1.length : Nat) ((p ++ (v1 ++ (u2 ++ (q ++ (u1 ++ (v2 ++ s)))))).map Rw.e) =
      some [.sl ((p ++ (v1 ++ (v2 ++ (q ++ (u1 ++ (u2 ++ s)))))).map Rw.e)]
  | [], [], p, u1, q, v1, s, _, _, _ => by
    rw [L_slices_swapRangeCmpFunc_Row_0_eq, ltF (by simp), cond_false]
  | [], _ :: _, _, _, _, _, _, h, _, _ => by simp at h
  | _ :: _, [], _, _, _, _, _, h, _, _ => by simp at h
  | c :: u2, d :: v2, p, u1, q, v1, s, h, h2, hl => by
    have hl' := hl
    simp only [List.length_append, List.length_cons] at hl' h
    rw [L_slices_swapRangeCmpFunc_Row_0_eq, ltT (by simp only [List.length_cons]; omega), cond_true]
    rw [show w64 ((p.length : Int) + (v1.length : Nat)) = ((p.length + v1.length : Nat) : Int) by rw [w64_id ⟨by omega, by omega⟩]; omega]
    rw [show w64 (((p.length + v1.length + (c :: u2).length + q.length : Nat) : Int) + (v1.length : Nat)) = ((p.length + v1.length + (c :: u2).length + q.length + v1.length : Nat) : Int) by simp only [List.length_cons]; rw [w64_id ⟨by omega, by omega⟩]; omega]
    refine swap_eq (l := p ++ (v1 ++ (c :: u2 ++ (q ++ (u1 ++ (d :: v2 ++ s)))))) (p := p ++ v1) (q := u2 ++ (q ++ u1)) (s := v2 ++ s) (a := c) (b := d) (by simp) (by simp) (by simp; omega) hl
      (K := fun X => L_slices_swapRangeCmpFunc_Row_0 (p.length : Nat) ((p.length + v1.length + (c :: u2).length + q.length : Nat) : Int) ((v1.length + (c :: u2).length : Nat) : Int) (w64 ((v1.length : Nat) + 1)) X) ?_
    have ih := swapRange_ok u2 v2 p (u1 ++ [c]) q (v1 ++ [d]) s (by omega) (by simp [h2]) (by simp only [List.length_append, List.length_cons, List.length_nil]; omega)
    show L_slices_swapRangeCmpFunc_Row_0 _ _ _ _ _ = _
    rw [w64_s (by omega)]
    have e1 : (p ++ v1 ++ d :: (u2 ++ (q ++ u1) ++ c :: (v2 ++ s))) = (p ++ (v1 ++ [d] ++ (u2 ++ (q ++ (u1 ++ [c] ++ (v2 ++ s)))))) := by simp
    have e2 : (p ++ (v1 ++ (d :: v2 ++ (q ++ (u1 ++ (c :: u2 ++ s)))))) = (p ++ (v1 ++ [d] ++ (v2 ++ (q ++ (u1 ++ [c] ++ (u2 ++ s)))))) := by simp
    rw [e1, e2, ← ih]
    congr 1 <;> simp only [List.length_append, List.length_cons, List.length_nil] <;> omega
theorem swapRange (p u q v s : List Rw) (h : u.length = v.length) (hl : (p ++ (u ++ (q ++ (v ++ s)))).length < 4611686018427387904) {a b n : Int} (ha : a = (p.length : Nat)) (hb : b = ((p.length + u.length + q.length : Nat) : Int)) (hn : n = (u.length : Nat)) :
    callI tE f_slices_swapRangeCmpFunc_Row [.sl ((p ++ (u ++ (q ++ (v ++ s)))).map Rw.e), .int a, .int b, .int n] = some [.sl ((p ++ (v ++ (q ++ (u ++ s)))).map Rw.e)] := by
  rw [c_slices_swapRangeCmpFunc_Row, ha, hb, hn]
  have := swapRange_ok u v p [] q [] s h rfl (by simpa using hl)
  simp only [List.nil_append, List.length_nil, Nat.add_zero, Nat.zero_add] at this
  exact this
/-- two neighbours turn -/
theorem rotate_ok : ∀ (n : Nat) (u v p s : List Rw) (a m b : Int) (m0 : Nat), u.length + v.length ≤ n → 0 < u.length → 0 < v.length → (p ++ (u ++ (v ++ s))).length < 1152921504606846976 → m0 = p.length + u.length → m = (m0 : Nat) →
    L_slices_rotateCmpFunc_Row_0 a m b (u.length : Nat) (v.length : Nat) ((p ++ (u ++ (v ++ s))).map Rw.e) = some [.sl ((p ++ (v ++ (u ++ s))).map Rw.e)] := by
  intro n
  induction n with
  | zero => intro u v p s a m b m0 h h1 h2; omega
  | succ n ih =>
    intro u v p s a m b m0 h h1 h2 hl hm0 hm
    have hl' := hl
    simp only [List.length_append] at hl'
    rw [L_slices_rotateCmpFunc_Row_0_eq, hm]
    have e0 : w64 ((m0 : Int) - (u.length : Nat)) = (p.length : Nat) := by rw [w64_id ⟨by omega, by omega⟩]; omega
    by_cases he : u.length = v.length
    · have := swapRange p u [] v s he (by simp only [List.length_append, List.length_nil]; omega) (a := (p.length : Nat)) (b := (m0 : Nat)) (n := (u.length : Nat)) rfl (by simp only [List.length_nil]; omega) rfl
      simp only [List.nil_append] at this
      rw [eqT (by omega), Bool.not_true, cond_false, e0, this]
      rfl
    · rw [eqF (by omega), Bool.not_false, cond_true]
      by_cases hlt : v.length < u.length
      · rw [ltT (by omega), cond_true, e0]
        obtain ⟨u1, u2, rfl, hu1⟩ : ∃ u1 u2, u = u1 ++ u2 ∧ u1.length = v.length := ⟨u.take v.length, u.drop v.length, (List.take_append_drop _ _).symm, by simp; omega⟩
        simp only [List.length_append] at *
        have := swapRange p u1 u2 v s hu1 (by simp only [List.length_append]; omega) (a := (p.length : Nat)) (b := (m0 : Nat)) (n := (v.length : Nat)) rfl (by omega) (by omega)
        rw [show p ++ (u1 ++ u2 ++ (v ++ s)) = p ++ (u1 ++ (u2 ++ (v ++ s))) by simp, this]
        simp only [gn_c, gb_c, gs_c, gl_c, tk_s, tk_0, List.drop_succ_cons, List.drop_zero, List.headD_cons, List.getD_cons_zero, List.getD_cons_succ, bind_s]
        rw [show w64 (((u1.length + u2.length : Nat) : Int) - (v.length : Nat)) = (u2.length : Nat) by rw [w64_id ⟨by omega, by omega⟩]; omega]
        have := ih u2 u1 (p ++ v) s a m b m0 (by omega) (by omega) (by omega) (by simp only [List.length_append]; omega) (by simp only [List.length_append]; omega) hm
        rw [hm, hu1] at this
        rw [show p ++ (v ++ (u2 ++ (u1 ++ s))) = p ++ v ++ (u2 ++ (u1 ++ s)) by simp, this]
        simp
      · rw [ltF (by omega), cond_false, e0]
        obtain ⟨v1, v2, rfl, hv2⟩ : ∃ v1 v2, v = v1 ++ v2 ∧ v2.length = u.length := ⟨v.take (v.length - u.length), v.drop (v.length - u.length), (List.take_append_drop _ _).symm, by simp; omega⟩
        simp only [List.length_append] at *
        have e1 : w64 (w64 ((m0 : Int) + ((v1.length + v2.length : Nat) : Int)) - (u.length : Nat)) = ((p.length + u.length + v1.length : Nat) : Int) := by
          rw [w64_id (n := (m0 : Int) + ((v1.length + v2.length : Nat) : Int)) ⟨by omega, by omega⟩, w64_id ⟨by omega, by omega⟩]; omega
        have := swapRange p u v1 v2 s hv2.symm (by simp only [List.length_append]; omega) (a := (p.length : Nat)) (b := ((p.length + u.length + v1.length : Nat) : Int)) (n := (u.length : Nat)) rfl rfl rfl
        rw [e1, show p ++ (u ++ (v1 ++ v2 ++ s)) = p ++ (u ++ (v1 ++ (v2 ++ s))) by simp, this]
        simp only [gn_c, gb_c, gs_c, gl_c, tk_s, tk_0, List.drop_succ_cons, List.drop_zero, List.headD_cons, List.getD_cons_zero, List.getD_cons_succ, bind_s]
        rw [show w64 (((v1.length + v2.length : Nat) : Int) - (u.length : Nat)) = (v1.length : Nat) by rw [w64_id ⟨by omega, by omega⟩]; omega]
        have := ih v2 v1 p (u ++ s) a m b m0 (by omega) (by omega) (by omega) (by simp only [List.length_append]; omega) (by omega) hm
        rw [hm, hv2] at this
        rw [this]
        simp
theorem rotate (p u v s : List Rw) (h1 : 0 < u.length) (h2 : 0 < v.length) (hl : (p ++ (u ++ (v ++ s))).length < 1152921504606846976) {a m b : Int} (ha : a = (p.length : Nat)) (hm : m = ((p.length + u.length : Nat) : Int)) (hb : b = ((p.length + u.length + v.length : Nat) : Int)) :
    callI tE f_slices_rotateCmpFunc_Row [.sl ((p ++ (u ++ (v ++ s))).map Rw.e), .int a, .int m, .int b] = some [.sl ((p ++ (v ++ (u ++ s))).map Rw.e)] := by
  have hl' := hl
  simp only [List.length_append] at hl'
  rw [c_slices_rotateCmpFunc_Row, show w64 (m - a) = (u.length : Nat) by rw [ha, hm, w64_id ⟨by omega, by omega⟩]; omega, show w64 (b - m) = (v.length : Nat) by rw [hb, hm, w64_id ⟨by omega, by omega⟩]; omega]
  exact rotate_ok _ u v p s a m b _ (Nat.le_refl _) h1 h2 hl rfl hm
end Go.Proofs.Ytbmafhpbinjgaaa.Vai
