/- The exchange run to its end: the other program; no condition. -/
import Derived.Test.YtbmafhpbinjgaaaP10
namespace Go.Proofs.Ytbmafhpbinjgaaa.Vai
open Go
set_option linter.unusedSimpArgs false
set_option linter.unusedVariables false
set_option linter.unnecessarySimpa false
set_option maxRecDepth 10000
theorem recv_b {x : Xc} {k : Nat} (hv : exOk x = true) (hk : k < x.que.length) : (recvX x k).2 = decide (0 < (x.que.getD k []).length) := by
  rw [show recvX x k = _ from if_pos ⟨hv, by omega, by omega⟩, Int.toNat_natCast]
  cases h : x.que.getD k [] with
  | nil => rfl
  | cons r p => simp
def mayE (m : Nat) : List Dat := [.int (m : Int)]
theorem m_app (acc : List Nat) (m : Nat) : List.append (acc.map mayE) [[Dat.int (m : Int)]] = (acc ++ [m]).map mayE := by simp [mayE]
theorem sMay {x : Xc} (hv : exOk x = true) (hb : x.B2) : callI tE f_spec_l26May [.sl (x.pend.map rsE), .sl (x.que.map rsE), .sl (x.got.map rsE), .int x.cap] = some [.sl ((mays x).map mayE)] := by
  have hp := (win_iff.mp (exOk_p hv).2.1).2
  have hq := (win_iff.mp (exOk_p hv).2.2.1).2
  rw [c_spec_l26May]
  refine (coll (N := x.pend.length) (c := 0) (b := fun i : Nat => (sendX x i).2) (g := fun i : Nat => i) (L := fun (acc : List Nat) i => L_spec_l26May_0 0 i (x.pend.map rsE) (x.que.map rsE) (x.got.map rsE) x.cap (acc.map mayE))
    (K := fun acc => L_spec_l26May_1 0 0 (x.pend.map rsE) (x.que.map rsE) (x.got.map rsE) x.cap (acc.map mayE)) (by omega) (fun i acc hi hacc => ?_) (fun acc hacc => ?_) [] (by simp)).trans ?_
  · show L_spec_l26May_0 _ _ _ _ _ _ _ = L_spec_l26May_0 _ _ _ _ _ _ _
    rw [L_spec_l26May_0_eq, lenI_map, lt_nat hi, cond_true, sSend x i hb]
    simp only [XB, gn_c, gb_c, gs_c, gl_c, tk_s, tk_0, List.drop_succ_cons, List.drop_zero, List.headD_cons, List.getD_cons_zero, List.getD_cons_succ, bind_s]
    cases hs : (sendX x i).2
    · simp
    · rw [len_map, show fitM (Nat.succ acc.length) 8 = true from fitT (by omega), m_app]
      simp
  · show L_spec_l26May_0 _ _ _ _ _ _ _ = L_spec_l26May_1 _ _ _ _ _ _ _
    rw [L_spec_l26May_0_eq, lenI_map, ltF (Int.le_refl _), cond_false]
  · rw [List.nil_append, List.map_id']
    have e1 := List.length_filter_le (fun i : Nat => (sendX x i).2) (List.range x.pend.length)
    simp only [List.length_range] at e1
    refine (coll (N := x.que.length) (c := x.pend.length) (b := fun i : Nat => (recvX x i).2) (g := fun i : Nat => 3 + i) (L := fun (acc : List Nat) i => L_spec_l26May_1 0 i (x.pend.map rsE) (x.que.map rsE) (x.got.map rsE) x.cap (acc.map mayE))
      (K := fun acc => some [.sl (acc.map mayE)]) (by omega) (fun i acc hi hacc => ?_) (fun acc hacc => ?_) _ e1).trans rfl
    · show L_spec_l26May_1 _ _ _ _ _ _ _ = L_spec_l26May_1 _ _ _ _ _ _ _
      rw [L_spec_l26May_1_eq, lenI_map, lt_nat hi, cond_true, inRT (by omega) (by omega), cond_true, recv_b hv hi, tn_c]
      obtain ⟨u, a, v, e, hu⟩ := split_at hi
      have e2 : at' (x.que.map rsE) i = rsE a := by rw [e, ← hu]; exact at_m u v a
      have e3 : x.que.getD i [] = a := by rw [e, ← hu]; exact getD_m u v a []
      rw [e2, e3]
      simp only [rsE, gl_c, lenI_map]
      rw [show ltI 0 (a.length : Int) = decide (0 < a.length) by unfold ltI; rw [Bool.eq_iff_iff]; simp]
      rw [show w64 (3 + (i : Int)) = ((3 + i : Nat) : Int) by rw [w64_id ⟨by omega, by omega⟩]; omega]
      cases hd : decide (0 < a.length)
      · simp
      · rw [len_map, show fitM (Nat.succ acc.length) 8 = true from fitT (by omega), m_app]
        simp
    · show L_spec_l26May_1 _ _ _ _ _ _ _ = _
      rw [L_spec_l26May_1_eq, lenI_map, ltF (Int.le_refl _), cond_false]
/-- the moves, taken -/
theorem mays_in {x : Xc} {m : Nat} (h : m ∈ mays x) : (m < x.pend.length ∧ (sendX x m).2 = true) ∨ ∃ k, m = 3 + k ∧ k < x.que.length ∧ (recvX x k).2 = true := by
  simp only [mays, List.mem_append, List.mem_filter, List.mem_range, List.mem_map] at h
  rcases h with h | ⟨k, h, rfl⟩
  · exact .inl h
  · exact .inr ⟨k, rfl, h⟩
theorem sStep (picks : List Int) {x : Xc} {n : Nat} (hv : exOk x = true) (hb : x.B2) (hn : n + 1 < 4611686018427387904) {a1 a2 a4 : Int} {A B C : Rows} {next : Xc → Option (List Dat)}
    (hf : ∀ (y : Xc), y ∈ nx x → L_spec_RunExchange_0 (picks.map intE) a1 a2 ((n + 1 : Nat) : Int) a4 y.cap A B C (y.pend.map rsE) (y.que.map rsE) (y.got.map rsE) = next y) :
    L_spec_RunExchange_0 (picks.map intE) a1 a2 n a4 x.cap A B C (x.pend.map rsE) (x.que.map rsE) (x.got.map rsE) = KX picks n x next (nx x) := by
  have hp := (win_iff.mp (exOk_p hv).2.1).2
  have hq := (win_iff.mp (exOk_p hv).2.2.1).2
  have hln := nx_len x hv
  have hml : (mays x).length = (nx x).length := by rw [nx_eq hv, List.length_map]
  rw [L_spec_RunExchange_0_eq, sMay hv hb]
  simp only [gn_c, gb_c, gs_c, gl_c, tk_s, tk_0, List.drop_succ_cons, List.drop_zero, List.headD_cons, List.getD_cons_zero, List.getD_cons_succ, bind_s, lenI_map, w64_s (show n < 9223372036854775807 by omega)]
  -- a move, taken
  have take : ∀ k : Nat, k < (mays x).length → ∃ y, (nx x)[k]? = some y ∧
      (bif ltI (gn (at' ((mays x).map mayE) k)) 3 then (bif inR (k : Int) ((mays x).length : Int) then ((callI tE f_spec_SendRow [.sl (x.pend.map rsE), .sl (x.que.map rsE), .sl (x.got.map rsE), .int x.cap, .int (gn (at' ((mays x).map mayE) k))]).bind fun r1 => L_spec_RunExchange_0 (picks.map intE) a1 a2 ((n + 1 : Nat) : Int) a4 (gn (tk 3 r1)) A B C (gl r1) (gl (tk 1 r1)) (gl (tk 2 r1))) else none)
      else (bif inR (k : Int) ((mays x).length : Int) then ((callI tE f_spec_ReceiveRow [.sl (x.pend.map rsE), .sl (x.que.map rsE), .sl (x.got.map rsE), .int x.cap, .int (w64 (gn (at' ((mays x).map mayE) k) - 3))]).bind fun r1 => L_spec_RunExchange_0 (picks.map intE) a1 a2 ((n + 1 : Nat) : Int) a4 (gn (tk 3 r1)) A B C (gl r1) (gl (tk 1 r1)) (gl (tk 2 r1))) else none)) = next y := fun k hk => by
    obtain ⟨u, m, v, e, hu⟩ := split_at hk
    have e2 : at' ((mays x).map mayE) k = mayE m := by rw [e, ← hu]; exact at_m u v m
    have hg : (nx x)[k]? = some (doMv x m) := by rw [nx_eq hv, e, ← hu]; simp
    have hmem : doMv x m ∈ nx x := List.mem_of_getElem? hg
    refine ⟨doMv x m, hg, ?_⟩
    rw [e2, inRT (by omega) (by omega)]
    simp only [mayE, gn_c, cond_true]
    have hm : m ∈ mays x := by rw [e]; simp
    rcases mays_in hm with ⟨h1, h2⟩ | ⟨k', rfl, h1, h2⟩
    · have hd : doMv x m = (sendX x m).1 := by rw [doMv, if_pos (by omega)]
      rw [ltT (by omega), cond_true, sSend x m hb]
      simp only [XB, gn_c, gb_c, gs_c, gl_c, tk_s, tk_0, List.drop_succ_cons, List.drop_zero, List.headD_cons, List.getD_cons_zero, List.getD_cons_succ, bind_s]
      rw [← hd]
      exact hf _ hmem
    · have hd : doMv x (3 + k') = (recvX x k').1 := by
        rw [doMv, if_neg (by omega)]
        congr 3
        omega
      rw [ltF (by omega), cond_false, show w64 (((3 + k' : Nat) : Int) - 3) = (k' : Int) by rw [w64_id ⟨by omega, by omega⟩]; omega, sRecv x k' hb]
      simp only [XB, gn_c, gb_c, gs_c, gl_c, tk_s, tk_0, List.drop_succ_cons, List.drop_zero, List.headD_cons, List.getD_cons_zero, List.getD_cons_succ, bind_s]
      rw [← hd]
      exact hf _ hmem
  by_cases hl0 : (mays x).length = 0
  · have h0 : nx x = [] := List.length_eq_zero_iff.mp (by omega)
    rw [eqT (by omega), cond_true, h0]
    rfl
  · rw [eqF (by omega), cond_false]
    unfold KX pickAt
    rw [← hml]
    cases picks with
    | nil =>
      simp only [List.length_nil, if_true]
      rw [ltF (by omega), cond_false, inRT (by omega) (by omega), cond_true]
      obtain ⟨y, h1, h2⟩ := take 0 (by omega)
      rw [h1]
      rw [inRT (by omega) (by omega)] at h2
      exact h2
    | cons p0 prest =>
      generalize hpk : p0 :: prest = picks at *
      have hp0 : 0 < picks.length := by rw [← hpk]; simp
      rw [ltT (by omega), cond_true, eqF (by omega), Bool.not_false, cond_true, tmod_nat, inRT (by omega) (by have := Nat.mod_lt n hp0; omega), cond_true, if_neg (by rw [← hpk]; simp)]
      obtain ⟨u, a, v, e, hu⟩ := split_at (Nat.mod_lt n hp0)
      have e1 : at' (picks.map intE) (n % picks.length) = [.int a] := by
        have := at_m (e := intE) u v a
        rw [hu, ← e] at this
        exact this
      have e2 : picks.getD (n % picks.length) 0 = a := by
        have := getD_m u v a 0
        rw [hu, ← e] at this
        exact this
      rw [tn_c, e1, e2, gn_c]
      obtain ⟨k1, k2⟩ := pk_ok a (l := (mays x).length) (by omega) (by omega)
      rw [k1]
      simp only [eqF (show (((mays x).length : Nat) : Int) ≠ 0 by omega), Bool.not_false, cond_true, tn_c]
      obtain ⟨y, h1, h2⟩ := take _ k2
      rw [h1]
      rw [inRT (by omega) (by omega)] at h2 ⊢
      exact h2
theorem sRunL (picks : List Int) : ∀ (f : Nat) (x : Xc) (n : Nat), exOk x = true → x.B2 → mu x ≤ f → n + f + 1 < 4611686018427387904 → ∀ (a1 a2 a4 : Int) (A B C : Rows),
    L_spec_RunExchange_0 (picks.map intE) a1 a2 n a4 x.cap A B C (x.pend.map rsE) (x.que.map rsE) (x.got.map rsE) = some (XR (runX picks f x n)) := by
  intro f
  induction f with
  | zero =>
    intro x n hv hb hm hn a1 a2 a4 A B C
    have h0 := nx_nil hv (by omega)
    rw [sStep picks hv hb (by omega) (next := fun _ => none) (fun y hy => by rw [h0] at hy; cases hy), h0]
    rfl
  | succ f ih =>
    intro x n hv hb hm hn a1 a2 a4 A B C
    rw [sStep picks hv hb (by omega) (next := fun y => some (XR (runX picks f y (n + 1)))) (fun y hy => by
      obtain ⟨h1, h2, h3⟩ := nx_ok hv hy
      exact ih y (n + 1) h1 (B2_sz hb h3) (by omega) (by omega) _ _ _ _ _ _)]
    exact KX_run picks f x n
theorem sRun (x : Xc) (picks : List Int) (hb : x.B2) : callI tE f_spec_RunExchange [.sl (x.pend.map rsE), .sl (x.que.map rsE), .sl (x.got.map rsE), .int x.cap, .sl (picks.map intE)] =
    some (if exOk x = true then XR (runX picks (mu x) x 0) else [.sl (x.pend.map rsE), .sl (x.que.map rsE), .sl (x.got.map rsE), .int x.cap, .int 0, .bool false]) := by
  rw [c_spec_RunExchange, sCopyX x hb.b]
  simp only [gn_c, gb_c, gs_c, gl_c, tk_s, tk_0, List.drop_succ_cons, List.drop_zero, List.headD_cons, List.getD_cons_zero, List.getD_cons_succ, bind_s, sValidX x hb]
  by_cases hv : exOk x = true
  · rw [hv, if_pos rfl]
    have hmu : mu x ≤ 3 * 1073741824 := by
      have h1 := tot_sz x.pend
      have h2 := tot_sz x.que
      have h3 := hb.b.p
      unfold mu
      omega
    exact sRunL picks (mu x) x 0 hv hb (Nat.le_refl _) (by omega) _ _ _ _ _ _
  · rw [if_neg hv, (Bool.not_eq_true _).mp hv]
    rfl
theorem runX_ok (picks : List Int) : ∀ (f : Nat) (x : Xc) (n : Nat), exOk x = true → exOk (runX picks f x n).1 = true ∧ (runX picks f x n).1.sz = x.sz ∧ (runX picks f x n).2 ≤ n + f
  | 0, x, n, h => ⟨h, rfl, Nat.le_refl _⟩
  | f + 1, x, n, h => by
    rw [runX]
    split
    · exact ⟨h, rfl, by simp⟩
    · rename_i y hy
      obtain ⟨h1, h2, h3⟩ := nx_ok h (List.mem_of_getElem? hy)
      obtain ⟨i1, i2, i3⟩ := runX_ok picks f y (n + 1) h1
      exact ⟨i1, i2.trans h3, by omega⟩
end Go.Proofs.Ytbmafhpbinjgaaa.Vai
