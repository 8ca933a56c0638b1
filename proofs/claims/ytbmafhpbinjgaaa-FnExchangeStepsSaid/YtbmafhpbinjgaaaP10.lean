/- The exchange run to its end: the loops of both programs; no condition. -/
import Derived.Test.YtbmafhpbinjgaaaP9
namespace Go.Proofs.Ytbmafhpbinjgaaa.Vai
open Go
set_option linter.unusedSimpArgs false
set_option linter.unusedVariables false
set_option linter.unnecessarySimpa false
set_option maxRecDepth 10000
def XR (y : Xc × Nat) : List Dat := [.sl (y.1.pend.map rsE), .sl (y.1.que.map rsE), .sl (y.1.got.map rsE), .int y.1.cap, .int (y.2 : Int), .bool true]
theorem x_app (acc : List Xc) (y : Xc) : List.append (acc.map Xc.e) [[Dat.sl (y.pend.map rsE), .sl (y.que.map rsE), .sl (y.got.map rsE), .int y.cap]] = (acc ++ [y]).map Xc.e := by simp [Xc.e]
theorem lt_nat {i n : Nat} (h : i < n) : ltI (i : Int) (n : Int) = true := ltT (by omega)
theorem if_app {γ δ : Type} (L : List γ → δ) (b : Bool) (acc : List γ) (y : γ) : (bif b then L (acc ++ [y]) else L acc) = L (if b then acc ++ [y] else acc) := by cases b <;> rfl
theorem tmod_nat (n m : Nat) : Int.tmod (n : Int) (m : Int) = ((n % m : Nat) : Int) := by
  rw [Int.tmod_eq_emod_of_nonneg (by omega)]
  rfl
/-- what is done with the moves that have been gathered -/
def KX (picks : List Int) (n : Nat) (x : Xc) (next : Xc → Option (List Dat)) (acc : List Xc) : Option (List Dat) :=
  match acc[pickAt picks n acc.length]? with
  | none => some (XR (x, n))
  | some y => next y
theorem KX_eq {picks : List Int} {n : Nat} {x : Xc} {next : Xc → Option (List Dat)} {acc : List Xc} (hn : n < 4611686018427387904) (hl : acc.length ≤ 1073741824) {nf : Int → Rows → Rows → Rows → Int → Option (List Dat)}
    (hf : ∀ (k : Int) (y : Xc), y ∈ acc → nf k (y.pend.map rsE) (y.que.map rsE) (y.got.map rsE) y.cap = next y) :
    (bif eqI (lenI (acc.map Xc.e)) 0 then some [.sl (x.pend.map rsE), .sl (x.que.map rsE), .sl (x.got.map rsE), .int x.cap, .int (n : Int), .bool true] else
      bif ltI 0 (lenI (picks.map intE)) then (bif !(eqI (lenI (picks.map intE)) 0) then (bif inR (Int.tmod n (lenI (picks.map intE))) (lenI (picks.map intE)) then (bif !(eqI (lenI (acc.map Xc.e)) 0) then (bif !(eqI (lenI (acc.map Xc.e)) 0) then
        (bif inR (Int.tmod (w64 ((Int.tmod (gn (at' (picks.map intE) (tn (Int.tmod n (lenI (picks.map intE)))))) (lenI (acc.map Xc.e))) + (lenI (acc.map Xc.e)))) (lenI (acc.map Xc.e))) (lenI (acc.map Xc.e)) then
          nf (Int.tmod (w64 ((Int.tmod (gn (at' (picks.map intE) (tn (Int.tmod n (lenI (picks.map intE)))))) (lenI (acc.map Xc.e))) + (lenI (acc.map Xc.e)))) (lenI (acc.map Xc.e)))
            (gl (at' (acc.map Xc.e) (tn (Int.tmod (w64 ((Int.tmod (gn (at' (picks.map intE) (tn (Int.tmod n (lenI (picks.map intE)))))) (lenI (acc.map Xc.e))) + (lenI (acc.map Xc.e)))) (lenI (acc.map Xc.e))))))
            (gl (tk 1 (at' (acc.map Xc.e) (tn (Int.tmod (w64 ((Int.tmod (gn (at' (picks.map intE) (tn (Int.tmod n (lenI (picks.map intE)))))) (lenI (acc.map Xc.e))) + (lenI (acc.map Xc.e)))) (lenI (acc.map Xc.e)))))))
            (gl (tk 2 (at' (acc.map Xc.e) (tn (Int.tmod (w64 ((Int.tmod (gn (at' (picks.map intE) (tn (Int.tmod n (lenI (picks.map intE)))))) (lenI (acc.map Xc.e))) + (lenI (acc.map Xc.e)))) (lenI (acc.map Xc.e)))))))
            (gn (tk 3 (at' (acc.map Xc.e) (tn (Int.tmod (w64 ((Int.tmod (gn (at' (picks.map intE) (tn (Int.tmod n (lenI (picks.map intE)))))) (lenI (acc.map Xc.e))) + (lenI (acc.map Xc.e)))) (lenI (acc.map Xc.e))))))) else none) else none) else none) else none) else none)
      else (bif inR 0 (lenI (acc.map Xc.e)) then nf 0 (gl (at' (acc.map Xc.e) (tn 0))) (gl (tk 1 (at' (acc.map Xc.e) (tn 0)))) (gl (tk 2 (at' (acc.map Xc.e) (tn 0)))) (gn (tk 3 (at' (acc.map Xc.e) (tn 0)))) else none)) =
    KX picks n x next acc := by
  simp only [lenI_map]
  cases acc with
  | nil => rfl
  | cons a0 rest =>
    generalize ha : a0 :: rest = acc at *
    have h0 : 0 < acc.length := by rw [← ha]; simp
    rw [eqF (by omega), cond_false]
    have hy : ∀ k : Nat, k < acc.length → ∃ y, acc[k]? = some y ∧ at' (acc.map Xc.e) k = y.e := fun k hk => by
      obtain ⟨u, a, v, rfl, rfl⟩ := split_at hk
      exact ⟨a, by simp, at_m u v a⟩
    unfold KX pickAt
    cases picks with
    | nil =>
      simp only [List.length_nil, if_true]
      rw [ltF (by omega), cond_false, inRT (by omega) (by omega), cond_true]
      obtain ⟨y, h1, h2⟩ := hy 0 h0
      show nf 0 (gl (at' (acc.map Xc.e) 0)) (gl (tk 1 (at' (acc.map Xc.e) 0))) (gl (tk 2 (at' (acc.map Xc.e) 0))) (gn (tk 3 (at' (acc.map Xc.e) 0))) = _
      rw [h1, h2]
      exact hf 0 y (List.mem_of_getElem? h1)
    | cons p0 prest =>
      generalize hp : p0 :: prest = picks at *
      have hp0 : 0 < picks.length := by rw [← hp]; simp
      rw [ltT (by omega), cond_true, eqF (by omega), Bool.not_false, cond_true, tmod_nat, inRT (by omega) (by have := Nat.mod_lt n hp0; omega), cond_true, if_neg (by rw [← hp]; simp)]
      obtain ⟨u, a, v, rfl, hu⟩ := split_at (Nat.mod_lt n hp0)
      rw [tn_c]
      have e1 : at' ((u ++ a :: v).map intE) (n % (u ++ a :: v).length) = [.int a] := by rw [← hu]; exact at_m u v a
      have e2 : (u ++ a :: v).getD (n % (u ++ a :: v).length) 0 = a := by rw [← hu]; exact getD_m u v a 0
      rw [e1, e2, gn_c]
      obtain ⟨k1, k2⟩ := pk_ok a h0 hl
      rw [k1, inRT (by omega) (by omega)]
      simp only [eqF (show ((acc.length : Nat) : Int) ≠ 0 by omega), Bool.not_false, cond_true, tn_c]
      obtain ⟨y, h1, h2⟩ := hy _ k2
      rw [h1, h2]
      exact hf _ y (List.mem_of_getElem? h1)
theorem len_sends (x : Xc) : (sends x).length ≤ x.pend.length := by
  have e1 := List.length_filter_le (fun i : Nat => (sendX x i).2) (List.range x.pend.length)
  simp only [List.length_range] at e1
  simpa [sends] using e1
theorem iStep (picks : List Int) {x : Xc} {n : Nat} (hv : exOk x = true) (hb : x.B2) (hn : n + 1 < 4611686018427387904) {a1 a2 a4 a5 a7 a9 : Int} {A B C D : Rows} {next : Xc → Option (List Dat)}
    (hf : ∀ (k : Int) (y : Xc) (D' : Rows), y ∈ nx x → L_impl_RunExchange_3 (picks.map intE) a1 a2 ((n + 1 : Nat) : Int) a4 k (y.pend.map rsE) k (y.que.map rsE) k (y.got.map rsE) y.cap A B C D' = next y) :
    L_impl_RunExchange_3 (picks.map intE) a1 a2 n a4 a5 (x.pend.map rsE) a7 (x.que.map rsE) a9 (x.got.map rsE) x.cap A B C D = KX picks n x next (nx x) := by
  have hp := (win_iff.mp (exOk_p hv).2.1).2
  have hq := (win_iff.mp (exOk_p hv).2.2.1).2
  have hl := len_sends x
  rw [L_impl_RunExchange_3_eq, lenI_map]
  refine (coll (N := x.pend.length) (c := 0) (b := fun i : Nat => (sendX x i).2) (g := fun i : Nat => (sendX x i).1) (L := fun (acc : List Xc) i => L_impl_RunExchange_4 (picks.map intE) a1 a2 n x.pend.length i a4 a5 (x.pend.map rsE) a7 (x.que.map rsE) a9 (x.got.map rsE) x.cap (acc.map Xc.e) A B C D)
    (K := fun acc => L_impl_RunExchange_5 (picks.map intE) a1 a2 n x.que.length 0 a4 a5 (x.pend.map rsE) a7 (x.que.map rsE) a9 (x.got.map rsE) x.cap (acc.map Xc.e) A B C D) (by omega) (fun i acc hi hacc => ?_) (fun acc hacc => ?_) [] (by simp)).trans ?_
  · show L_impl_RunExchange_4 _ _ _ _ _ _ _ _ _ _ _ _ _ _ _ _ _ _ _ = L_impl_RunExchange_4 _ _ _ _ _ _ _ _ _ _ _ _ _ _ _ _ _ _ _
    rw [L_impl_RunExchange_4_eq, lt_nat hi, cond_true, iSend x i hb]
    simp only [XB, gn_c, gb_c, gs_c, gl_c, tk_s, tk_0, List.drop_succ_cons, List.drop_zero, List.headD_cons, List.getD_cons_zero, List.getD_cons_succ, bind_s]
    cases hs : (sendX x i).2
    · simp
    · rw [len_map, show fitM (Nat.succ acc.length) 80 = true from fitT (by omega), x_app]
      simp
  · show L_impl_RunExchange_4 _ _ _ _ _ _ _ _ _ _ _ _ _ _ _ _ _ _ _ = L_impl_RunExchange_5 _ _ _ _ _ _ _ _ _ _ _ _ _ _ _ _ _ _ _
    rw [L_impl_RunExchange_4_eq, ltF (Int.le_refl _), cond_false, lenI_map]
  · show L_impl_RunExchange_5 _ _ _ _ _ _ _ _ _ _ _ _ _ _ _ _ _ _ _ = _
    rw [List.nil_append]
    refine (coll (N := x.que.length) (c := x.pend.length) (b := fun i : Nat => (recvX x i).2) (g := fun i : Nat => (recvX x i).1) (L := fun (acc : List Xc) i => L_impl_RunExchange_5 (picks.map intE) a1 a2 n x.que.length i a4 a5 (x.pend.map rsE) a7 (x.que.map rsE) a9 (x.got.map rsE) x.cap (acc.map Xc.e) A B C D)
      (K := fun acc => L_impl_RunExchange_5 (picks.map intE) a1 a2 n x.que.length x.que.length a4 a5 (x.pend.map rsE) a7 (x.que.map rsE) a9 (x.got.map rsE) x.cap (acc.map Xc.e) A B C D) (by omega) (fun i acc hi hacc => ?_) (fun acc hacc => rfl) (sends x) hl).trans ?_
    · show L_impl_RunExchange_5 _ _ _ _ _ _ _ _ _ _ _ _ _ _ _ _ _ _ _ = L_impl_RunExchange_5 _ _ _ _ _ _ _ _ _ _ _ _ _ _ _ _ _ _ _
      rw [L_impl_RunExchange_5_eq, lt_nat hi, cond_true, iRecv x i hb]
      simp only [XB, gn_c, gb_c, gs_c, gl_c, tk_s, tk_0, List.drop_succ_cons, List.drop_zero, List.headD_cons, List.getD_cons_zero, List.getD_cons_succ, bind_s]
      cases hs : (recvX x i).2
      · simp
      · rw [len_map, show fitM (Nat.succ acc.length) 80 = true from fitT (by omega), x_app]
        simp
    · show L_impl_RunExchange_5 _ _ _ _ _ _ _ _ _ _ _ _ _ _ (List.map Xc.e (nx x)) _ _ _ _ = _
      rw [L_impl_RunExchange_5_eq, ltF (Int.le_refl _), cond_false, w64_s (by omega)]
      exact KX_eq (nf := fun k P Q G c => L_impl_RunExchange_3 (picks.map intE) a1 a2 ((n + 1 : Nat) : Int) a4 k P k Q k G c A B C ((nx x).map Xc.e)) (by omega) (by have := nx_len x hv; omega) (fun k y hy => hf k y _ hy)
theorem iStep0 (picks : List Int) {x : Xc} {n : Nat} (hv : exOk x = true) (hb : x.B2) (hn : n + 1 < 4611686018427387904) {a1 a2 a4 : Int} {A B C : Rows} {next : Xc → Option (List Dat)}
    (hf : ∀ (k : Int) (y : Xc) (D' : Rows), y ∈ nx x → L_impl_RunExchange_3 (picks.map intE) a1 a2 ((n + 1 : Nat) : Int) a4 k (y.pend.map rsE) k (y.que.map rsE) k (y.got.map rsE) y.cap A B C D' = next y) :
    L_impl_RunExchange_0 (picks.map intE) a1 a2 n a4 x.cap A B C (x.pend.map rsE) (x.que.map rsE) (x.got.map rsE) = KX picks n x next (nx x) := by
  have hp := (win_iff.mp (exOk_p hv).2.1).2
  have hq := (win_iff.mp (exOk_p hv).2.2.1).2
  have hl := len_sends x
  rw [L_impl_RunExchange_0_eq, lenI_map]
  refine (coll (N := x.pend.length) (c := 0) (b := fun i : Nat => (sendX x i).2) (g := fun i : Nat => (sendX x i).1) (L := fun (acc : List Xc) i => L_impl_RunExchange_1 (picks.map intE) a1 a2 n x.pend.length i a4 x.cap (acc.map Xc.e) A B C (x.pend.map rsE) (x.que.map rsE) (x.got.map rsE))
    (K := fun acc => L_impl_RunExchange_2 (picks.map intE) a1 a2 n x.que.length 0 a4 x.cap (acc.map Xc.e) A B C (x.pend.map rsE) (x.que.map rsE) (x.got.map rsE)) (by omega) (fun i acc hi hacc => ?_) (fun acc hacc => ?_) [] (by simp)).trans ?_
  · show L_impl_RunExchange_1 _ _ _ _ _ _ _ _ _ _ _ _ _ _ _ = L_impl_RunExchange_1 _ _ _ _ _ _ _ _ _ _ _ _ _ _ _
    rw [L_impl_RunExchange_1_eq, lt_nat hi, cond_true, iSend x i hb]
    simp only [XB, gn_c, gb_c, gs_c, gl_c, tk_s, tk_0, List.drop_succ_cons, List.drop_zero, List.headD_cons, List.getD_cons_zero, List.getD_cons_succ, bind_s]
    cases hs : (sendX x i).2
    · simp
    · rw [len_map, show fitM (Nat.succ acc.length) 80 = true from fitT (by omega), x_app]
      simp
  · show L_impl_RunExchange_1 _ _ _ _ _ _ _ _ _ _ _ _ _ _ _ = L_impl_RunExchange_2 _ _ _ _ _ _ _ _ _ _ _ _ _ _ _
    rw [L_impl_RunExchange_1_eq, ltF (Int.le_refl _), cond_false, lenI_map]
  · show L_impl_RunExchange_2 _ _ _ _ _ _ _ _ _ _ _ _ _ _ _ = _
    rw [List.nil_append]
    refine (coll (N := x.que.length) (c := x.pend.length) (b := fun i : Nat => (recvX x i).2) (g := fun i : Nat => (recvX x i).1) (L := fun (acc : List Xc) i => L_impl_RunExchange_2 (picks.map intE) a1 a2 n x.que.length i a4 x.cap (acc.map Xc.e) A B C (x.pend.map rsE) (x.que.map rsE) (x.got.map rsE))
      (K := fun acc => L_impl_RunExchange_2 (picks.map intE) a1 a2 n x.que.length x.que.length a4 x.cap (acc.map Xc.e) A B C (x.pend.map rsE) (x.que.map rsE) (x.got.map rsE)) (by omega) (fun i acc hi hacc => ?_) (fun acc hacc => rfl) (sends x) hl).trans ?_
    · show L_impl_RunExchange_2 _ _ _ _ _ _ _ _ _ _ _ _ _ _ _ = L_impl_RunExchange_2 _ _ _ _ _ _ _ _ _ _ _ _ _ _ _
      rw [L_impl_RunExchange_2_eq, lt_nat hi, cond_true, iRecv x i hb]
      simp only [XB, gn_c, gb_c, gs_c, gl_c, tk_s, tk_0, List.drop_succ_cons, List.drop_zero, List.headD_cons, List.getD_cons_zero, List.getD_cons_succ, bind_s]
      cases hs : (recvX x i).2
      · simp
      · rw [len_map, show fitM (Nat.succ acc.length) 80 = true from fitT (by omega), x_app]
        simp
    · show L_impl_RunExchange_2 _ _ _ _ _ _ _ _ (List.map Xc.e (nx x)) _ _ _ _ _ _ = _
      rw [L_impl_RunExchange_2_eq, ltF (Int.le_refl _), cond_false, w64_s (by omega)]
      exact KX_eq (nf := fun k P Q G c => L_impl_RunExchange_3 (picks.map intE) a1 a2 ((n + 1 : Nat) : Int) a4 k P k Q k G c A B C ((nx x).map Xc.e)) (by omega) (by have := nx_len x hv; omega) (fun k y hy => hf k y _ hy)
theorem nx_nil {x : Xc} (hv : exOk x = true) (h : mu x = 0) : nx x = [] := by
  cases hn : nx x with
  | nil => rfl
  | cons y r =>
    have := (nx_ok hv (y := y) (by rw [hn]; simp)).2.1
    omega
theorem KX_run (picks : List Int) (f : Nat) (x : Xc) (n : Nat) : KX picks n x (fun y => some (XR (runX picks f y (n + 1)))) (nx x) = some (XR (runX picks (f + 1) x n)) := by
  unfold KX
  rw [runX]
  cases (nx x)[pickAt picks n (nx x).length]? <;> rfl
theorem B2_sz {x y : Xc} (h : x.B2) (e : y.sz = x.sz) : y.B2 := by
  unfold Xc.B2 at *
  omega
theorem iRunL (picks : List Int) : ∀ (f : Nat) (x : Xc) (n : Nat), exOk x = true → x.B2 → mu x ≤ f → n + f + 1 < 4611686018427387904 → ∀ (a1 a2 a4 a5 a7 a9 : Int) (A B C D : Rows),
    L_impl_RunExchange_3 (picks.map intE) a1 a2 n a4 a5 (x.pend.map rsE) a7 (x.que.map rsE) a9 (x.got.map rsE) x.cap A B C D = some (XR (runX picks f x n)) := by
  intro f
  induction f with
  | zero =>
    intro x n hv hb hm hn a1 a2 a4 a5 a7 a9 A B C D
    have h0 := nx_nil hv (by omega)
    rw [iStep picks hv hb (by omega) (next := fun _ => none) (fun k y D' hy => by rw [h0] at hy; cases hy), h0]
    rfl
  | succ f ih =>
    intro x n hv hb hm hn a1 a2 a4 a5 a7 a9 A B C D
    rw [iStep picks hv hb (by omega) (next := fun y => some (XR (runX picks f y (n + 1)))) (fun k y D' hy => by
      obtain ⟨h1, h2, h3⟩ := nx_ok hv hy
      exact ih y (n + 1) h1 (B2_sz hb h3) (by omega) (by omega) _ _ _ _ _ _ _ _ _ _)]
    exact KX_run picks f x n
/-- the run of the program -/
theorem iRun (x : Xc) (picks : List Int) (hb : x.B2) : callI tE f_impl_RunExchange [.sl (x.pend.map rsE), .sl (x.que.map rsE), .sl (x.got.map rsE), .int x.cap, .sl (picks.map intE)] =
    some (if exOk x = true then XR (runX picks (mu x) x 0) else [.sl (x.pend.map rsE), .sl (x.que.map rsE), .sl (x.got.map rsE), .int x.cap, .int 0, .bool false]) := by
  rw [c_impl_RunExchange, iCloneX x hb.b]
  simp only [gn_c, gb_c, gs_c, gl_c, tk_s, tk_0, List.drop_succ_cons, List.drop_zero, List.headD_cons, List.getD_cons_zero, List.getD_cons_succ, bind_s, iValidX x hb]
  by_cases hv : exOk x = true
  · rw [hv, if_pos rfl]
    show L_impl_RunExchange_0 _ _ _ ((0 : Nat) : Int) _ _ _ _ _ _ _ _ = _
    have hmu : mu x ≤ 3 * 1073741824 := by
      have h1 := tot_sz x.pend
      have h2 := tot_sz x.que
      have h3 := hb.b.p
      unfold mu
      omega
    cases hm : mu x with
    | zero =>
      have h0 := nx_nil hv hm
      rw [iStep0 picks hv hb (by omega) (next := fun _ => none) (fun k y D' hy => by rw [h0] at hy; cases hy), h0]
      rfl
    | succ f =>
      rw [iStep0 picks hv hb (by omega) (next := fun y => some (XR (runX picks f y (0 + 1)))) (fun k y D' hy => by
        obtain ⟨h1, h2, h3⟩ := nx_ok hv hy
        exact iRunL picks f y (0 + 1) h1 (B2_sz hb h3) (by omega) (by omega) _ _ _ _ _ _ _ _ _ _)]
      exact KX_run picks f x 0
  · rw [if_neg hv, (Bool.not_eq_true _).mp hv]
    rfl
end Go.Proofs.Ytbmafhpbinjgaaa.Vai
