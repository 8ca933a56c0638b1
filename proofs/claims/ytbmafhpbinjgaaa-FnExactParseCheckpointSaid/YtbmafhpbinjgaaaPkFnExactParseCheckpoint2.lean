/- What the law of this claim leans on; no condition. -/
import Derived.Test.YtbmafhpbinjgaaaPkFnExactParseCheckpoint1
namespace Go.Proofs.Ytbmafhpbinjgaaa.Vai
open Go
set_option linter.unusedSimpArgs false
set_option linter.unusedVariables false
set_option linter.unnecessarySimpa false
theorem lt_S (u v : List UInt8) (c : UInt8) : ltI (u.length : Int) (szI (S (u ++ c :: v))) = true := ltT (by rw [szI_S]; simp only [List.length_append, List.length_cons]; omega)
theorem in_S (u v : List UInt8) (c : UInt8) : inR (u.length : Int) (szI (S (u ++ c :: v))) = true := inRT (by omega) (by rw [szI_S]; simp only [List.length_append, List.length_cons]; omega)
theorem by_S (u v : List UInt8) (c : UInt8) : byteAt (S (u ++ c :: v)) (u.length : Int) = (c.toNat : Int) := by
  rw [byteAt_S (by simp)]; simp
theorem lt_Se (l : List UInt8) : ltI (l.length : Int) (szI (S l)) = false := ltF (by rw [szI_S]; omega)
theorem u8_lt (c : UInt8) : c.toNat < 256 := UInt8.toNat_lt c
theorem u8_eqI (c d : UInt8) : eqI (c.toNat : Int) (d.toNat : Int) = decide (c = d) := by
  unfold eqI
  by_cases h : c = d
  · subst h; simp
  · have : ¬ c.toNat = d.toNat := fun e => h (UInt8.toNat_inj.mp e)
    simp [h]; omega
theorem isDig_iff {c : UInt8} : isDig c = true ↔ 48 ≤ c.toNat ∧ c.toNat ≤ 57 := by simp [isDig]
def vstep (n : Nat) (c : UInt8) : Nat := 10 * n + (c.toNat - 48)
theorem u8_sub {c : UInt8} (h : 48 ≤ c.toNat) : IntKind.wrap .u8 ((c.toNat : Int) - 48) = ((c.toNat - 48 : Nat) : Int) := by
  have := u8_lt c
  simp only [IntKind.wrap, IntKind.signed, IntKind.bits, Bool.false_and, Bool.false_eq_true, if_false]
  omega
theorem v_step {n : Nat} (hn : n < 100000000000) {c : UInt8} (h : 48 ≤ c.toNat) : w64 ((w64 (10 * (n : Int))) + (w64 (IntKind.wrap .u8 ((c.toNat : Int) - 48)))) = ((vstep n c : Nat) : Int) := by
  have := u8_lt c
  rw [u8_sub h, w64_id (n := 10 * (n : Int)) ⟨by omega, by omega⟩, w64_id (n := ((c.toNat - 48 : Nat) : Int)) ⟨by omega, by omega⟩, w64_id ⟨by omega, by omega⟩]
  unfold vstep
  omega
theorem v_step' {n : Nat} (hn : n < 100000000000) {c : UInt8} (h : 48 ≤ c.toNat) : w64 ((w64 ((n : Int) * 10)) + (w64 (IntKind.wrap .u8 ((c.toNat : Int) - 48)))) = ((vstep n c : Nat) : Int) := by
  rw [Int.mul_comm]; exact v_step hn h
theorem fmt_noDig_ne {n : Int} : ∀ c ∈ fmt n, isDig c = true ∨ c = 45 := by
  intro c hc
  unfold fmt at hc
  split at hc
  · rcases List.mem_cons.mp hc with rfl | hc
    · exact .inr rfl
    · exact .inl (List.all_eq_true.mp (dec_digits _) c hc)
  · exact .inl (List.all_eq_true.mp (dec_digits _) c hc)
def cutGo (b : UInt8) : List UInt8 → List UInt8 → List (List UInt8)
  | cur, [] => [cur]
  | cur, c :: v => if c = b then cur :: cutGo b [] v else cutGo b (cur ++ [c]) v
def cutL (b : UInt8) (s : List UInt8) : List (List UInt8) := cutGo b [] s
def joinL (b : List UInt8) : List (List UInt8) → List UInt8
  | [] => []
  | [x] => x
  | x :: y :: r => x ++ b ++ joinL b (y :: r)
theorem cutGo_ne (b : UInt8) : ∀ (v cur : List UInt8), cutGo b cur v ≠ []
  | [], _ => by simp [cutGo]
  | c :: v, cur => by
    unfold cutGo
    split
    · simp
    · exact cutGo_ne b v _
theorem joinL_cons {b x : List UInt8} {r : List (List UInt8)} (h : r ≠ []) : joinL b (x :: r) = x ++ b ++ joinL b r := by
  cases r with
  | nil => exact absurd rfl h
  | cons y r => rfl
theorem join_cutGo (b : UInt8) : ∀ (v cur : List UInt8), joinL [b] (cutGo b cur v) = cur ++ v
  | [], cur => by simp [cutGo, joinL]
  | c :: v, cur => by
    unfold cutGo
    split
    · rename_i h
      rw [joinL_cons (cutGo_ne b v []), join_cutGo b v [], h]; simp
    · rw [join_cutGo b v]; simp
theorem join_cut (b : UInt8) (s : List UInt8) : joinL [b] (cutL b s) = s := join_cutGo b s []
theorem cutGo_app (b : UInt8) : ∀ (x v cur : List UInt8), b ∉ x → cutGo b cur (x ++ v) = cutGo b (cur ++ x) v
  | [], v, cur, _ => by simp
  | c :: x, v, cur, h => by
    simp only [List.mem_cons, not_or] at h
    have hc : c ≠ b := fun e => h.1 e.symm
    rw [List.cons_append, cutGo, if_neg hc, cutGo_app b x v _ h.2]; simp
theorem cut_join (b : UInt8) : ∀ (l : List (List UInt8)), l ≠ [] → (∀ x ∈ l, b ∉ x) → cutL b (joinL [b] l) = l
  | [], h, _ => absurd rfl h
  | [x], _, h => by
    have := cutGo_app b x [] [] (h x (by simp))
    simp only [List.append_nil, List.nil_append] at this
    simp only [cutL, joinL, this, cutGo]
  | x :: y :: r, _, h => by
    have ih := cut_join b (y :: r) (by simp) (fun z hz => h z (by simp [hz]))
    unfold cutL at *
    rw [joinL_cons (by simp), List.append_assoc, cutGo_app b x _ _ (h x (by simp))]
    simp only [List.nil_append, List.singleton_append, cutGo, if_true, ih]
theorem cutGo_len (b : UInt8) : ∀ (v cur : List UInt8), (cutGo b cur v).length ≤ v.length + 1
  | [], _ => by simp [cutGo]
  | c :: v, cur => by
    unfold cutGo
    split
    · have := cutGo_len b v []; simp; omega
    · have := cutGo_len b v (cur ++ [c]); simp; omega
theorem cutL_len (b : UInt8) (s : List UInt8) : (cutL b s).length ≤ s.length + 1 := cutGo_len b s []
theorem cutGo_sub (b : UInt8) : ∀ (v cur x : List UInt8), x ∈ cutGo b cur v → x.length ≤ cur.length + v.length
  | [], cur, x, h => by simp [cutGo] at h; subst h; simp
  | c :: v, cur, x, h => by
    unfold cutGo at h
    split at h
    · rcases List.mem_cons.mp h with rfl | h
      · simp
      · have := cutGo_sub b v [] x h; simp at this ⊢; omega
    · have := cutGo_sub b v _ x h; simp at this ⊢; omega
theorem cutL_sub {b : UInt8} {s x : List UInt8} (h : x ∈ cutL b s) : x.length ≤ s.length := by
  have := cutGo_sub b s [] x h; simpa using this
theorem joinL_len (b : List UInt8) : ∀ (l : List (List UInt8)), (joinL b l).length ≤ (l.map fun x => x.length + b.length).sum
  | [] => by simp [joinL]
  | [x] => by simp [joinL]
  | x :: y :: r => by
    have := joinL_len b (y :: r)
    rw [joinL_cons (by simp)]
    simp only [List.length_append, List.map_cons, List.sum_cons] at this ⊢
    omega
theorem joinL_snoc (b : List UInt8) : ∀ (l : List (List UInt8)) (x : List UInt8), l ≠ [] → joinL b (l ++ [x]) = joinL b l ++ b ++ x
  | [], _, h => absurd rfl h
  | [y], x, _ => rfl
  | y :: z :: r, x, _ => by
    have e1 := joinL_cons (b := b) (x := y) (r := z :: r) (by simp)
    have e2 := joinL_cons (b := b) (x := y) (r := z :: r ++ [x]) (by simp)
    rw [List.cons_append, e2, joinL_snoc b (z :: r) x (by simp), e1]; simp
def StE (s : List UInt8) : List Dat := [.str (S s)]
end Go.Proofs.Ytbmafhpbinjgaaa.Vai
namespace Go.Proofs.Ytbmafhpbinjgaaa.Vai
open Go
set_option linter.unusedSimpArgs false
set_option linter.unusedVariables false
set_option linter.unnecessarySimpa false
set_option maxRecDepth 10000
theorem win_len {i : Int} {n : Nat} (hn : n ≤ 1073741824) : win i 0 (w64 ((n : Int) - 1)) = decide (0 ≤ i ∧ i < n) := by
  rw [w64_id ⟨by omega, by omega⟩, Bool.eq_iff_iff, win_iff, decide_eq_true_eq]
  constructor <;> (intro h; omega)
theorem head_at (r : Rw) (p : List Rw) : at' ((r :: p).map Rw.e) (tn 0) = r.e := rfl
theorem in_0 (r : Rw) (p : List Rw) : inR 0 (lenI ((r :: p).map Rw.e)) = true := by rw [lenI_map]; exact inRT (by omega) (by (first | omega | (simp only [List.length_append, List.length_cons, List.length_nil, List.length_map, List.length_take, List.length_drop, List.length_replicate, szI_S] at * <;> omega)))
theorem le_1 (r : Rw) (p : List Rw) : leI 1 (lenI ((r :: p).map Rw.e)) = true := by rw [lenI_map]; exact leT (by (first | omega | (simp only [List.length_append, List.length_cons, List.length_nil, List.length_map, List.length_take, List.length_drop, List.length_replicate, szI_S] at * <;> omega)))
theorem ne_0 (r : Rw) (p : List Rw) : eqI (lenI ((r :: p).map Rw.e)) 0 = false := by rw [lenI_map]; exact eqF (by (first | omega | (simp only [List.length_append, List.length_cons, List.length_nil, List.length_map, List.length_take, List.length_drop, List.length_replicate, szI_S] at * <;> omega)))
end Go.Proofs.Ytbmafhpbinjgaaa.Vai
namespace Go.Proofs.Ytbmafhpbinjgaaa.Vai
open Go
set_option linter.unusedSimpArgs false
set_option linter.unusedVariables false
set_option linter.unnecessarySimpa false
set_option maxRecDepth 10000
def isS : List Rw → Bool
  | [] => true
  | a :: l => (match l with
    | [] => true
    | b :: _ => !decide (Rw.lt b a)) && isS l
theorem isS_cc (a b : Rw) (l : List Rw) : isS (a :: b :: l) = (!decide (Rw.lt b a) && isS (b :: l)) := rfl
theorem isS_1 (a : Rw) : isS [a] = true := rfl
theorem isS_iff : ∀ {l : List Rw}, isS l = true ↔ Srt l
  | [] => by simp [isS]
  | [a] => by simp [isS]
  | a :: b :: l => by
    rw [isS_cc, Bool.and_eq_true, isS_iff (l := b :: l)]
    unfold Srt
    rw [List.pairwise_cons (a := a)]
    simp only [Bool.not_eq_true', decide_eq_false_iff_not]
    constructor
    · rintro ⟨h1, h2⟩
      refine ⟨fun y hy => ?_, h2⟩
      rcases List.mem_cons.mp hy with rfl | hy
      · exact h1
      · exact Rw.le_tr h1 ((List.pairwise_cons.mp h2).1 y hy)
    · rintro ⟨h1, h2⟩
      exact ⟨h1 b (by simp), h2⟩
theorem iIsS_loop (l : List Rw) (hl : l.length < 4611686018427387904) : ∀ (v u : List Rw) (a : Rw), l = u ++ a :: v → L_impl_IsSorted_0 (l.map Rw.e) ((u.length + 1 : Nat) : Int) = some [.bool (isS (a :: v))]
  | [], u, a, h => by
    rw [L_impl_IsSorted_0_eq, lenI_map, ltF (by rw [h]; simp), cond_false, isS_1]
  | b :: v, u, a, h => by
    have hlen : l.length = u.length + 1 + 1 + v.length := by rw [h]; simp; omega
    have a1 : at' (l.map Rw.e) u.length = a.e := at_i h rfl
    have a2 : at' (l.map Rw.e) (u.length + 1) = b.e := at_i (u := u ++ [a]) (v := v) (by rw [h]; simp) (by simp)
    have i1 : inR ((u.length + 1 : Nat) : Int) (lenI (l.map Rw.e)) = true := in_i (by omega)
    have i2 : inR ((u.length : Nat) : Int) (lenI (l.map Rw.e)) = true := in_i (by omega)
    have e1 : w64 (((u.length + 1 : Nat) : Int) - 1) = (u.length : Int) := by rw [w64_id ⟨by omega, by omega⟩]; omega
    have ih := iIsS_loop l hl v (u ++ [a]) b (by rw [h]; simp)
    rw [List.length_append, List.length_singleton] at ih
    rw [L_impl_IsSorted_0_eq, show ltI ((u.length + 1 : Nat) : Int) (lenI (l.map Rw.e)) = true by rw [lenI_map]; exact ltT (by omega), i1, e1, i2, w64_s (by omega), ih]
    simp only [cond_true, tn_c, a1, a2, gk, gv, gw, iCompare, gn_c, gb_c, gs_c, gl_c, tk_s, tk_0, List.drop_succ_cons, List.drop_zero, List.headD_cons, List.getD_cons_zero, List.getD_cons_succ, bind_s, lt_cmp0, isS_cc]
    cases decide (Rw.lt b a) <;> rfl
theorem iIsSorted (l : List Rw) (hl : l.length < 4611686018427387904) : callI tE f_impl_IsSorted [.sl (l.map Rw.e)] = some [.bool (isS l)] := by
  rw [c_impl_IsSorted]
  cases l with
  | nil => rw [L_impl_IsSorted_0_eq]; rfl
  | cons a v => exact iIsS_loop (a :: v) hl v [] a rfl
theorem sIsS_loop (l : List Rw) (hl : l.length < 4611686018427387904) : ∀ (v u : List Rw) (a : Rw), l = u ++ a :: v → L_spec_IsSorted_0 (l.map Rw.e) ((u.length + 1 : Nat) : Int) = some [.bool (isS (a :: v))]
  | [], u, a, h => by
    rw [L_spec_IsSorted_0_eq, lenI_map, ltF (by rw [h]; simp), cond_false, isS_1]
  | b :: v, u, a, h => by
    have hlen : l.length = u.length + 1 + 1 + v.length := by rw [h]; simp; omega
    have a1 : at' (l.map Rw.e) u.length = a.e := at_i h rfl
    have a2 : at' (l.map Rw.e) (u.length + 1) = b.e := at_i (u := u ++ [a]) (v := v) (by rw [h]; simp) (by simp)
    have i1 : inR ((u.length + 1 : Nat) : Int) (lenI (l.map Rw.e)) = true := in_i (by omega)
    have i2 : inR ((u.length : Nat) : Int) (lenI (l.map Rw.e)) = true := in_i (by omega)
    have e1 : w64 (((u.length + 1 : Nat) : Int) - 1) = (u.length : Int) := by rw [w64_id ⟨by omega, by omega⟩]; omega
    have ih := sIsS_loop l hl v (u ++ [a]) b (by rw [h]; simp)
    rw [List.length_append, List.length_singleton] at ih
    rw [L_spec_IsSorted_0_eq, show ltI ((u.length + 1 : Nat) : Int) (lenI (l.map Rw.e)) = true by rw [lenI_map]; exact ltT (by omega), i1, e1, i2, w64_s (by omega), ih]
    simp only [cond_true, tn_c, a1, a2, gk, gv, gw, sCompare, gn_c, gb_c, gs_c, gl_c, tk_s, tk_0, List.drop_succ_cons, List.drop_zero, List.headD_cons, List.getD_cons_zero, List.getD_cons_succ, bind_s, lt_cmp0', isS_cc]
    cases decide (Rw.lt b a) <;> rfl
theorem sIsSorted (l : List Rw) (hl : l.length < 4611686018427387904) : callI tE f_spec_IsSorted [.sl (l.map Rw.e)] = some [.bool (isS l)] := by
  rw [c_spec_IsSorted]
  cases l with
  | nil => rw [L_spec_IsSorted_0_eq]; rfl
  | cons a v => exact sIsS_loop (a :: v) hl v [] a rfl
def belowB (r : Rw) (l : List Rw) : Bool := match l.getLast? with
  | none => false
  | some x => decide (Rw.lt r x)
theorem belowB_nil (r : Rw) : belowB r [] = false := rfl
theorem belowB_snoc (r : Rw) (u : List Rw) (x : Rw) : belowB r (u ++ [x]) = decide (Rw.lt r x) := by simp [belowB]
theorem snoc_or (l : List Rw) : l = [] ∨ ∃ u x, l = u ++ [x] := by
  cases l.eq_nil_or_concat with
  | inl h => exact .inl h
  | inr h => obtain ⟨u, x, h⟩ := h; exact .inr ⟨u, x, by simpa using h⟩
theorem iBelow (r : Rw) (l : List Rw) (hl : l.length < 4611686018427387904) : callI tE f_impl_below [.int r.k, .int r.v, .int r.w, .sl (l.map Rw.e)] = some [.bool (belowB r l)] := by
  rw [c_impl_below]
  rcases snoc_or l with rfl | ⟨u, x, rfl⟩
  · rfl
  · simp only [List.length_append, List.length_cons, List.length_nil] at hl
    have a1 : at' ((u ++ [x]).map Rw.e) u.length = x.e := at_i (u := u) (v := []) (by simp) rfl
    have e1 : w64 (lenI ((u ++ [x]).map Rw.e) - 1) = (u.length : Int) := by rw [lenI_map, w64_id ⟨by (first | omega | (simp only [List.length_append, List.length_cons, List.length_nil, List.length_map, List.length_take, List.length_drop, List.length_replicate, szI_S] at * <;> omega)), by (first | omega | (simp only [List.length_append, List.length_cons, List.length_nil, List.length_map, List.length_take, List.length_drop, List.length_replicate, szI_S] at * <;> omega))⟩]; simp
    rw [show ltI 0 (lenI ((u ++ [x]).map Rw.e)) = true by rw [lenI_map]; exact ltT (by (first | omega | (simp only [List.length_append, List.length_cons, List.length_nil, List.length_map, List.length_take, List.length_drop, List.length_replicate, szI_S] at * <;> omega))), e1, in_i (by simp)]
    simp only [cond_true, tn_c, a1, gk, gv, gw, iCompare, gn_c, gb_c, gs_c, gl_c, tk_s, tk_0, List.drop_succ_cons, List.drop_zero, List.headD_cons, List.getD_cons_zero, List.getD_cons_succ, bind_s, lt_cmp0, belowB_snoc]
def runOk (r : List Rw) : Bool := decide (0 < r.length) && (isS r && aok r)
def runSz (l : List (List Rw)) : Prop := szL List.length l ≤ 1073741824
theorem iValidRuns (l : List (List Rw)) (h : runSz l) : callI tE f_impl_AreValidRuns [.sl (l.map rsE)] = some [.bool (l.all runOk)] := by
  have hl := szL_len List.length l
  unfold runSz at h
  rw [c_impl_AreValidRuns]
  have := all_loop (l := l) (L := L_impl_AreValidRuns_0 (l.map rsE) (lenI (l.map rsE))) (p := runOk) (no := some [.bool false]) (yes := some [.bool true]) (by omega) (fun u a v e => by
    have ha : a.length ≤ 1073741824 := Nat.le_trans (szL_mem' (by rw [e]; simp)) h
    subst e
    rw [L_impl_AreValidRuns_0_eq]
    simp only [lt_m, in_m, tn_c, at_m, cond_true, rsE, gn_c, gb_c, gs_c, gl_c, tk_s, tk_0, List.drop_succ_cons, List.drop_zero, List.headD_cons, List.getD_cons_zero, List.getD_cons_succ, bind_s, iIsSorted a (show a.length < 4611686018427387904 by omega), iAreValid]
    rw [lenI_map Rw.e a]
    unfold runOk
    by_cases h0 : a.length = 0
    · rw [eqT (by omega), h0]; rfl
    · rw [eqF (by omega), decide_eq_true (show 0 < a.length by omega)]
      cases isS a
      · rfl
      · cases aok a <;> rfl) (by rw [L_impl_AreValidRuns_0_eq, lt_e, cond_false])
  exact this.trans (bif_bo _)
theorem sValidRuns (l : List (List Rw)) (h : runSz l) : callI tE f_spec_AreValidRuns [.sl (l.map rsE)] = some [.bool (l.all runOk)] := by
  have hl := szL_len List.length l
  unfold runSz at h
  rw [c_spec_AreValidRuns]
  have := all_loop (l := l) (L := L_spec_AreValidRuns_0 (l.map rsE)) (p := runOk) (no := some [.bool false]) (yes := some [.bool true]) (by omega) (fun u a v e => by
    have ha : a.length ≤ 1073741824 := Nat.le_trans (szL_mem' (by rw [e]; simp)) h
    subst e
    rw [L_spec_AreValidRuns_0_eq]
    simp only [lt_m, in_m, tn_c, at_m, cond_true, rsE, gn_c, gb_c, gs_c, gl_c, tk_s, tk_0, List.drop_succ_cons, List.drop_zero, List.headD_cons, List.getD_cons_zero, List.getD_cons_succ, bind_s, sIsSorted a (show a.length < 4611686018427387904 by omega), sAreValid a (show a.length < 4611686018427387904 by omega)]
    rw [lenI_map Rw.e a]
    unfold runOk
    by_cases h0 : a.length = 0
    · rw [eqT (by omega), h0]; rfl
    · rw [eqF (by omega), decide_eq_true (show 0 < a.length by omega)]
      cases isS a
      · rfl
      · cases aok a <;> rfl) (by rw [L_spec_AreValidRuns_0_eq, lt_e, cond_false])
  exact this.trans (bif_bo _)
theorem flat_le (m : List (List Rw)) : m.flatten.length ≤ szL List.length m := by
  induction m with
  | nil => simp
  | cons a m ih => simp only [List.flatten_cons, List.length_append, szL]; omega
theorem iFlatten (l : List (List Rw)) (h : runSz l) : callI tE f_impl_FlattenRuns [.sl (l.map rsE)] = some [.sl (l.flatten.map Rw.e)] := by
  have hl := szL_len List.length l
  unfold runSz at h
  rw [c_impl_FlattenRuns]
  have := zip_loop (l := l) (L := fun (s : List Rw) i => L_impl_FlattenRuns_0 (l.map rsE) (lenI (l.map rsE)) i (s.map Rw.e)) (F := fun _ _ => some [.sl (l.flatten.map Rw.e)]) (I := fun s u _ => s = u.flatten) (by omega) (fun u a v s e hI => by
    have h1 := flat_le (u ++ [a])
    have h2 : szL List.length (u ++ [a]) ≤ szL List.length l := by have := szL_split List.length (u ++ [a]) v; rw [e, show u ++ a :: v = (u ++ [a]) ++ v by simp, this]; omega
    refine .inl ⟨(u ++ [a]).flatten, ?_, rfl, rfl⟩
    show L_impl_FlattenRuns_0 _ _ _ _ = L_impl_FlattenRuns_0 _ _ _ _
    subst e
    rw [L_impl_FlattenRuns_0_eq, hI]
    simp only [lt_m, in_m, tn_c, at_m, cond_true, rsE, gn_c, gb_c, gs_c, gl_c, tk_s, tk_0, List.drop_succ_cons, List.drop_zero, List.headD_cons, List.getD_cons_zero, List.getD_cons_succ, bind_s, len_map, app_map2]
    have h3 : (u ++ [a]).flatten.length = u.flatten.length + a.length := by rw [List.flatten_append, List.length_append]; simp
    rw [show fitM (u.flatten.length + a.length) 24 = true from fitT (by omega)]
    simp) (fun s hs => by
    show L_impl_FlattenRuns_0 _ _ _ _ = _
    rw [L_impl_FlattenRuns_0_eq, lt_e, cond_false, hs]) [] rfl
  exact this
theorem sFlatten (l : List (List Rw)) (h : runSz l) : callI tE f_spec_FlattenRuns [.sl (l.map rsE)] = some [.sl (l.flatten.map Rw.e)] := by
  have hl := szL_len List.length l
  unfold runSz at h
  rw [c_spec_FlattenRuns]
  have := zip_loop (l := l) (L := fun (s : List Rw) i => L_spec_FlattenRuns_0 (l.map rsE) i (s.map Rw.e)) (F := fun _ _ => some [.sl (l.flatten.map Rw.e)]) (I := fun s u _ => s = u.flatten) (by omega) (fun u a v s e hI => by
    have h1 := flat_le (u ++ [a])
    have h2 : szL List.length (u ++ [a]) ≤ szL List.length l := by have := szL_split List.length (u ++ [a]) v; rw [e, show u ++ a :: v = (u ++ [a]) ++ v by simp, this]; omega
    refine .inl ⟨(u ++ [a]).flatten, ?_, rfl, rfl⟩
    show L_spec_FlattenRuns_0 _ _ _ = L_spec_FlattenRuns_0 _ _ _
    subst e
    rw [L_spec_FlattenRuns_0_eq, hI]
    simp only [lt_m, in_m, tn_c, at_m, cond_true, rsE, gn_c, gb_c, gs_c, gl_c, tk_s, tk_0, List.drop_succ_cons, List.drop_zero, List.headD_cons, List.getD_cons_zero, List.getD_cons_succ, bind_s, len_map, app_map2]
    have h3 : (u ++ [a]).flatten.length = u.flatten.length + a.length := by rw [List.flatten_append, List.length_append]; simp
    rw [show fitM (u.flatten.length + a.length) 24 = true from fitT (by omega)]
    simp) (fun s hs => by
    show L_spec_FlattenRuns_0 _ _ _ = _
    rw [L_spec_FlattenRuns_0_eq, lt_e, cond_false, hs]) [] rfl
  exact this
def mrgF : Nat → List Rw → List Rw → List Rw
  | 0, _, _ => []
  | _ + 1, [], b => b
  | _ + 1, a, [] => a
  | n + 1, x :: a, y :: b => if Rw.le x y then x :: mrgF n a (y :: b) else y :: mrgF n (x :: a) b
def mrg (a b : List Rw) : List Rw := mrgF (a.length + b.length) a b
theorem mrgF_enough : ∀ (n m : Nat) (a b : List Rw), a.length + b.length ≤ n → a.length + b.length ≤ m → mrgF n a b = mrgF m a b
  | 0, 0, _, _, _, _ => rfl
  | 0, m + 1, a, b, h, _ => by
    have h1 : a = [] := List.length_eq_zero_iff.mp (by omega)
    have h2 : b = [] := List.length_eq_zero_iff.mp (by omega)
    subst h1; subst h2; rfl
  | n + 1, 0, a, b, _, h => by
    have h1 : a = [] := List.length_eq_zero_iff.mp (by omega)
    have h2 : b = [] := List.length_eq_zero_iff.mp (by omega)
    subst h1; subst h2; rfl
  | n + 1, m + 1, [], b, _, _ => rfl
  | n + 1, m + 1, x :: a, [], _, _ => rfl
  | n + 1, m + 1, x :: a, y :: b, h, h2 => by
    simp only [List.length_cons] at h h2
    simp only [mrgF]
    rw [mrgF_enough n m a (y :: b) (by simp; omega) (by simp; omega), mrgF_enough n m (x :: a) b (by simp; omega) (by simp; omega)]
theorem mrg_nil (b : List Rw) : mrg [] b = b := by
  cases b <;> rfl
theorem mrg_nil' (a : List Rw) : mrg a [] = a := by
  cases a <;> rfl
theorem mrg_cc (x y : Rw) (a b : List Rw) : mrg (x :: a) (y :: b) = if Rw.le x y then x :: mrg a (y :: b) else y :: mrg (x :: a) b := by
  unfold mrg
  rw [show (x :: a).length + (y :: b).length = (a.length + b.length + 1) + 1 by simp; omega]
  simp only [mrgF]
  rw [mrgF_enough _ (a.length + (y :: b).length) a (y :: b) (by simp; omega) (by simp), mrgF_enough _ ((x :: a).length + b.length) (x :: a) b (by simp; omega) (by simp)]
theorem mrg_len : ∀ (n : Nat) (a b : List Rw), a.length + b.length = n → (mrg a b).length = n
  | _, [], b, h => by rw [mrg_nil]; simpa using h
  | _, x :: a, [], h => by rw [mrg_nil']; simpa using h
  | 0, x :: a, y :: b, h => by simp at h
  | n + 1, x :: a, y :: b, h => by
    simp only [List.length_cons] at h
    rw [mrg_cc]
    split
    · rw [List.length_cons, mrg_len n a (y :: b) (by simp; omega)]
    · rw [List.length_cons, mrg_len n (x :: a) b (by simp; omega)]
theorem mrg_length (a b : List Rw) : (mrg a b).length = a.length + b.length := mrg_len _ a b rfl
theorem ne_nil0 (r : Rw) (p : List Rw) : ltI 0 (lenI ((r :: p).map Rw.e)) = true := by rw [lenI_map]; exact ltT (by (first | omega | (simp only [List.length_append, List.length_cons, List.length_nil, List.length_map, List.length_take, List.length_drop, List.length_replicate, szI_S] at * <;> omega)))
theorem iMrg_loop : ∀ (n : Nat) (a b acc : List Rw), a.length + b.length = n → acc.length + n ≤ 2147483648 → L_impl_MergeSorted_0 (a.map Rw.e) (b.map Rw.e) (acc.map Rw.e) = some [.sl ((acc ++ mrg a b).map Rw.e)]
  | 0, a, b, acc, h, _ => by
    have h1 : a = [] := List.length_eq_zero_iff.mp (by omega)
    have h2 : b = [] := List.length_eq_zero_iff.mp (by omega)
    subst h1; subst h2
    rw [L_impl_MergeSorted_0_eq]
    rw [mrg_nil, List.append_nil]; rfl
  | n + 1, [], y :: b, acc, h, hl => by
    have ih := iMrg_loop n [] b (acc ++ [y]) (by simp at h ⊢; omega) (by simp; omega)
    have f1 : fitM (Nat.succ (len (acc.map Rw.e))) 24 = true := by rw [len_map]; exact fitT (by omega)
    have a1 : ([[Dat.int y.k, .int y.v, .int y.w]] : Rows) = [y.e] := rfl
    have z1 : lenI (([] : List Rw).map Rw.e) = 0 := rfl
    have le01 : leI 0 1 = true := rfl
    rw [L_impl_MergeSorted_0_eq, z1, ltF (show (0 : Int) ≤ 0 by omega)]
    simp only [cond_false, cond_true, ne_nil0, ne_0, in_0, head_at, gk, gv, gw, f1, le_1, le01, Bool.and_self, cut_tail, a1, app_map]
    rw [ih, mrg_nil, mrg_nil]
    simp
  | n + 1, x :: a, [], acc, h, hl => by
    have ih := iMrg_loop n a [] (acc ++ [x]) (by simp at h ⊢; omega) (by simp; omega)
    have f1 : fitM (Nat.succ (len (acc.map Rw.e))) 24 = true := by rw [len_map]; exact fitT (by omega)
    have a1 : ([[Dat.int x.k, .int x.v, .int x.w]] : Rows) = [x.e] := rfl
    have z1 : lenI (([] : List Rw).map Rw.e) = 0 := rfl
    have le01 : leI 0 1 = true := rfl
    rw [L_impl_MergeSorted_0_eq, z1, eqT (show (0 : Int) = 0 by omega)]
    simp only [cond_false, cond_true, ne_nil0, ne_0, in_0, head_at, gk, gv, gw, f1, le_1, le01, Bool.and_self, cut_tail, a1, app_map]
    rw [ih, mrg_nil', mrg_nil']
    simp
  | n + 1, x :: a, y :: b, acc, h, hl => by
    have f1 : fitM (Nat.succ (len (acc.map Rw.e))) 24 = true := by rw [len_map]; exact fitT (by omega)
    have a1 : ([[Dat.int x.k, .int x.v, .int x.w]] : Rows) = [x.e] := rfl
    have a2 : ([[Dat.int y.k, .int y.v, .int y.w]] : Rows) = [y.e] := rfl
    have le01 : leI 0 1 = true := rfl
    rw [L_impl_MergeSorted_0_eq]
    simp only [cond_false, cond_true, ne_nil0, ne_0, in_0, head_at, gk, gv, gw, f1, le_1, le01, Bool.and_self, cut_tail, a1, a2, app_map, iCompare, gn_c, gb_c, gs_c, gl_c, tk_s, tk_0, List.drop_succ_cons, List.drop_zero, List.headD_cons, List.getD_cons_zero, List.getD_cons_succ, bind_s, le_cmp0]
    rw [mrg_cc]
    by_cases hxy : Rw.le x y
    · rw [decide_eq_true hxy, if_pos hxy, cond_true, iMrg_loop n a (y :: b) (acc ++ [x]) (by simp at h ⊢; omega) (by simp; omega)]
      simp
    · rw [decide_eq_false hxy, if_neg hxy, cond_false, iMrg_loop n (x :: a) b (acc ++ [y]) (by simp at h ⊢; omega) (by simp; omega)]
      simp
theorem iMrg (a b : List Rw) (h : a.length + b.length ≤ 2147483648) : callI tE f_impl_MergeSorted [.sl (a.map Rw.e), .sl (b.map Rw.e)] = some [.sl ((mrg a b).map Rw.e)] := by
  rw [c_impl_MergeSorted]
  have := iMrg_loop _ a b [] rfl (by simpa using h)
  simpa using this
theorem sMrg_loop (A B : List Rw) (hA : A.length + B.length ≤ 2147483648) : ∀ (n : Nat) (a b ua ub acc : List Rw), A = ua ++ a → B = ub ++ b → a.length + b.length = n → acc.length + n ≤ 2147483648 →
    L_spec_MergeSorted_0 (A.map Rw.e) (B.map Rw.e) (ua.length : Nat) (ub.length : Nat) (acc.map Rw.e) = some [.sl ((acc ++ mrg a b).map Rw.e)]
  | 0, a, b, ua, ub, acc, ha, hb, h, _ => by
    have h1 : a = [] := List.length_eq_zero_iff.mp (by omega)
    have h2 : b = [] := List.length_eq_zero_iff.mp (by omega)
    subst h1; subst h2
    rw [List.append_nil] at ha hb
    rw [L_spec_MergeSorted_0_eq, lenI_map, lenI_map, ltF (by rw [ha]; omega), ltF (by rw [hb]; omega), mrg_nil, List.append_nil]; rfl
  | n + 1, [], y :: b, ua, ub, acc, ha, hb, h, hl => by
    rw [List.append_nil] at ha
    have hBl : B.length = ub.length + (b.length + 1) := by rw [hb]; simp
    have ih := sMrg_loop A B hA n [] b ua (ub ++ [y]) (acc ++ [y]) (by simpa using ha) (by rw [hb]; simp) (by simp at h ⊢; omega) (by simp; omega)
    rw [List.length_append, List.length_singleton] at ih
    have f1 : fitM (Nat.succ (len (acc.map Rw.e))) 24 = true := by rw [len_map]; exact fitT (by omega)
    have a1 : ([[Dat.int y.k, .int y.v, .int y.w]] : Rows) = [y.e] := rfl
    have b1 : at' (B.map Rw.e) ub.length = y.e := at_i hb rfl
    have b2 : inR (ub.length : Int) (lenI (B.map Rw.e)) = true := in_i (by omega)
    rw [L_spec_MergeSorted_0_eq, b2]
    simp only [lenI_map, tn_c, b1, gk, gv, gw, a1, app_map, f1]
    rw [ltF (show (A.length : Int) ≤ (ua.length : Int) by rw [ha]; omega), ltT (show (ub.length : Int) < (B.length : Int) by omega), eqF (show (ub.length : Int) ≠ (B.length : Int) by omega), w64_s (show ub.length < 9223372036854775807 by omega)]
    simp only [cond_true, cond_false]
    rw [ih, mrg_nil, mrg_nil]
    simp
  | n + 1, x :: a, [], ua, ub, acc, ha, hb, h, hl => by
    rw [List.append_nil] at hb
    have hAl : A.length = ua.length + (a.length + 1) := by rw [ha]; simp
    have ih := sMrg_loop A B hA n a [] (ua ++ [x]) ub (acc ++ [x]) (by rw [ha]; simp) (by simpa using hb) (by simp at h ⊢; omega) (by simp; omega)
    rw [List.length_append, List.length_singleton] at ih
    have f1 : fitM (Nat.succ (len (acc.map Rw.e))) 24 = true := by rw [len_map]; exact fitT (by omega)
    have a1 : ([[Dat.int x.k, .int x.v, .int x.w]] : Rows) = [x.e] := rfl
    have b1 : at' (A.map Rw.e) ua.length = x.e := at_i ha rfl
    have b2 : inR (ua.length : Int) (lenI (A.map Rw.e)) = true := in_i (by omega)
    rw [L_spec_MergeSorted_0_eq, b2]
    simp only [lenI_map, tn_c, b1, gk, gv, gw, a1, app_map, f1]
    rw [ltT (show (ua.length : Int) < (A.length : Int) by omega), eqT (show (ub.length : Int) = (B.length : Int) by rw [hb]), w64_s (show ua.length < 9223372036854775807 by omega)]
    simp only [cond_true, cond_false]
    rw [ih, mrg_nil', mrg_nil']
    simp
  | n + 1, x :: a, y :: b, ua, ub, acc, ha, hb, h, hl => by
    have hAl : A.length = ua.length + (a.length + 1) := by rw [ha]; simp
    have hBl : B.length = ub.length + (b.length + 1) := by rw [hb]; simp
    have f1 : fitM (Nat.succ (len (acc.map Rw.e))) 24 = true := by rw [len_map]; exact fitT (by omega)
    have a1 : ([[Dat.int x.k, .int x.v, .int x.w]] : Rows) = [x.e] := rfl
    have a2 : ([[Dat.int y.k, .int y.v, .int y.w]] : Rows) = [y.e] := rfl
    have b1 : at' (A.map Rw.e) ua.length = x.e := at_i ha rfl
    have b2 : inR (ua.length : Int) (lenI (A.map Rw.e)) = true := in_i (by omega)
    have b3 : at' (B.map Rw.e) ub.length = y.e := at_i hb rfl
    have b4 : inR (ub.length : Int) (lenI (B.map Rw.e)) = true := in_i (by omega)
    rw [L_spec_MergeSorted_0_eq, b2, b4]
    simp only [lenI_map, tn_c, b1, b3, gk, gv, gw, a1, a2, app_map, f1, sCompare, gn_c, gb_c, gs_c, gl_c, tk_s, tk_0, List.drop_succ_cons, List.drop_zero, List.headD_cons, List.getD_cons_zero, List.getD_cons_succ, bind_s, le_cmp0]
    rw [ltT (show (ua.length : Int) < (A.length : Int) by omega), eqF (show (ub.length : Int) ≠ (B.length : Int) by omega), w64_s (show ua.length < 9223372036854775807 by omega), w64_s (show ub.length < 9223372036854775807 by omega)]
    simp only [cond_true, cond_false]
    rw [mrg_cc]
    by_cases hxy : Rw.le x y
    · have ih := sMrg_loop A B hA n a (y :: b) (ua ++ [x]) ub (acc ++ [x]) (by rw [ha]; simp) hb (by simp at h ⊢; omega) (by simp; omega)
      rw [List.length_append, List.length_singleton] at ih
      rw [decide_eq_true hxy, if_pos hxy, cond_true, ih]
      simp
    · have ih := sMrg_loop A B hA n (x :: a) b ua (ub ++ [y]) (acc ++ [y]) ha (by rw [hb]; simp) (by simp at h ⊢; omega) (by simp; omega)
      rw [List.length_append, List.length_singleton] at ih
      rw [decide_eq_false hxy, if_neg hxy, cond_false, ih]
      simp
theorem sMrg (a b : List Rw) (h : a.length + b.length ≤ 2147483648) : callI tE f_spec_MergeSorted [.sl (a.map Rw.e), .sl (b.map Rw.e)] = some [.sl ((mrg a b).map Rw.e)] := by
  rw [c_spec_MergeSorted]
  have := sMrg_loop a b h _ a b [] [] [] rfl rfl rfl (by simpa using h)
  simpa using this
def bagEq (a b : List Rw) : Bool := decide (isort a = isort b)
theorem bagEq_iff {a b : List Rw} : bagEq a b = true ↔ a.Perm b := by
  simp only [bagEq, decide_eq_true_eq]
  constructor
  · intro h
    exact (isort_perm a).symm.trans (h ▸ isort_perm b)
  · intro h
    exact srt_unique ((isort_perm a).trans (h.trans (isort_perm b).symm)) (isort_srt a) (isort_srt b)
theorem bagEq_len {a b : List Rw} (h : ¬ a.length = b.length) : bagEq a b = false := by
  rw [← Bool.not_eq_true, bagEq_iff]
  exact fun hh => h hh.length_eq
theorem iBags (a b : List Rw) (ha : a.length ≤ 1099511627770) (hb : b.length ≤ 1099511627770) : callI tE f_impl_EqualBags [.sl (a.map Rw.e), .sl (b.map Rw.e)] = some [.bool (bagEq a b)] := by
  rw [c_impl_EqualBags]
  by_cases h : a.length = b.length
  · rw [eq_len h, cond_true]
    simp only [iSort a ha, iSort b hb, gn_c, gb_c, gs_c, gl_c, tk_s, tk_0, List.drop_succ_cons, List.drop_zero, List.headD_cons, List.getD_cons_zero, List.getD_cons_succ, bind_s]
    rw [iEqual _ _ (by rw [isort_len]; omega)]
    rfl
  · rw [ne_len h, cond_false, bagEq_len h]
theorem sBags (a b : List Rw) (ha : a.length ≤ 1099511627770) (hb : b.length ≤ 1099511627770) : callI tE f_spec_EqualBags [.sl (a.map Rw.e), .sl (b.map Rw.e)] = some [.bool (bagEq a b)] := by
  rw [c_spec_EqualBags]
  simp only [sSort a ha, sSort b hb, gn_c, gb_c, gs_c, gl_c, tk_s, tk_0, List.drop_succ_cons, List.drop_zero, List.headD_cons, List.getD_cons_zero, List.getD_cons_succ, bind_s]
  by_cases h : a.length = b.length
  · rw [eq_len (by rw [isort_len, isort_len, h]), Bool.not_true, cond_false]
    have := eq_loop (L := fun x y i => L_spec_EqualBags_0 i x y) (e := Rw.e) (P := fun _ => True) (fun p q p' q' a b _ hpl hlt => by
      rw [L_spec_EqualBags_0_eq]
      simp only [lt_mid, in_mid, tn_c, at_mid, cond_true, cond_false, gn_c, gb_c, gs_c, gl_c, tk_s, tk_0, List.drop_succ_cons, List.drop_zero, List.headD_cons, List.getD_cons_zero, List.getD_cons_succ, bind_s, in_mid' hpl, at_mid' hpl, Rw.e, eq_Rw3, bifn]) (fun p p' hpl => by
      rw [L_spec_EqualBags_0_eq, lt_end, cond_false]) (isort a) (isort b) [] [] rfl (by rw [isort_len, isort_len, h]) (fun a ha => trivial) (by simp [isort_len]; omega)
    simpa [bagEq] using this
  · rw [ne_len (by rw [isort_len, isort_len]; exact h), Bool.not_false, cond_true, bagEq_len h]
def rc (l : List (List Rw)) (n : Nat) (p : Int) : Nat := match l[n]? with
  | none => 0
  | some r => if p < 0 then 0 else match r[p.toNat]? with
    | none => 0
    | some x => x.cost
theorem rc_le (l : List (List Rw)) (n : Nat) (p : Int) : rc l n p ≤ 4 := by
  unfold rc
  split
  · omega
  · split
    · omega
    · split
      · omega
      · exact cost_le _
def memS (s : So) : Nat := if s.ph = 1 then tcost s.heap + tcost s.dfd else if s.ph = 2 then (if s.lp < 0 ∨ s.rp < 0 then 0 else rc s.runs 0 s.lp + rc s.runs 1 s.rp) else if s.ph = 3 then rc s.runs 0 s.lp else 0
def So.B (s : So) : Prop := s.sz ≤ 1073741824
theorem So.B.p {s : So} (h : s.B) : s.inp.length ≤ 1073741824 ∧ s.heap.length ≤ 1073741824 ∧ s.dfd.length ≤ 1073741824 ∧ s.out.length ≤ 1073741824 ∧ runSz s.runs := by
  simp only [So.B, So.sz] at h
  unfold runSz
  omega
theorem iRunCost (s : So) (n : Nat) (p : Int) (h : s.B) : callI tE f_impl_runCost [.sl (s.inp.map Rw.e), .int s.pos, .sl (s.heap.map Rw.e), .sl (s.dfd.map Rw.e), .sl (s.out.map Rw.e), .sl (s.runs.map rsE), .int s.lp, .int s.rp, .int s.ph, .int s.wr, .int (n : Int), .int p] = some [.int (rc s.runs n p : Nat)] := by
  have hl := szL_len List.length s.runs
  have hb := h.p.2.2.2.2
  unfold runSz at hb
  rw [c_impl_runCost, lenI_map]
  unfold rc
  by_cases hn : n < s.runs.length
  · obtain ⟨u, a, v, hr, rfl⟩ := split_at hn
    have ha : a.length ≤ 1073741824 := Nat.le_trans (szL_mem' (by rw [hr]; simp)) hb
    have e1 : s.runs[u.length]? = some a := by rw [hr]; simp
    have e2 : at' (s.runs.map rsE) u.length = rsE a := at_i hr rfl
    rw [leF (by omega), cond_false, e1]
    simp only [tn_c, e2, rsE, gn_c, gb_c, gs_c, gl_c, tk_s, tk_0, List.drop_succ_cons, List.drop_zero, List.headD_cons, List.getD_cons_zero, List.getD_cons_succ, bind_s, lenI_map]
    by_cases hp : p < 0
    · rw [ltT hp, cond_true, if_pos hp]; rfl
    · rw [ltF (by omega), cond_false, if_neg hp, inRT (by omega) (by omega), cond_true]
      by_cases hpa : p.toNat < a.length
      · obtain ⟨u2, x, v2, hx, hu2⟩ := split_at hpa
        have e3 : a[p.toNat]? = some x := by rw [hx, ← hu2]; simp
        have e4 : at' (a.map Rw.e) (tn p) = x.e := at_i hx hu2
        rw [leF (by omega), cond_false, e3, inRT (by omega) (by omega), cond_true, cond_true]
        simp only [e4, gk, gv, gw, iRowCost, gn_c, gb_c, gs_c, gl_c, tk_s, tk_0, List.drop_succ_cons, List.drop_zero, List.headD_cons, List.getD_cons_zero, List.getD_cons_succ, bind_s]
      · rw [leT (by omega), cond_true, List.getElem?_eq_none (by omega)]; rfl
  · rw [leT (by omega), cond_true, List.getElem?_eq_none (by omega)]; rfl
theorem sRowAt (l : List (List Rw)) (n : Nat) (p : Int) (h : runSz l) (hp : 0 ≤ p) : ∃ q : List Rw, callI tE f_spec_l13Row [.sl (l.map rsE), .int (n : Int), .int p] = some [.sl (q.map Rw.e)] ∧ tcost q = rc l n p ∧ q.length ≤ 1 ∧ q = (match l[n]? with
    | none => []
    | some r => (match r[p.toNat]? with
      | none => []
      | some x => [x])) := by
  have hl := szL_len List.length l
  unfold runSz at h
  rw [c_spec_l13Row, lenI_map]
  unfold rc
  by_cases hn : n < l.length
  · obtain ⟨u, a, v, hr, rfl⟩ := split_at hn
    have ha : a.length ≤ 1073741824 := Nat.le_trans (szL_mem' (by rw [hr]; simp)) h
    have e1 : l[u.length]? = some a := by rw [hr]; simp
    have e2 : at' (l.map rsE) u.length = rsE a := at_i hr rfl
    rw [ltT (by omega), cond_true, inRT (by omega) (by omega), e1]
    simp only [tn_c, e2, rsE, gn_c, gb_c, gs_c, gl_c, tk_s, tk_0, List.drop_succ_cons, List.drop_zero, List.headD_cons, List.getD_cons_zero, List.getD_cons_succ, bind_s, lenI_map, cond_true]
    rw [if_neg (by omega)]
    by_cases hpa : p.toNat < a.length
    · obtain ⟨u2, x, v2, hx, hu2⟩ := split_at hpa
      have e3 : a[p.toNat]? = some x := by rw [hx, ← hu2]; simp
      have e4 : at' (a.map Rw.e) (tn p) = x.e := at_i hx hu2
      rw [ltT (by omega), cond_true, e3, inRT (by omega) (by omega), cond_true]
      exact ⟨[x], by simp only [e4, gk, gv, gw]; rfl, by simp [tcost], by simp, rfl⟩
    · rw [ltF (by omega), cond_false, List.getElem?_eq_none (by omega)]
      exact ⟨[], rfl, rfl, by simp, rfl⟩
  · rw [ltF (by omega), cond_false, List.getElem?_eq_none (by omega)]
    exact ⟨[], rfl, rfl, by simp, rfl⟩
theorem iMem (s : So) (h : s.B) : callI tE f_impl_SorterMemory [.sl (s.inp.map Rw.e), .int s.pos, .sl (s.heap.map Rw.e), .sl (s.dfd.map Rw.e), .sl (s.out.map Rw.e), .sl (s.runs.map rsE), .int s.lp, .int s.rp, .int s.ph, .int s.wr] = some [.int (memS s : Nat)] := by
  obtain ⟨h1, h2, h3, h4, h5⟩ := h.p
  have r0 := iRunCost s 0 s.lp h
  have r1 := iRunCost s 1 s.rp h
  have e0 : ((0 : Nat) : Int) = 0 := rfl
  have e1 : ((1 : Nat) : Int) = 1 := rfl
  rw [e0] at r0
  rw [e1] at r1
  have t1 := tcost_le s.heap
  have t2 := tcost_le s.dfd
  have q1 := rc_le s.runs 0 s.lp
  have q2 := rc_le s.runs 1 s.rp
  rw [c_impl_SorterMemory]
  simp only [iTotalCost s.heap (by omega), iTotalCost s.dfd (by omega), r0, r1, gn_c, gb_c, gs_c, gl_c, tk_s, tk_0, List.drop_succ_cons, List.drop_zero, List.headD_cons, List.getD_cons_zero, List.getD_cons_succ, bind_s]
  unfold memS
  by_cases p1 : s.ph = 1
  · rw [eqT p1, cond_true, if_pos p1, w64_id ⟨by omega, by omega⟩]
    simp
  · rw [eqF p1, cond_false, if_neg p1]
    by_cases p2 : s.ph = 2
    · rw [eqT p2, cond_true, if_pos p2]
      by_cases p3 : s.lp < 0
      · rw [ltT p3, if_pos (.inl p3)]; rfl
      · rw [ltF (by omega), cond_false]
        by_cases p4 : s.rp < 0
        · rw [ltT p4, if_pos (.inr p4)]; rfl
        · rw [ltF (by omega), cond_false, if_neg (by omega), w64_id ⟨by omega, by omega⟩]
          simp
    · rw [eqF p2, cond_false, if_neg p2]
      by_cases p3 : s.ph = 3
      · rw [eqT p3, cond_true, if_pos p3]
      · rw [eqF p3, cond_false, if_neg p3]; rfl
theorem sMem (s : So) (h : s.B) : callI tE f_spec_SorterMemory [.sl (s.inp.map Rw.e), .int s.pos, .sl (s.heap.map Rw.e), .sl (s.dfd.map Rw.e), .sl (s.out.map Rw.e), .sl (s.runs.map rsE), .int s.lp, .int s.rp, .int s.ph, .int s.wr] = some [.int (memS s : Nat)] := by
  obtain ⟨h1, h2, h3, h4, h5⟩ := h.p
  have t1 := tcost_le s.heap
  have t2 := tcost_le s.dfd
  have q1 := rc_le s.runs 0 s.lp
  have q2 := rc_le s.runs 1 s.rp
  rw [c_spec_SorterMemory]
  simp only [sTotalCost s.heap (by omega), sTotalCost s.dfd (by omega), gn_c, gb_c, gs_c, gl_c, tk_s, tk_0, List.drop_succ_cons, List.drop_zero, List.headD_cons, List.getD_cons_zero, List.getD_cons_succ, bind_s]
  unfold memS
  by_cases p1 : s.ph = 1
  · rw [eqT p1, cond_true, if_pos p1, w64_id ⟨by omega, by omega⟩]
    simp
  · rw [eqF p1, cond_false, if_neg p1]
    by_cases p2 : s.ph = 2
    · rw [eqT p2, cond_true, if_pos p2]
      by_cases p3 : s.lp < 0
      · rw [ltT p3, if_pos (.inl p3)]; rfl
      · rw [ltF (by omega), cond_false]
        by_cases p4 : s.rp < 0
        · rw [ltT p4, if_pos (.inr p4)]; rfl
        · obtain ⟨a, a1, a2, a3, _⟩ := sRowAt s.runs 0 s.lp h5 (by omega)
          obtain ⟨b, b1, b2, b3, _⟩ := sRowAt s.runs 1 s.rp h5 (by omega)
          rw [show ((0 : Nat) : Int) = 0 from rfl] at a1
          rw [show ((1 : Nat) : Int) = 1 from rfl] at b1
          rw [ltF (by omega), cond_false, if_neg (by omega)]
          simp only [a1, b1, gn_c, gb_c, gs_c, gl_c, tk_s, tk_0, List.drop_succ_cons, List.drop_zero, List.headD_cons, List.getD_cons_zero, List.getD_cons_succ, bind_s, sTotalCost a (by omega), sTotalCost b (by omega), a2, b2]
          rw [w64_id ⟨by omega, by omega⟩]
          simp
    · rw [eqF p2, cond_false, if_neg p2]
      by_cases p3 : s.ph = 3
      · rw [eqT p3, cond_true, if_pos p3]
        by_cases p4 : s.lp < 0
        · rw [ltT p4, cond_true]
          unfold rc
          cases s.runs[0]? <;> simp [p4]
        · obtain ⟨a, a1, a2, a3, _⟩ := sRowAt s.runs 0 s.lp h5 (by omega)
          rw [show ((0 : Nat) : Int) = 0 from rfl] at a1
          rw [ltF (by omega), cond_false]
          simp only [a1, gn_c, gb_c, gs_c, gl_c, tk_s, tk_0, List.drop_succ_cons, List.drop_zero, List.headD_cons, List.getD_cons_zero, List.getD_cons_succ, bind_s, sTotalCost a (by omega), a2]
      · rw [eqF p3, cond_false, if_neg p3]; rfl
end Go.Proofs.Ytbmafhpbinjgaaa.Vai
namespace Go.Proofs.Ytbmafhpbinjgaaa.Vai
open Go
set_option linter.unusedSimpArgs false
set_option linter.unusedVariables false
set_option linter.unnecessarySimpa false
set_option maxRecDepth 10000
def mergeOk (s : So) : Bool := match s.runs with
  | a :: b :: _ => win s.lp 0 a.length && (win s.rp 0 b.length && (decide (s.out = mrg (a.take s.lp.toNat) (b.take s.rp.toNat)) && decide (s.out = (mrg a b).take (s.lp.toNat + s.rp.toNat))))
  | _ => false
def soLate (s : So) : Bool :=
  if s.ph = 2 then mergeOk s
  else if s.ph = 3 then decide (s.runs.length = 1) && (decide (0 ≤ s.lp ∧ s.lp < s.inp.length) && (decide (s.rp = 0) && decide (s.out = [])))
  else if s.ph = 4 then decide (s.runs.length ≤ 1) && (decide (s.lp = s.inp.length) && (decide (s.rp = 0) && decide (s.out = [])))
  else false
def soTail (s : So) : Bool :=
  if s.ph = 1 then decide (s.lp = 0) && (decide (s.rp = 0) && (decide (s.out ≠ [] ∨ s.dfd = []) && (decide (memS s ≤ 60) && bagEq (s.runs.flatten ++ (s.out ++ (s.heap ++ s.dfd))) (s.inp.take s.pos.toNat))))
  else decide (s.pos = s.inp.length) && (decide (s.heap = []) && (decide (s.dfd = []) && (bagEq s.runs.flatten s.inp && soLate s)))
def soOk (s : So) : Bool := aok s.inp && (win s.pos 0 s.inp.length && (s.runs.all runOk && (decide (0 ≤ s.wr) && (isS s.out && ((s.heap.all fun r => !belowB r s.out) && soTail s)))))
def So.B2 (s : So) : Prop := s.sz ≤ 1073741800
theorem So.B2.b {s : So} (h : s.B2) : s.B := by simp only [So.B2, So.B] at *; omega
theorem take_p (l : List Rw) (p : Int) : List.take (tn (p - 0)) (List.drop (tn 0) (l.map Rw.e)) = (l.take p.toNat).map Rw.e := by
  show List.take (p - 0).toNat (List.drop 0 (l.map Rw.e)) = _
  rw [Int.sub_zero, List.drop_zero, List.map_take]
theorem nil_len {α : Type} (l : List α) : decide (l = []) = decide (l.length = 0) := by
  cases l <;> simp
theorem dec_le60 (n : Nat) : leI (n : Int) 60 = decide (n ≤ 60) := by
  unfold leI; congr 1; apply propext; omega
theorem iTail (s : So) (h : s.B2) (hp : win s.pos 0 s.inp.length = true) (x0 : Int) (x1 : Rows) (n : Int) :
    L_impl_IsValidSorter_0 x0 x1 n n (s.inp.map Rw.e) s.pos (s.heap.map Rw.e) (s.dfd.map Rw.e) (s.out.map Rw.e) (s.runs.map rsE) s.lp s.rp s.ph s.wr = some [.bool (soTail s)] := by
  obtain ⟨h1, h2, h3, h4, h5⟩ := h.b.p
  have hpp := win_iff.mp hp
  have hfl := flat_le s.runs
  have hsz : s.inp.length + (s.heap.length + (s.dfd.length + (s.out.length + s.runs.flatten.length))) ≤ 1073741800 := by
    simp only [So.B2, So.sz] at h; omega
  have ht : callI tE f_impl_together [.sl [[.sl (s.runs.flatten.map Rw.e)], [.sl (s.out.map Rw.e)], [.sl (s.heap.map Rw.e)], [.sl (s.dfd.map Rw.e)]]] = some [.sl ((s.runs.flatten ++ (s.out ++ (s.heap ++ s.dfd))).map Rw.e)] := by
    have := iTogether [s.runs.flatten, s.out, s.heap, s.dfd] (by simp only [szL]; omega)
    simpa [rsE] using this
  have hb1 := iBags (s.runs.flatten ++ (s.out ++ (s.heap ++ s.dfd))) (s.inp.take s.pos.toNat) (by (first | omega | (simp only [List.length_append, List.length_cons, List.length_nil, List.length_map, List.length_take, List.length_drop, List.length_replicate, szI_S] at * <;> omega))) (by (first | omega | (simp only [List.length_append, List.length_cons, List.length_nil, List.length_map, List.length_take, List.length_drop, List.length_replicate, szI_S] at * <;> omega)))
  have hb2 := iBags s.runs.flatten s.inp (by omega) (by omega)
  rw [L_impl_IsValidSorter_0_eq, ltF (Int.le_refl n), cond_false]
  simp only [iFlatten s.runs h5, iMem s h.b, gn_c, gb_c, gs_c, gl_c, tk_s, tk_0, List.drop_succ_cons, List.drop_zero, List.headD_cons, List.getD_cons_zero, List.getD_cons_succ, bind_s, ht, hb2, take_p, hb1]
  unfold soTail
  by_cases p1 : s.ph = 1
  · rw [eqT p1, cond_true, if_pos p1]
    by_cases q1 : s.lp = 0
    · rw [eqT q1, cond_true, decide_eq_true q1]
      by_cases q2 : s.rp = 0
      · rw [eqT q2, cond_true, decide_eq_true q2, leT (show 0 ≤ s.pos by omega), show leI s.pos (lenI (s.inp.map Rw.e)) = true by rw [lenI_map]; exact leT (by omega)]
        simp only [Bool.and_self, cond_true, dec_le60, lenI_map]
        by_cases q3 : 0 < s.out.length
        · rw [ltT (by omega), cond_true, decide_eq_true (show s.out ≠ [] ∨ s.dfd = [] from .inl (fun e => by rw [e] at q3; simp at q3))]
          cases decide (memS s ≤ 60) <;> rfl
        · rw [ltF (by omega), cond_false]
          have qo : s.out = [] := List.length_eq_zero_iff.mp (by omega)
          by_cases q4 : s.dfd.length = 0
          · rw [eqT (by omega), cond_true, decide_eq_true (show s.out ≠ [] ∨ s.dfd = [] from .inr (List.length_eq_zero_iff.mp q4))]
            cases decide (memS s ≤ 60) <;> rfl
          · rw [eqF (by omega), cond_false, decide_eq_false (show ¬ (s.out ≠ [] ∨ s.dfd = []) from fun e => e.elim (fun e => e qo) (fun e => q4 (by rw [e]; rfl)))]
            rfl
      · rw [eqF q2, decide_eq_false q2]; rfl
    · rw [eqF q1, decide_eq_false q1]; rfl
  · rw [eqF p1, cond_false, if_neg p1]
    simp only [lenI_map]
    by_cases q1 : s.pos = s.inp.length
    · rw [eqT q1, Bool.not_true, cond_false, decide_eq_true q1]
      by_cases q2 : s.heap.length = 0
      · rw [ltF (by omega), cond_false, nil_len s.heap, decide_eq_true q2]
        by_cases q3 : s.dfd.length = 0
        · rw [ltF (by omega), cond_false, nil_len s.dfd, decide_eq_true q3]
          simp only [Bool.true_and]
          cases bagEq s.runs.flatten s.inp
          · rfl
          · simp only [Bool.not_true, cond_false, Bool.true_and]
            unfold soLate
            by_cases p2 : s.ph = 2
            · rw [eqT p2, cond_true, if_pos p2]
              unfold mergeOk
              cases hr : s.runs with
              | nil => rfl
              | cons a r =>
                cases r with
                | nil => rfl
                | cons b r =>
                  have ha : a.length ≤ 1073741824 := Nat.le_trans (szL_mem' (by rw [hr]; simp)) h5
                  have hb : b.length ≤ 1073741824 := Nat.le_trans (szL_mem' (by rw [hr]; simp)) h5
                  have g0 : at' ((a :: b :: r).map rsE) (tn 0) = rsE a := rfl
                  have g1 : at' ((a :: b :: r).map rsE) (tn 1) = rsE b := rfl
                  have l0 : ltI ((a :: b :: r).length : Int) 2 = false := ltF (by simp; omega)
                  have l1 : inR 0 ((a :: b :: r).length : Int) = true := inRT (by omega) (by simp; omega)
                  have l2 : inR 1 ((a :: b :: r).length : Int) = true := inRT (by omega) (by simp; omega)
                  simp only [l0, l1, l2, cond_true, cond_false, g0, g1, rsE, gn_c, gb_c, gs_c, gl_c, tk_s, tk_0, List.drop_succ_cons, List.drop_zero, List.headD_cons, List.getD_cons_zero, List.getD_cons_succ, bind_s, lenI_map, within_ok]
                  by_cases w1 : win s.lp 0 a.length = true
                  · by_cases w2 : win s.rp 0 b.length = true
                    · have w3 := win_iff.mp w1
                      have w4 := win_iff.mp w2
                      have m1 := iMrg (a.take s.lp.toNat) (b.take s.rp.toNat) (by simp; omega)
                      have m2 := iMrg a b (by omega)
                      have ml := mrg_length a b
                      have e1 := iEqual s.out (mrg (a.take s.lp.toNat) (b.take s.rp.toNat)) (by omega)
                      have e2 := iEqual s.out ((mrg a b).take (s.lp.toNat + s.rp.toNat)) (by omega)
                      have e3 : w64 (s.lp + s.rp) = s.lp + s.rp := w64_id ⟨by omega, by omega⟩
                      have e4 : (s.lp + s.rp).toNat = s.lp.toNat + s.rp.toNat := by omega
                      rw [w1, w2, leT w3.1, leT w3.2, leT w4.1, leT w4.2]
                      simp only [Bool.not_true, cond_false, Bool.and_self, cond_true, take_p, m1, m2, e1, gn_c, gb_c, gs_c, gl_c, tk_s, tk_0, List.drop_succ_cons, List.drop_zero, List.headD_cons, List.getD_cons_zero, List.getD_cons_succ, bind_s, e3, e4, lenI_map, e2]
                      rw [leT (by omega), leT (by rw [ml]; omega)]
                      simp only [Bool.and_self, cond_true, Bool.true_and]
                      cases decide (s.out = mrg (a.take s.lp.toNat) (b.take s.rp.toNat)) <;> rfl
                    · rw [w1, (Bool.not_eq_true _).mp w2]; rfl
                  · rw [(Bool.not_eq_true _).mp w1]; rfl
            · rw [eqF p2, cond_false, if_neg p2]
              by_cases p3 : s.ph = 3
              · rw [eqT p3, cond_true, if_pos p3]
                by_cases w1 : s.runs.length = 1
                · rw [eqT (by omega), cond_true, decide_eq_true w1]
                  simp only [within_ok, win_len (show s.inp.length ≤ 1073741824 by omega), gn_c, gb_c, gs_c, gl_c, tk_s, tk_0, List.drop_succ_cons, List.drop_zero, List.headD_cons, List.getD_cons_zero, List.getD_cons_succ, bind_s, Bool.true_and]
                  by_cases w2 : 0 ≤ s.lp ∧ s.lp < s.inp.length
                  · rw [decide_eq_true w2, cond_true]
                    by_cases w3 : s.rp = 0
                    · rw [eqT w3, cond_true, decide_eq_true w3, nil_len]
                      unfold eqI
                      simp
                    · rw [eqF w3, decide_eq_false w3]; rfl
                  · rw [decide_eq_false w2]; rfl
                · rw [eqF (by omega), decide_eq_false w1]; rfl
              · rw [eqF p3, cond_false, if_neg p3]
                by_cases p4 : s.ph = 4
                · rw [eqT p4, cond_true, if_pos p4]
                  by_cases w1 : s.runs.length ≤ 1
                  · rw [leT (by omega), cond_true, decide_eq_true w1]
                    by_cases w2 : s.lp = s.inp.length
                    · rw [eqT w2, cond_true, decide_eq_true w2]
                      by_cases w3 : s.rp = 0
                      · rw [eqT w3, cond_true, decide_eq_true w3, nil_len]
                        unfold eqI
                        simp
                      · rw [eqF w3, decide_eq_false w3]; rfl
                    · rw [eqF w2, decide_eq_false w2]; rfl
                  · rw [leF (by omega), decide_eq_false w1]; rfl
                · rw [eqF p4, if_neg p4]; rfl
        · rw [ltT (by omega), nil_len s.dfd, decide_eq_false q3]; simp
      · rw [ltT (by omega), nil_len s.heap, decide_eq_false q2]; rfl
    · rw [eqF q1, decide_eq_false q1]; rfl
theorem iValidSo (s : So) (h : s.B2) : callI tE f_impl_IsValidSorter [.sl (s.inp.map Rw.e), .int s.pos, .sl (s.heap.map Rw.e), .sl (s.dfd.map Rw.e), .sl (s.out.map Rw.e), .sl (s.runs.map rsE), .int s.lp, .int s.rp, .int s.ph, .int s.wr] = some [.bool (soOk s)] := by
  obtain ⟨h1, h2, h3, h4, h5⟩ := h.b.p
  rw [c_impl_IsValidSorter]
  simp only [iAreValid, within_ok, lenI_map, iValidRuns s.runs h5, iIsSorted s.out (by omega), gn_c, gb_c, gs_c, gl_c, tk_s, tk_0, List.drop_succ_cons, List.drop_zero, List.headD_cons, List.getD_cons_zero, List.getD_cons_succ, bind_s]
  unfold soOk
  cases aok s.inp
  · rfl
  · by_cases hp : win s.pos 0 s.inp.length = true
    · rw [hp]
      cases s.runs.all runOk
      · rfl
      · by_cases hw : 0 ≤ s.wr
        · rw [ltF hw, decide_eq_true hw]
          cases isS s.out
          · rfl
          · have := all_loop (l := s.heap) (L := fun i => L_impl_IsValidSorter_0 0 (s.heap.map Rw.e) (s.heap.length : Nat) i (s.inp.map Rw.e) s.pos (s.heap.map Rw.e) (s.dfd.map Rw.e) (s.out.map Rw.e) (s.runs.map rsE) s.lp s.rp s.ph s.wr) (p := fun r => !belowB r s.out) (no := some [.bool false]) (yes := some [.bool (soTail s)]) (by omega) (fun u a v e => by
              have hu : u.length < s.heap.length := by rw [e]; simp
              have ha : at' (s.heap.map Rw.e) u.length = a.e := at_i e rfl
              rw [L_impl_IsValidSorter_0_eq, ltT (by omega), cond_true, in_i hu, cond_true]
              simp only [tn_c, ha, gk, gv, gw, iBelow a s.out (by omega), gn_c, gb_c, gs_c, gl_c, tk_s, tk_0, List.drop_succ_cons, List.drop_zero, List.headD_cons, List.getD_cons_zero, List.getD_cons_succ, bind_s]
              cases belowB a s.out <;> rfl) (iTail s h hp 0 _ _)
            refine this.trans ?_
            cases s.heap.all fun r => !belowB r s.out <;> rfl
        · rw [ltT (by omega), decide_eq_false hw]; rfl
    · rw [(Bool.not_eq_true _).mp hp]; rfl
theorem sTail (s : So) (h : s.B2) (hp : win s.pos 0 s.inp.length = true) (x0 : Int) :
    L_spec_IsValidSorter_0 x0 (w64 ((s.out.length : Int) - 1)) (s.heap.length : Nat) (s.inp.map Rw.e) s.pos (s.heap.map Rw.e) (s.dfd.map Rw.e) (s.out.map Rw.e) (s.runs.map rsE) s.lp s.rp s.ph s.wr = some [.bool (soTail s)] := by
  obtain ⟨h1, h2, h3, h4, h5⟩ := h.b.p
  have hpp := win_iff.mp hp
  have hfl := flat_le s.runs
  have hsz : s.inp.length + (s.heap.length + (s.dfd.length + (s.out.length + s.runs.flatten.length))) ≤ 1073741800 := by
    simp only [So.B2, So.sz] at h; omega
  have hb1 := sBags (s.runs.flatten ++ (s.out ++ (s.heap ++ s.dfd))) (s.inp.take s.pos.toNat) (by (first | omega | (simp only [List.length_append, List.length_cons, List.length_nil, List.length_map, List.length_take, List.length_drop, List.length_replicate, szI_S] at * <;> omega))) (by (first | omega | (simp only [List.length_append, List.length_cons, List.length_nil, List.length_map, List.length_take, List.length_drop, List.length_replicate, szI_S] at * <;> omega)))
  have hb2 := sBags s.runs.flatten s.inp (by omega) (by omega)
  have f1 : fitM (s.runs.flatten.length + s.out.length) 24 = true := fitT (by omega)
  have f2 : fitM ((s.runs.flatten ++ s.out).length + s.heap.length) 24 = true := fitT (by (first | omega | (simp only [List.length_append, List.length_cons, List.length_nil, List.length_map, List.length_take, List.length_drop, List.length_replicate, szI_S] at * <;> omega)))
  have f3 : fitM ((s.runs.flatten ++ s.out ++ s.heap).length + s.dfd.length) 24 = true := fitT (by (first | omega | (simp only [List.length_append, List.length_cons, List.length_nil, List.length_map, List.length_take, List.length_drop, List.length_replicate, szI_S] at * <;> omega)))
  have hass : s.runs.flatten ++ s.out ++ s.heap ++ s.dfd = s.runs.flatten ++ (s.out ++ (s.heap ++ s.dfd)) := by simp
  have hlast : leI 0 (w64 ((s.out.length : Int) - 1)) = decide (0 < s.out.length) := by
    rw [w64_id ⟨by omega, by omega⟩]; unfold leI; congr 1; apply propext; omega
  rw [L_spec_IsValidSorter_0_eq, lenI_map, ltF (Int.le_refl _), cond_false]
  simp only [sFlatten s.runs h5, sMem s h.b, gn_c, gb_c, gs_c, gl_c, tk_s, tk_0, List.drop_succ_cons, List.drop_zero, List.headD_cons, List.getD_cons_zero, List.getD_cons_succ, bind_s, hb2, take_p, len_map, app_map2, f1, f2, f3, cond_true, hass, hb1, hlast, lenI_map]
  unfold soTail
  by_cases p1 : s.ph = 1
  · rw [eqT p1, cond_true, if_pos p1]
    by_cases q1 : s.lp = 0
    · rw [eqT q1, cond_true, decide_eq_true q1]
      by_cases q2 : s.rp = 0
      · rw [eqT q2, cond_true, decide_eq_true q2, leT (show 0 ≤ s.pos by omega), leT (show s.pos ≤ s.inp.length by omega)]
        simp only [Bool.and_self, cond_true, dec_le60]
        by_cases q4 : s.dfd.length = 0
        · rw [eqT (by omega), cond_true, decide_eq_true (show s.out ≠ [] ∨ s.dfd = [] from .inr (List.length_eq_zero_iff.mp q4))]
          cases decide (memS s ≤ 60) <;> rfl
        · rw [eqF (by omega), cond_false]
          by_cases q3 : 0 < s.out.length
          · rw [decide_eq_true q3, cond_true, decide_eq_true (show s.out ≠ [] ∨ s.dfd = [] from .inl (fun e => by rw [e] at q3; simp at q3))]
            cases decide (memS s ≤ 60) <;> rfl
          · have qo : s.out = [] := List.length_eq_zero_iff.mp (by omega)
            rw [decide_eq_false q3, cond_false, decide_eq_false (show ¬ (s.out ≠ [] ∨ s.dfd = []) from fun e => e.elim (fun e => e qo) (fun e => q4 (by rw [e]; rfl)))]
            rfl
      · rw [eqF q2, decide_eq_false q2]; rfl
    · rw [eqF q1, decide_eq_false q1]; rfl
  · rw [eqF p1, cond_false, if_neg p1]
    by_cases q1 : s.pos = s.inp.length
    · rw [eqT q1, Bool.not_true, cond_false, decide_eq_true q1, w64_id (n := (s.heap.length : Int) + (s.dfd.length : Int)) ⟨by omega, by omega⟩]
      by_cases q2 : s.heap.length = 0
      · by_cases q3 : s.dfd.length = 0
        · rw [ltF (by omega), cond_false, nil_len s.heap, decide_eq_true q2, nil_len s.dfd, decide_eq_true q3]
          simp only [Bool.true_and]
          unfold soLate
          by_cases p2 : s.ph = 2
          · rw [eqT p2, cond_true, if_pos p2]
            unfold mergeOk
            cases hr : s.runs with
            | nil => simp [ltI]
            | cons a r =>
              cases r with
              | nil => simp [ltI]
              | cons b r =>
                have ha : a.length ≤ 1073741824 := Nat.le_trans (szL_mem' (by rw [hr]; simp)) h5
                have hb : b.length ≤ 1073741824 := Nat.le_trans (szL_mem' (by rw [hr]; simp)) h5
                have g0 : at' ((a :: b :: r).map rsE) (tn 0) = rsE a := rfl
                have g1 : at' ((a :: b :: r).map rsE) (tn 1) = rsE b := rfl
                have l0 : ltI ((a :: b :: r).length : Int) 2 = false := ltF (by simp; omega)
                have l1 : inR 0 ((a :: b :: r).length : Int) = true := inRT (by omega) (by simp; omega)
                have l2 : inR 1 ((a :: b :: r).length : Int) = true := inRT (by omega) (by simp; omega)
                simp only [l0, l1, l2, cond_true, cond_false, g0, g1, rsE, gn_c, gb_c, gs_c, gl_c, tk_s, tk_0, List.drop_succ_cons, List.drop_zero, List.headD_cons, List.getD_cons_zero, List.getD_cons_succ, bind_s, lenI_map, l1In_ok]
                by_cases w1 : win s.lp 0 a.length = true
                · by_cases w2 : win s.rp 0 b.length = true
                  · have w3 := win_iff.mp w1
                    have w4 := win_iff.mp w2
                    have m1 := sMrg (a.take s.lp.toNat) (b.take s.rp.toNat) (by simp; omega)
                    have m2 := sMrg a b (by omega)
                    have ml := mrg_length a b
                    have ml2 := mrg_length (a.take s.lp.toNat) (b.take s.rp.toNat)
                    simp only [List.length_take] at ml2
                    have e1 := sEqual (mrg (a.take s.lp.toNat) (b.take s.rp.toNat)) s.out (by omega)
                    have e2 := sEqual s.out ((mrg a b).take (s.lp.toNat + s.rp.toNat)) (by omega)
                    have e3 : w64 (s.lp + s.rp) = s.lp + s.rp := w64_id ⟨by omega, by omega⟩
                    have e4 : (s.lp + s.rp).toNat = s.lp.toNat + s.rp.toNat := by omega
                    have e5 : decide (mrg (a.take s.lp.toNat) (b.take s.rp.toNat) = s.out) = decide (s.out = mrg (a.take s.lp.toNat) (b.take s.rp.toNat)) := by
                      congr 1; exact propext ⟨fun e => e.symm, fun e => e.symm⟩
                    rw [w1, w2, leT w3.1, leT w3.2, leT w4.1, leT w4.2]
                    simp only [Bool.not_true, cond_false, Bool.and_self, cond_true, take_p, m1, m2, gn_c, gb_c, gs_c, gl_c, tk_s, tk_0, List.drop_succ_cons, List.drop_zero, List.headD_cons, List.getD_cons_zero, List.getD_cons_succ, bind_s, e3, e4, lenI_map, e2, e1]
                    rw [leT (by omega), leT (by rw [ml]; omega), e5]
                    simp only [Bool.and_self, cond_true, Bool.true_and]
                    cases decide (s.out = (mrg a b).take (s.lp.toNat + s.rp.toNat)) <;> cases decide (s.out = mrg (a.take s.lp.toNat) (b.take s.rp.toNat)) <;> simp
                  · rw [w1, (Bool.not_eq_true _).mp w2]; simp
                · rw [(Bool.not_eq_true _).mp w1]; simp
          · rw [eqF p2, cond_false, if_neg p2]
            by_cases w1 : s.runs.length ≤ 1
            · rw [ltF (by omega), cond_false]
              by_cases w2 : s.rp = 0
              · rw [eqT w2, Bool.not_true, cond_false, decide_eq_true w2]
                by_cases w3 : s.out.length = 0
                · rw [ltF (by omega), cond_false, nil_len s.out, decide_eq_true w3]
                  cases bagEq s.runs.flatten s.inp
                  · rfl
                  · simp only [Bool.not_true, cond_false, Bool.true_and, Bool.and_true]
                    by_cases p3 : s.ph = 3
                    · rw [eqT p3, cond_true, if_pos p3]
                      by_cases w4 : s.runs.length = 1
                      · rw [eqT (by omega), cond_true, decide_eq_true w4]
                        simp only [l1In_ok, win_len (show s.inp.length ≤ 1073741824 by omega), gn_c, gb_c, gs_c, gl_c, tk_s, tk_0, List.drop_succ_cons, List.drop_zero, List.headD_cons, List.getD_cons_zero, List.getD_cons_succ, bind_s, Bool.true_and]
                      · rw [eqF (by omega), decide_eq_false w4]; rfl
                    · rw [eqF p3, cond_false, if_neg p3]
                      by_cases p4 : s.ph = 4
                      · rw [eqT p4, cond_true, if_pos p4, decide_eq_true w1]
                        unfold eqI
                        simp
                      · rw [eqF p4, if_neg p4]; rfl
                · rw [ltT (by omega), nil_len s.out, decide_eq_false w3]
                  simp
              · rw [eqF w2, decide_eq_false w2]
                simp
            · rw [ltT (by omega), decide_eq_false w1, decide_eq_false (show ¬ s.runs.length = 1 by omega)]
              simp
        · rw [ltT (by omega), nil_len s.dfd, decide_eq_false q3]; simp
      · rw [ltT (by omega), nil_len s.heap, decide_eq_false q2]; simp
    · rw [eqF q1, decide_eq_false q1]; rfl
theorem sValidSo (s : So) (h : s.B2) : callI tE f_spec_IsValidSorter [.sl (s.inp.map Rw.e), .int s.pos, .sl (s.heap.map Rw.e), .sl (s.dfd.map Rw.e), .sl (s.out.map Rw.e), .sl (s.runs.map rsE), .int s.lp, .int s.rp, .int s.ph, .int s.wr] = some [.bool (soOk s)] := by
  obtain ⟨h1, h2, h3, h4, h5⟩ := h.b.p
  rw [c_spec_IsValidSorter]
  simp only [sAreValid s.inp (by omega), l1In_ok, lenI_map, sValidRuns s.runs h5, sIsSorted s.out (by omega), gn_c, gb_c, gs_c, gl_c, tk_s, tk_0, List.drop_succ_cons, List.drop_zero, List.headD_cons, List.getD_cons_zero, List.getD_cons_succ, bind_s]
  unfold soOk
  cases aok s.inp
  · rfl
  · by_cases hp : win s.pos 0 s.inp.length = true
    · rw [hp]
      cases s.runs.all runOk
      · rfl
      · by_cases hw : 0 ≤ s.wr
        · rw [ltF hw, decide_eq_true hw]
          cases isS s.out
          · rfl
          · have hlast : leI 0 (w64 ((s.out.length : Int) - 1)) = decide (0 < s.out.length) := by
              rw [w64_id ⟨by omega, by omega⟩]; unfold leI; congr 1; apply propext; omega
            have := all_loop (l := s.heap) (L := fun i => L_spec_IsValidSorter_0 0 (w64 ((s.out.length : Int) - 1)) i (s.inp.map Rw.e) s.pos (s.heap.map Rw.e) (s.dfd.map Rw.e) (s.out.map Rw.e) (s.runs.map rsE) s.lp s.rp s.ph s.wr) (p := fun r => !belowB r s.out) (no := some [.bool false]) (yes := some [.bool (soTail s)]) (by omega) (fun u a v e => by
              have hu : u.length < s.heap.length := by rw [e]; simp
              have ha : at' (s.heap.map Rw.e) u.length = a.e := at_i e rfl
              rw [L_spec_IsValidSorter_0_eq, lenI_map, ltT (by omega), cond_true, hlast]
              rcases snoc_or s.out with ho | ⟨q, x, ho⟩
              · rw [ho, belowB_nil]; rfl
              · have hx : at' (s.out.map Rw.e) q.length = x.e := at_i (u := q) (v := []) (by rw [ho]) rfl
                have hql : s.out.length = q.length + 1 := by rw [ho]; simp
                have hl2 : w64 ((s.out.length : Int) - 1) = (q.length : Int) := by rw [w64_id ⟨by omega, by omega⟩]; omega
                rw [decide_eq_true (by omega : 0 < s.out.length), cond_true, hl2, inRT (by omega) (by omega), in_i (by omega)]
                simp only [cond_true, tn_c, ha, hx, gk, gv, gw, sCompare, gn_c, gb_c, gs_c, gl_c, tk_s, tk_0, List.drop_succ_cons, List.drop_zero, List.headD_cons, List.getD_cons_zero, List.getD_cons_succ, bind_s, lt_cmp0]
                rw [show belowB a s.out = decide (Rw.lt a x) by rw [ho, belowB_snoc]]
                cases decide (Rw.lt a x) <;> rfl) (sTail s h hp 0)
            refine this.trans ?_
            cases s.heap.all fun r => !belowB r s.out <;> rfl
        · rw [ltT (by omega), decide_eq_false hw]; rfl
    · rw [(Bool.not_eq_true _).mp hp]; rfl
def remS (s : So) : Int := if soOk s then (if s.ph = 3 ∨ s.ph = 4 then w64 ((s.inp.length : Int) - s.lp) else s.inp.length) else 0
theorem iRem (s : So) (h : s.B2) : callI tE f_impl_RemainingRows [.sl (s.inp.map Rw.e), .int s.pos, .sl (s.heap.map Rw.e), .sl (s.dfd.map Rw.e), .sl (s.out.map Rw.e), .sl (s.runs.map rsE), .int s.lp, .int s.rp, .int s.ph, .int s.wr] = some [.int (remS s)] := by
  rw [c_impl_RemainingRows, iValidSo s h]
  simp only [gn_c, gb_c, gs_c, gl_c, tk_s, tk_0, List.drop_succ_cons, List.drop_zero, List.headD_cons, List.getD_cons_zero, List.getD_cons_succ, bind_s, lenI_map]
  unfold remS
  by_cases hv : soOk s = true
  · rw [hv, if_pos rfl]
    by_cases p3 : s.ph = 3
    · rw [eqT p3, if_pos (.inl p3)]; rfl
    · rw [eqF p3]
      by_cases p4 : s.ph = 4
      · rw [eqT p4, if_pos (.inr p4)]; rfl
      · rw [eqF p4, if_neg (fun e => e.elim p3 p4)]; rfl
  · rw [(Bool.not_eq_true _).mp hv]; rfl
theorem sRem (s : So) (h : s.B2) : callI tE f_spec_RemainingRows [.sl (s.inp.map Rw.e), .int s.pos, .sl (s.heap.map Rw.e), .sl (s.dfd.map Rw.e), .sl (s.out.map Rw.e), .sl (s.runs.map rsE), .int s.lp, .int s.rp, .int s.ph, .int s.wr] = some [.int (remS s)] := by
  rw [c_spec_RemainingRows, sValidSo s h]
  simp only [gn_c, gb_c, gs_c, gl_c, tk_s, tk_0, List.drop_succ_cons, List.drop_zero, List.headD_cons, List.getD_cons_zero, List.getD_cons_succ, bind_s, lenI_map]
  unfold remS
  by_cases hv : soOk s = true
  · rw [hv, if_pos rfl]
    by_cases p3 : s.ph = 3
    · rw [eqT p3, if_pos (.inl p3)]; rfl
    · rw [eqF p3]
      by_cases p4 : s.ph = 4
      · rw [eqT p4, if_pos (.inr p4)]; rfl
      · rw [eqF p4, if_neg (fun e => e.elim p3 p4)]; rfl
  · rw [(Bool.not_eq_true _).mp hv]; rfl
def ckOk (c : Ck) : Bool := soOk c.so && (aok c.em && (decide (w64 ((c.em.length : Int) + remS c.so) = c.so.inp.length) && decide (c.em = (isort c.so.inp).take c.em.length)))
def Ck.B2 (c : Ck) : Prop := c.sz ≤ 1073741800
theorem rem_nn {s : So} (h : s.B2) : 0 ≤ remS s ∧ remS s ≤ s.inp.length := by
  obtain ⟨h1, h2, h3, h4, h5⟩ := h.b.p
  unfold remS
  by_cases hv : soOk s = true
  · rw [if_pos hv]
    by_cases hp : s.ph = 3 ∨ s.ph = 4
    · rw [if_pos hp]
      have hlp : 0 ≤ s.lp ∧ s.lp ≤ s.inp.length := by
        simp only [soOk, Bool.and_eq_true] at hv
        have ht := hv.2.2.2.2.2.2
        unfold soTail at ht
        rw [if_neg (by omega)] at ht
        simp only [Bool.and_eq_true] at ht
        have hl := ht.2.2.2.2
        unfold soLate at hl
        rw [if_neg (by omega)] at hl
        by_cases p3 : s.ph = 3
        · rw [if_pos p3] at hl
          simp only [Bool.and_eq_true, decide_eq_true_eq] at hl
          omega
        · rw [if_neg p3, if_pos (by omega)] at hl
          simp only [Bool.and_eq_true, decide_eq_true_eq] at hl
          omega
      rw [w64_id ⟨by omega, by omega⟩]
      omega
    · rw [if_neg hp]; omega
  · rw [if_neg hv]; omega
theorem iValidCk (c : Ck) (h : c.B2) : callI tE f_impl_IsValidCheckpoint [.sl (c.so.inp.map Rw.e), .int c.so.pos, .sl (c.so.heap.map Rw.e), .sl (c.so.dfd.map Rw.e), .sl (c.so.out.map Rw.e), .sl (c.so.runs.map rsE), .int c.so.lp, .int c.so.rp, .int c.so.ph, .int c.so.wr, .sl (c.em.map Rw.e)] = some [.bool (ckOk c)] := by
  have hso : c.so.B2 := by simp only [Ck.B2, Ck.sz, So.B2] at *; omega
  have hem : c.em.length ≤ 1073741824 := by simp only [Ck.B2, Ck.sz] at h; omega
  obtain ⟨h1, h2, h3, h4, h5⟩ := hso.b.p
  have hr := rem_nn hso
  rw [c_impl_IsValidCheckpoint]
  simp only [iValidSo c.so hso, iAreValid, iRem c.so hso, iSort c.so.inp (by omega), gn_c, gb_c, gs_c, gl_c, tk_s, tk_0, List.drop_succ_cons, List.drop_zero, List.headD_cons, List.getD_cons_zero, List.getD_cons_succ, bind_s, lenI_map]
  unfold ckOk
  cases soOk c.so
  · rfl
  · cases aok c.em
    · rfl
    · simp only [cond_true, Bool.true_and]
      by_cases hq : w64 ((c.em.length : Int) + remS c.so) = c.so.inp.length
      · rw [eqT hq, decide_eq_true hq]
        rw [w64_id ⟨by omega, by omega⟩] at hq
        rw [leT (by omega), leT (by rw [isort_len]; omega)]
        simp only [Bool.and_self, cond_true, take_e, iEqual c.em _ (show c.em.length ≤ 1152921504606846976 by omega), gn_c, gb_c, gs_c, gl_c, tk_s, tk_0, List.drop_succ_cons, List.drop_zero, List.headD_cons, List.getD_cons_zero, List.getD_cons_succ, bind_s, Bool.true_and]
      · rw [eqF hq, decide_eq_false hq]; rfl
theorem sValidCk (c : Ck) (h : c.B2) : callI tE f_spec_IsValidCheckpoint [.sl (c.so.inp.map Rw.e), .int c.so.pos, .sl (c.so.heap.map Rw.e), .sl (c.so.dfd.map Rw.e), .sl (c.so.out.map Rw.e), .sl (c.so.runs.map rsE), .int c.so.lp, .int c.so.rp, .int c.so.ph, .int c.so.wr, .sl (c.em.map Rw.e)] = some [.bool (ckOk c)] := by
  have hso : c.so.B2 := by simp only [Ck.B2, Ck.sz, So.B2] at *; omega
  have hem : c.em.length ≤ 1073741824 := by simp only [Ck.B2, Ck.sz] at h; omega
  obtain ⟨h1, h2, h3, h4, h5⟩ := hso.b.p
  have hr := rem_nn hso
  rw [c_spec_IsValidCheckpoint]
  simp only [sValidSo c.so hso, sAreValid c.em (by omega), sRem c.so hso, sSort c.so.inp (by omega), gn_c, gb_c, gs_c, gl_c, tk_s, tk_0, List.drop_succ_cons, List.drop_zero, List.headD_cons, List.getD_cons_zero, List.getD_cons_succ, bind_s, lenI_map]
  unfold ckOk
  cases soOk c.so
  · rfl
  · cases aok c.em
    · rfl
    · simp only [Bool.not_true, cond_false, Bool.true_and]
      by_cases hq : w64 ((c.em.length : Int) + remS c.so) = c.so.inp.length
      · rw [eqT hq, decide_eq_true hq]
        rw [w64_id ⟨by omega, by omega⟩] at hq
        rw [leT (by omega), leT (by rw [isort_len]; omega)]
        simp only [Bool.not_true, cond_false, Bool.and_self, cond_true, take_e, sEqual c.em _ (show c.em.length ≤ 1152921504606846976 by omega), gn_c, gb_c, gs_c, gl_c, tk_s, tk_0, List.drop_succ_cons, List.drop_zero, List.headD_cons, List.getD_cons_zero, List.getD_cons_succ, bind_s, Bool.true_and]
      · rw [eqF hq, decide_eq_false hq]; rfl
end Go.Proofs.Ytbmafhpbinjgaaa.Vai
namespace Go.Proofs.Ytbmafhpbinjgaaa.Vai
open Go
set_option linter.unusedSimpArgs false
set_option linter.unusedVariables false
set_option linter.unnecessarySimpa false
theorem u64_id {n : Int} (h : 0 ≤ n ∧ n < 18446744073709551616) : IntKind.wrap .u64 n = n := by
  simp only [IntKind.wrap, IntKind.signed, IntKind.bits, Bool.false_and, Bool.false_eq_true, if_false]
  omega
theorem tdiv10 (n : Nat) : Int.tdiv (n : Int) 10 = ((n / 10 : Nat) : Int) := by rw [Int.tdiv_eq_ediv_of_nonneg (by omega)]; omega
theorem tmod10 (n : Nat) : Int.tmod (n : Int) 10 = ((n % 10 : Nat) : Int) := by rw [Int.tmod_eq_emod_of_nonneg (by omega)]; omega
theorem decimal_ok : ∀ n : Nat, n < 18446744073709551616 → callI tE f_impl_decimal [.int (n : Int)] = some [.str (S (dec n))] := by
  intro n
  refine dec_ind (P := fun n => n < 18446744073709551616 → callI tE f_impl_decimal [.int (n : Int)] = some [.str (S (dec n))]) (fun n h _ => ?_) (fun n h ih hn => ?_) n
  · rw [c_impl_decimal, ltT (by omega), cond_true, u64_id (by omega), strOf1, u8_dig (by omega) (by omega), dec_lt h]
    rfl
  · rw [c_impl_decimal, ltF (by omega), cond_false, tdiv10, tmod10, u64_id (by omega), ih (by omega)]
    simp only [bind_s, gs_c]
    rw [u64_id (by omega), strOf1, u8_dig (by omega) (by omega)]
    have hl : (dec (n / 10)).length ≤ 20 := (dec_len_iff 20 _ (by omega)).mpr (by omega)
    rw [show fitS _ _ = true from fitS_S (by simp; omega), cond_true, S_app, dec_ge h]
    rfl
theorem iFormatInt_ok {n : Int} (h : I64 n) : callI tE f_impl_FormatInt [.int n] = some [.str (S (fmt n))] := by
  obtain ⟨h1, h2⟩ := h
  rw [c_impl_FormatInt]
  by_cases hn : n < 0
  · rw [ltT hn, cond_true]
    have e1 : IntKind.wrap .u64 n = n + 18446744073709551616 := by
      simp only [IntKind.wrap, IntKind.signed, IntKind.bits, Bool.false_and, Bool.false_eq_true, if_false]
      omega
    have e2 : IntKind.wrap .u64 (0 - (n + 18446744073709551616)) = (n.natAbs : Int) := by
      simp only [IntKind.wrap, IntKind.signed, IntKind.bits, Bool.false_and, Bool.false_eq_true, if_false]
      omega
    have hl : (dec n.natAbs).length ≤ 20 := (dec_len_iff 20 _ (by omega)).mpr (by omega)
    rw [e1, e2, decimal_ok _ (by omega)]
    simp only [bind_s, gs_c]
    rw [show fitS _ _ = true from fitS_S (by simp; omega), cond_true, S_app, fmt_neg hn]
    rfl
  · rw [ltF (by omega), cond_false, u64_id (by omega), show n = (n.natAbs : Int) by omega, decimal_ok _ (by omega)]
    simp only [bind_s, gs_c]
    rw [fmt_pos (by omega)]
    rfl
end Go.Proofs.Ytbmafhpbinjgaaa.Vai
namespace Go.Proofs.Ytbmafhpbinjgaaa.Vai
open Go
set_option linter.unusedSimpArgs false
set_option linter.unusedVariables false
set_option linter.unnecessarySimpa false
set_option maxRecDepth 10000
theorem sfmt_loop (neg sgn : Bool) : ∀ (d n : Nat) (s : List UInt8), n < 10 ^ d → n ≤ 9223372036854775808 → (sgn = false → n < 9223372036854775808) → s.length + d ≤ 1000 →
    L_spec_FormatInt_0 (if sgn then -(n : Int) else (n : Int)) (S s) neg = some [.str (S (if neg then 45 :: (digs n ++ s) else digs n ++ s))]
  | d, n, s, h, hd, hp, hs => by
    rw [L_spec_FormatInt_0_eq]
    by_cases h0 : n = 0
    · subst h0
      rw [eqT (by split <;> rfl), digs_0]
      cases neg
      · rfl
      · rw [show fitS (S [45]) (S s) = true from fitS_S (by simp; omega)]
        simp only [Bool.not_true, cond_false, cond_true, S_app]
        rfl
    · have hne : eqI (if sgn then -(n : Int) else (n : Int)) 0 = false := eqF (by split <;> omega)
      cases d with
      | zero => exfalso; simp at h; omega
      | succ d =>
        have ih := sfmt_loop neg sgn d (n / 10) ([dig (n % 10)] ++ s) (by rw [Nat.pow_succ] at h; omega) (by omega) (by omega) (by simp; omega)
        have hm : n % 10 < 10 := Nat.mod_lt _ (by decide)
        have e48 : w64 (48 + ((n % 10 : Nat) : Int)) = 48 + ((n % 10 : Nat) : Int) := w64_id ⟨by omega, by omega⟩
        have hu : strOf [[.int (IntKind.wrap .u8 (48 + ((n % 10 : Nat) : Int)))]] = S [dig (n % 10)] := by
          rw [strOf1, u8_dig (by omega) (by omega), Int.toNat_natCast]
        have hf : fitS (S [dig (n % 10)]) (S s) = true := fitS_S (by simp; omega)
        have hfin : (if neg then 45 :: (digs (n / 10) ++ ([dig (n % 10)] ++ s)) else digs (n / 10) ++ ([dig (n % 10)] ++ s)) = (if neg then 45 :: (digs n ++ s) else digs n ++ s) := by
          rw [digs_s h0]; simp
        rw [hfin] at ih
        rw [hne, Bool.not_false, cond_true]
        cases sgn with
        | false =>
          simp only [Bool.false_eq_true, if_false] at ih ⊢
          have hp' := hp rfl
          rw [tmod10, tdiv10, ltF (by omega), cond_false, e48, hu, hf, cond_true, S_app, w64_id ⟨by omega, by omega⟩]
          exact ih
        | true =>
          simp only [if_true] at ih ⊢
          have t1 : Int.tmod (-(n : Int)) 10 = -((n % 10 : Nat) : Int) := by rw [Int.neg_tmod, tmod10]
          have t2 : Int.tdiv (-(n : Int)) 10 = -((n / 10 : Nat) : Int) := by rw [Int.neg_tdiv, tdiv10]
          rw [t1, t2, w64_id (n := -((n / 10 : Nat) : Int)) ⟨by omega, by omega⟩]
          by_cases hz : n % 10 = 0
          · rw [ltF (by omega), cond_false]
            have : -((n % 10 : Nat) : Int) = ((n % 10 : Nat) : Int) := by omega
            rw [this, e48, hu, hf, cond_true, S_app]
            exact ih
          · rw [ltT (by omega), cond_true, show (0 : Int) - -((n % 10 : Nat) : Int) = ((n % 10 : Nat) : Int) by omega, w64_id (n := ((n % 10 : Nat) : Int)) ⟨by omega, by omega⟩, e48, hu, hf, cond_true, S_app]
            exact ih
theorem sFormatInt_ok {n : Int} (h : I64 n) : callI tE f_spec_FormatInt [.int n] = some [.str (S (fmt n))] := by
  obtain ⟨h1, h2⟩ := h
  rw [c_spec_FormatInt]
  by_cases h0 : n = 0
  · subst h0; rfl
  · rw [eqF h0, cond_false]
    by_cases hn : n < 0
    · have := sfmt_loop true true 20 n.natAbs [] (by omega) (by omega) (by simp) (by simp)
      simp only [if_true, List.append_nil] at this
      rw [show -((n.natAbs : Nat) : Int) = n by omega] at this
      rw [ltT hn, this, fmt_neg hn, dec_pos (by omega)]
    · have := sfmt_loop false false 20 n.natAbs [] (by omega) (by omega) (by omega) (by simp)
      simp only [Bool.false_eq_true, if_false, List.append_nil] at this
      rw [show ((n.natAbs : Nat) : Int) = n by omega] at this
      rw [ltF (by omega), this, fmt_pos (by omega), dec_pos (by omega)]
theorem natAbs_lt {n : Nat} {k : Nat} (h : n < 10 ^ k) (hk : k ≤ 9) : n < 1000000000 := Nat.lt_of_lt_of_le h (Nat.le_trans (Nat.pow_le_pow_right (by decide) hk) (by decide))
theorem pI_of {s : List UInt8} {n : Int} (hn : n.natAbs < 1000000000) (hs : ∀ m : Int, fmt m = s → m.natAbs < 1000000000 → m = n) : (bif !decide (fmt n = s) then some [Dat.int 0, .bool false] else some [.int n, .bool true]) = some (pI s) := by
  unfold pI
  by_cases h : fmt n = s
  · rw [parseI_some.mpr ⟨h, hn⟩, decide_eq_true h]; rfl
  · rw [decide_eq_false h, parseI_none.mpr (fun m h1 h2 => h (by rw [← hs m h1 h2]; exact h1))]; rfl
theorem pI_bad {s : List UInt8} (hs : ∀ m : Int, fmt m = s → ¬ m.natAbs < 1000000000) : some [Dat.int 0, .bool false] = some (pI s) := by
  unfold pI
  rw [parseI_none.mpr hs]
theorem fold_vald_lt {u : List UInt8} (h : u.all isDig = true) (hl : u.length ≤ 9) : vald u < 1000000000 := natAbs_lt (vald_lt u h) hl
theorem iParse_loop (s d : List UInt8) (neg : Bool) (hd : s = if neg then 45 :: d else d) (hl : 1 ≤ d.length ∧ d.length ≤ 9) (h45 : neg = false → d.head? ≠ some 45) : L_impl_ParseInt_0 (S s) (S d) 0 (szI (S d)) 0 = some (pI s) := by
  have huniq : ∀ m : Int, fmt m = s → d = dec m.natAbs ∧ (neg = true ↔ m < 0) := fun m hm => by
    cases neg with
    | true =>
      simp only [if_true] at hd
      by_cases h0 : m < 0
      · rw [fmt_neg h0, hd] at hm
        exact ⟨(List.cons.inj hm).2.symm, by simp [h0]⟩
      · rw [fmt_pos (by omega), hd] at hm
        exact absurd (by rw [hm]; rfl) (dec_head m.natAbs)
    | false =>
      simp only [Bool.false_eq_true, if_false] at hd
      by_cases h0 : m < 0
      · rw [fmt_neg h0, hd] at hm
        exact absurd (by rw [← hm]; rfl) (h45 rfl)
      · rw [fmt_pos (by omega), hd] at hm
        exact ⟨hm.symm, by simp; omega⟩
  have hfin : ∀ n : Nat, d.all isDig = true → n = vald d → (bif (ltI (szI (S d)) (szI (S s))) then (((callI tE f_impl_FormatInt [(.int (w64 (0 - (n : Int))))])).bind (fun r0 => (bif (!(eqS (gs r0) (S s))) then (some [(.int 0), (.bool Bool.false)]) else (some [(.int (w64 (0 - (n : Int)))), (.bool Bool.true)])))) else (((callI tE f_impl_FormatInt [(.int (n : Int))])).bind (fun r0 => (bif (!(eqS (gs r0) (S s))) then (some [(.int 0), (.bool Bool.false)]) else (some [(.int (n : Int)), (.bool Bool.true)]))))) = some (pI s) := fun n ha hn => by
    have hv := fold_vald_lt ha hl.2
    have hw : w64 (0 - (n : Int)) = -(n : Int) := by rw [w64_id ⟨by omega, by omega⟩]; omega
    rw [szI_S, szI_S, hw, iFormatInt_ok ⟨by omega, by omega⟩, iFormatInt_ok ⟨by omega, by omega⟩]
    simp only [bind_s, gs_c, eqS_S]
    cases neg with
    | true =>
      simp only [if_true] at hd
      rw [ltT (by rw [hd]; simp only [List.length_cons]; omega), cond_true]
      refine pI_of (by omega) fun m hm _ => ?_
      obtain ⟨q1, q2⟩ := huniq m hm
      have : m < 0 := q2.mp rfl
      rw [hn, q1, vald_dec]; omega
    | false =>
      simp only [Bool.false_eq_true, if_false] at hd
      rw [ltF (by rw [hd]; omega), cond_false]
      refine pI_of (by omega) fun m hm _ => ?_
      obtain ⟨q1, q2⟩ := huniq m hm
      have : ¬ m < 0 := fun h => by have := q2.mpr h; cases this
      rw [hn, q1, vald_dec]; omega
  have := zip_loop (l := d) (L := fun (n : Nat) => L_impl_ParseInt_0 (S s) (S d) (n : Int) (szI (S d))) (F := fun _ _ => some (pI s)) (I := fun n u _ => u.all isDig = true ∧ n = vald u) (by omega) (fun u c v n e hI => by
    obtain ⟨ha, hn⟩ := hI
    have hul : u.length ≤ 9 := by have := hl.2; rw [e] at this; simp at this; omega
    have hv := fold_vald_lt ha hul
    have hc0 := u8_lt c
    have step : L_impl_ParseInt_0 (S s) (S d) (n : Int) (szI (S d)) u.length = if isDig c then L_impl_ParseInt_0 (S s) (S d) ((vstep n c : Nat) : Int) (szI (S d)) (w64 (u.length + 1)) else some [.int 0, .bool false] := by
      rw [L_impl_ParseInt_0_eq]
      subst e
      rw [lt_S, in_S, by_S]
      by_cases h1 : c.toNat < 48
      · rw [ltT (by omega), if_neg (by rw [isDig_iff]; omega)]; rfl
      · rw [ltF (by omega)]
        by_cases h2 : 57 < c.toNat
        · rw [ltT (a := 57) (by omega), if_neg (by rw [isDig_iff]; omega)]; rfl
        · rw [ltF (b := (c.toNat : Int)) (by omega), v_step (by omega) (by omega), if_pos (isDig_iff.mpr (by omega))]; rfl
    by_cases hc : isDig c = true
    · refine .inl ⟨vstep n c, ?_, ⟨by simp [ha, hc], by rw [vald_snoc, hn]; rfl⟩, rfl⟩
      show L_impl_ParseInt_0 _ _ _ _ _ = _
      rw [step, if_pos hc]
    · refine .inr ?_
      show L_impl_ParseInt_0 _ _ _ _ _ = _
      rw [step, if_neg hc]
      refine pI_bad fun m hm hb => hc ?_
      obtain ⟨q1, _⟩ := huniq m hm
      have := dec_digits m.natAbs
      rw [← q1, e] at this
      exact List.all_eq_true.mp this c (by simp)) (fun n hI => by
    show L_impl_ParseInt_0 _ _ _ _ _ = _
    rw [L_impl_ParseInt_0_eq, lt_Se, cond_false]
    exact hfin n hI.1 hI.2) 0 ⟨rfl, rfl⟩
  exact this
theorem ext_tail (c : UInt8) (s : List UInt8) : ext (S (c :: s)) (tn 1) (ByteArray.size (S (c :: s))) = S s := by
  rw [S_size, ext_S]
  congr 1
  show List.drop 1 _ = _
  simp
theorem iParseInt (s : List UInt8) (hs : s.length < 4611686018427387904) : callI tE f_impl_ParseInt [.str (S s)] = some (pI s) := by
  rw [c_impl_ParseInt]
  -- a text of digits alone
  have plain : ∀ t : List UInt8, t = s → s.head? ≠ some 45 → (bif (ltI (szI (S s)) 1) then (some [(Dat.int 0), (.bool Bool.false)]) else (bif (ltI 9 (szI (S s))) then (some [(.int 0), (.bool Bool.false)]) else (L_impl_ParseInt_0 (S s) (S s) 0 (szI (S s)) 0))) = some (pI s) := fun t ht h45 => by
    rw [szI_S]
    have key : ∀ m : Int, fmt m = s → m.natAbs < 1000000000 → 1 ≤ s.length ∧ s.length ≤ 9 := fun m hm hb => by
      by_cases h0 : m < 0
      · rw [fmt_neg h0] at hm
        exact absurd (by rw [← hm]; rfl) h45
      · rw [fmt_pos (by omega)] at hm
        have h9 : (dec m.natAbs).length ≤ 9 := (dec_len_iff 9 _ (by omega)).mpr (by omega)
        have h1 : dec m.natAbs ≠ [] := dec_ne _
        rw [hm] at h9 h1
        exact ⟨by cases s <;> simp_all, h9⟩
    by_cases h1 : s.length < 1
    · rw [ltT (by omega), cond_true]
      exact pI_bad fun m hm hb => by have := key m hm hb; omega
    · rw [ltF (by omega), cond_false]
      by_cases h2 : 9 < s.length
      · rw [ltT (by omega), cond_true]
        exact pI_bad fun m hm hb => by have := key m hm hb; omega
      · rw [ltF (by omega), cond_false]
        have := iParse_loop s s false rfl ⟨by omega, by omega⟩ (fun _ => h45)
        rw [szI_S] at this
        exact this
  cases s with
  | nil => exact plain _ rfl (by simp)
  | cons c d =>
    rw [ltT (b := szI (S (c :: d))) (by rw [szI_S]; simp only [List.length_cons]; omega), inRT (by omega) (by rw [szI_S]; simp only [List.length_cons]; omega), show byteAt (S (c :: d)) 0 = (c.toNat : Int) from by_S [] d c]
    simp only [cond_true]
    by_cases hc : c = 45
    · subst hc
      rw [eqT (by rfl), cond_true, leT (by omega), leT (by rw [szI_S]; simp only [List.length_cons]; omega), ext_tail]
      simp only [Bool.and_self, cond_true]
      have key : ∀ m : Int, fmt m = 45 :: d → m.natAbs < 1000000000 → 1 ≤ d.length ∧ d.length ≤ 9 := fun m hm hb => by
        by_cases h0 : m < 0
        · rw [fmt_neg h0] at hm
          have hm := (List.cons.inj hm).2
          have h9 : (dec m.natAbs).length ≤ 9 := (dec_len_iff 9 _ (by omega)).mpr (by omega)
          have h1 : dec m.natAbs ≠ [] := dec_ne _
          rw [hm] at h9 h1
          exact ⟨by cases d <;> simp_all, h9⟩
        · rw [fmt_pos (by omega)] at hm
          exact absurd (by rw [hm]; rfl) (dec_head m.natAbs)
      rw [szI_S]
      by_cases h1 : d.length < 1
      · rw [ltT (by omega), cond_true]
        exact pI_bad fun m hm hb => by have := key m hm hb; omega
      · rw [ltF (by omega), cond_false]
        by_cases h2 : 9 < d.length
        · rw [ltT (by omega), cond_true]
          exact pI_bad fun m hm hb => by have := key m hm hb; omega
        · rw [ltF (by omega), cond_false]
          have := iParse_loop (45 :: d) d true rfl ⟨by omega, by omega⟩ (fun h => by cases h)
          rw [szI_S] at this
          exact this
    · rw [show eqI (c.toNat : Int) 45 = false from (u8_eqI c 45).trans (decide_eq_false hc), cond_false]
      exact plain _ rfl (by simpa using hc)
def flt (s : List UInt8) : List UInt8 := s.filter isDig
theorem flt_dig (s : List UInt8) : (flt s).all isDig = true := by simp [flt]
theorem sParseInt (s : List UInt8) (hs : s.length < 4611686018427387904) : callI tE f_spec_ParseInt [.str (S s)] = some (pI s) := by
  rw [c_spec_ParseInt]
  have hfl : ∀ u : List UInt8, (flt u).length ≤ u.length := fun u => List.length_filter_le _ _
  -- the end
  have hfin : ∀ (i : Int) (n k : Nat), n = vald (flt (s.take 11)) → k = (flt (s.take 11)).length → (ltI i (szI (S s)) = false ∨ ltI i (szI (S s)) = true ∧ ltI i 11 = false) → L_spec_ParseInt_0 (S s) (n : Int) (k : Int) i = some (pI s) := fun i n k hn hk hi => by
    have hkl : k ≤ 11 := by have := hfl (s.take 11); simp at this; omega
    have hv := vald_lt _ (flt_dig (s.take 11))
    rw [← hn, ← hk] at hv
    have hv11 : n < 100000000000 := Nat.lt_of_lt_of_le hv (Nat.le_trans (Nat.pow_le_pow_right (by decide) hkl) (by decide))
    have hw : w64 (0 - (n : Int)) = -(n : Int) := by rw [w64_id ⟨by omega, by omega⟩]; omega
    -- what a number's text gives
    have huniq : ∀ m : Int, fmt m = s → m.natAbs < 1000000000 → k ≤ 9 ∧ s.length ≤ 10 ∧ n = m.natAbs := fun m hm hb => by
      have h9 : (dec m.natAbs).length ≤ 9 := (dec_len_iff 9 _ (by omega)).mpr (by omega)
      have hd : flt (dec m.natAbs) = dec m.natAbs := List.filter_eq_self.mpr (fun c hc => List.all_eq_true.mp (dec_digits _) c hc)
      by_cases h0 : m < 0
      · rw [fmt_neg h0] at hm
        have ht : s.take 11 = s := List.take_of_length_le (by rw [← hm]; simp; omega)
        have hf : flt s = dec m.natAbs := by rw [← hm]; show flt (45 :: _) = _; rw [flt, List.filter_cons_of_neg (by decide)]; exact hd
        rw [ht, hf] at hn hk
        refine ⟨by omega, by rw [← hm]; simp; omega, by rw [hn, vald_dec]⟩
      · rw [fmt_pos (by omega)] at hm
        have ht : s.take 11 = s := List.take_of_length_le (by rw [← hm]; omega)
        rw [ht, ← hm, hd] at hn hk
        refine ⟨by omega, by rw [← hm]; omega, by rw [hn, vald_dec]⟩
    have tail : ∀ x : Int, I64 x → x.natAbs = n → (∀ m : Int, fmt m = s → m.natAbs < 1000000000 → m = x) → (bif (ltI 9 (k : Int)) then (some [(Dat.int 0), (.bool Bool.false)]) else (bif (ltI 10 (szI (S s))) then (some [(.int 0), (.bool Bool.false)]) else (((callI tE f_spec_FormatInt [(.int x)])).bind (fun r0 => (bif (!(eqS (gs r0) (S s))) then (some [(.int 0), (.bool Bool.false)]) else (some [(.int x), (.bool Bool.true)])))))) = some (pI s) := fun x hx hxn hu => by
      by_cases h1 : 9 < k
      · rw [ltT (by omega), cond_true]
        exact pI_bad fun m hm hb => by have := huniq m hm hb; omega
      · rw [ltF (by omega), cond_false, szI_S]
        by_cases h2 : 10 < s.length
        · rw [ltT (by omega), cond_true]
          exact pI_bad fun m hm hb => by have := huniq m hm hb; omega
        · rw [ltF (by omega), cond_false, sFormatInt_ok hx]
          simp only [bind_s, gs_c, eqS_S]
          exact pI_of (by rw [hxn]; exact natAbs_lt hv (by omega)) hu
    have pos : (s.head? ≠ some 45) → ∀ m : Int, fmt m = s → m.natAbs < 1000000000 → m = (n : Int) := fun h45 m hm hb => by
      have := huniq m hm hb
      by_cases h0 : m < 0
      · rw [fmt_neg h0] at hm
        exact absurd (by rw [← hm]; rfl) h45
      · omega
    have e : L_spec_ParseInt_0 (S s) (n : Int) (k : Int) i = (bif (ltI 0 (szI (S s))) then (bif (inR 0 (szI (S s))) then (bif (eqI (byteAt (S s) 0) 45) then (bif (ltI 9 (k : Int)) then (some [(.int 0), (.bool Bool.false)]) else (bif (ltI 10 (szI (S s))) then (some [(.int 0), (.bool Bool.false)]) else (((callI tE f_spec_FormatInt [(.int (w64 (0 - (n : Int))))])).bind (fun r0 => (bif (!(eqS (gs r0) (S s))) then (some [(.int 0), (.bool Bool.false)]) else (some [(.int (w64 (0 - (n : Int)))), (.bool Bool.true)])))))) else (bif (ltI 9 (k : Int)) then (some [(Dat.int 0), (.bool Bool.false)]) else (bif (ltI 10 (szI (S s))) then (some [(.int 0), (.bool Bool.false)]) else (((callI tE f_spec_FormatInt [(.int (n : Int))])).bind (fun r0 => (bif (!(eqS (gs r0) (S s))) then (some [(.int 0), (.bool Bool.false)]) else (some [(.int (n : Int)), (.bool Bool.true)]))))))) else none) else (bif (ltI 9 (k : Int)) then (some [(Dat.int 0), (.bool Bool.false)]) else (bif (ltI 10 (szI (S s))) then (some [(.int 0), (.bool Bool.false)]) else (((callI tE f_spec_FormatInt [(.int (n : Int))])).bind (fun r0 => (bif (!(eqS (gs r0) (S s))) then (some [(.int 0), (.bool Bool.false)]) else (some [(.int (n : Int)), (.bool Bool.true)]))))))) := by
      rw [L_spec_ParseInt_0_eq]
      rcases hi with hi | ⟨hi, hi2⟩
      · rw [hi]; rfl
      · rw [hi, hi2]; rfl
    rw [e]
    cases s with
    | nil => exact tail n ⟨by omega, by omega⟩ (by omega) (pos (by simp))
    | cons c d =>
      rw [ltT (b := szI (S (c :: d))) (by rw [szI_S]; simp only [List.length_cons]; omega), inRT (by omega) (by rw [szI_S]; simp only [List.length_cons]; omega), show byteAt (S (c :: d)) 0 = (c.toNat : Int) from by_S [] d c]
      simp only [cond_true]
      by_cases hc : c = 45
      · subst hc
        rw [eqT (by rfl), cond_true, hw]
        refine tail _ ⟨by omega, by omega⟩ (by omega) fun m hm hb => ?_
        have := huniq m hm hb
        by_cases h0 : m < 0
        · omega
        · rw [fmt_pos (by omega)] at hm
          exact absurd (by rw [hm]; rfl) (dec_head m.natAbs)
      · rw [show eqI (c.toNat : Int) 45 = false from (u8_eqI c 45).trans (decide_eq_false hc), cond_false]
        exact tail n ⟨by omega, by omega⟩ (by omega) (pos (by simpa using hc))
  have hsplit : s = s.take 11 ++ s.drop 11 := (List.take_append_drop 11 s).symm
  have htl : (s.take 11).length ≤ 11 := by simp; omega
  have := zip_loop (l := s.take 11) (L := fun (p : Nat × Nat) => L_spec_ParseInt_0 (S s) (p.1 : Int) (p.2 : Int)) (F := fun _ _ => some (pI s)) (I := fun p u _ => p.1 = vald (flt u) ∧ p.2 = (flt u).length) (by omega) (fun u c v p e hI => by
    obtain ⟨n, k⟩ := p
    obtain ⟨hn, hk⟩ := hI
    simp only at hn hk
    have hs' : s = u ++ c :: (v ++ s.drop 11) := by
      have h0 := hsplit
      rw [e, List.append_assoc, List.cons_append] at h0
      exact h0
    have hul : u.length < 11 := by have := htl; rw [e] at this; simp at this; omega
    have hkl : k ≤ u.length := by rw [hk]; exact hfl u
    have hv := vald_lt _ (flt_dig u)
    rw [← hn, ← hk] at hv
    have hv11 : n < 100000000000 := Nat.lt_of_lt_of_le hv (Nat.le_trans (Nat.pow_le_pow_right (by decide) (show k ≤ 11 by omega)) (by decide))
    have hc0 := u8_lt c
    have step : L_spec_ParseInt_0 (S s) (n : Int) (k : Int) u.length = if isDig c then L_spec_ParseInt_0 (S s) ((vstep n c : Nat) : Int) ((k + 1 : Nat) : Int) (w64 (u.length + 1)) else L_spec_ParseInt_0 (S s) (n : Int) (k : Int) (w64 (u.length + 1)) := by
      rw [L_spec_ParseInt_0_eq, hs', lt_S, in_S, by_S, ltT (by omega)]
      by_cases h1 : c.toNat < 48
      · rw [leF (by omega), if_neg (by rw [isDig_iff]; omega)]; rfl
      · rw [leT (a := 48) (by omega)]
        by_cases h2 : 57 < c.toNat
        · rw [leF (a := (c.toNat : Int)) (by omega), if_neg (by rw [isDig_iff]; omega)]; rfl
        · rw [leT (a := (c.toNat : Int)) (by omega), v_step' hv11 (by omega), if_pos (isDig_iff.mpr (by omega)), w64_s (i := k) (by omega)]; rfl
    by_cases hc : isDig c = true
    · refine .inl ⟨(vstep n c, k + 1), ?_, ⟨?_, ?_⟩, rfl⟩
      · show L_spec_ParseInt_0 _ _ _ _ = _
        rw [step, if_pos hc]
      · show vstep n c = vald (flt (u ++ [c]))
        rw [flt, List.filter_append, List.filter_cons_of_pos hc, List.filter_nil, vald_snoc, hn]; rfl
      · show k + 1 = (flt (u ++ [c])).length
        rw [flt, List.filter_append, List.filter_cons_of_pos hc, List.filter_nil, List.length_append, hk]; rfl
    · refine .inl ⟨(n, k), ?_, ⟨?_, ?_⟩, rfl⟩
      · show L_spec_ParseInt_0 _ _ _ _ = _
        rw [step, if_neg hc]
      · show n = vald (flt (u ++ [c]))
        rw [flt, List.filter_append, List.filter_cons_of_neg hc, List.filter_nil, List.append_nil, hn]; rfl
      · show k = (flt (u ++ [c])).length
        rw [flt, List.filter_append, List.filter_cons_of_neg hc, List.filter_nil, List.append_nil, hk]; rfl) (fun p hI => by
    obtain ⟨n, k⟩ := p
    refine hfin _ n k hI.1 hI.2 ?_
    by_cases h : s.length ≤ 11
    · left; rw [List.take_of_length_le h]; exact lt_Se s
    · right; exact ⟨ltT (by rw [szI_S, List.length_take]; omega), ltF (by rw [List.length_take]; omega)⟩) (0, 0) ⟨rfl, rfl⟩
  exact this
theorem strs_app (l : List (List UInt8)) (x : List UInt8) : List.append (l.map StE) [[Dat.str (S x)]] = (l ++ [x]).map StE := by simp [StE]
structure CutS where
  out : List (List UInt8)
  frm : Nat
def cutI (b : UInt8) (s : List UInt8) (x : CutS) (u v : List UInt8) : Prop := x.frm ≤ u.length ∧ x.out.length ≤ u.length ∧ x.out ++ cutGo b (u.drop x.frm) v = cutL b s
theorem cut_step {b : UInt8} {s u v : List UInt8} {c : UInt8} {x : CutS} (h : cutI b s x u (c :: v)) : cutI b s (if c = b then ⟨x.out ++ [u.drop x.frm], u.length + 1⟩ else x) (u ++ [c]) v := by
  obtain ⟨h1, h2, h3⟩ := h
  unfold cutGo at h3
  split
  · rename_i hc
    rw [if_pos hc] at h3
    refine ⟨by simp, by simp; omega, ?_⟩
    rw [← h3]
    simp only [List.append_assoc, List.singleton_append]
    rw [show List.drop (u.length + 1) (u ++ [c]) = [] from List.drop_eq_nil_of_le (by simp)]
  · rename_i hc
    rw [if_neg hc] at h3
    refine ⟨by simp; omega, by simp; omega, ?_⟩
    rw [← h3, List.drop_append_of_le_length h1]
theorem drop_ext {s u v : List UInt8} {k : Nat} (hs : s = u ++ v) (h : k ≤ u.length) : ext (S s) k u.length = S (u.drop k) := by
  rw [ext_S, hs, List.take_left' rfl]
theorem iCut (b : UInt8) (s : List UInt8) (h : s.length < 1099511627776) : callI tE f_impl_cut [.str (S s), .int (b.toNat : Int)] = some [.sl ((cutL b s).map StE)] := by
  rw [c_impl_cut]
  have := zip_loop (l := s) (L := fun (x : CutS) i => L_impl_cut_0 (S s) (b.toNat : Int) (x.frm : Int) (szI (S s)) i (x.out.map StE)) (F := fun _ _ => some [.sl ((cutL b s).map StE)]) (I := cutI b s) (by omega) (fun u c v x e hI => by
    have hul : u.length < 1099511627776 := by rw [e] at h; simp at h; omega
    obtain ⟨h1, h2, h3⟩ := hI
    refine .inl ⟨_, ?_, cut_step ⟨h1, h2, h3⟩, rfl⟩
    show L_impl_cut_0 _ _ _ _ _ _ = L_impl_cut_0 _ _ _ _ _ _
    rw [L_impl_cut_0_eq]
    have hle : (u.length : Int) ≤ szI (S s) := by rw [szI_S, e]; simp only [List.length_append, List.length_cons]; omega
    have q1 : ltI (u.length : Int) (szI (S s)) = true := by rw [e]; exact lt_S u v c
    have q2 : inR (u.length : Int) (szI (S s)) = true := by rw [e]; exact in_S u v c
    have q3 : byteAt (S s) (u.length : Int) = (c.toNat : Int) := by rw [e]; exact by_S u v c
    rw [q1, q2, q3, u8_eqI]
    by_cases hc : c = b
    · rw [decide_eq_true hc, if_pos hc, in3T (by omega) (by omega) hle, len_map, show fitM (Nat.succ x.out.length) 16 = true from fitT (by omega), w64_s (by omega), tn_c, tn_c, drop_ext e h1, strs_app]
      rfl
    · rw [decide_eq_false hc, if_neg hc]; rfl) (fun x hI => by
    obtain ⟨h1, h2, h3⟩ := hI
    show L_impl_cut_0 _ _ _ _ _ _ = _
    rw [L_impl_cut_0_eq, lt_Se, cond_false, leT (a := 0) (by omega), leT (b := szI (S s)) (by rw [szI_S]; omega), len_map, show fitM (Nat.succ x.out.length) 16 = true from fitT (by omega), tn_c, S_size, drop_ext (v := []) (by simp) h1, strs_app, ← h3]
    rfl) ⟨[], 0⟩ ⟨by simp, by simp, rfl⟩
  exact this
theorem sCut (b : UInt8) (s : List UInt8) (h : s.length < 1099511627776) : callI tE f_spec_l2Cut [.str (S s), .int (b.toNat : Int)] = some [.sl ((cutL b s).map StE)] := by
  rw [c_spec_l2Cut]
  have := zip_loop (l := s) (L := fun (x : CutS) i => L_spec_l2Cut_0 (S s) (b.toNat : Int) (x.frm : Int) i (x.out.map StE)) (F := fun _ _ => some [.sl ((cutL b s).map StE)]) (I := cutI b s) (by omega) (fun u c v x e hI => by
    have hul : u.length < 1099511627776 := by rw [e] at h; simp at h; omega
    obtain ⟨h1, h2, h3⟩ := hI
    refine .inl ⟨_, ?_, cut_step ⟨h1, h2, h3⟩, rfl⟩
    show L_spec_l2Cut_0 _ _ _ _ _ = L_spec_l2Cut_0 _ _ _ _ _
    rw [L_spec_l2Cut_0_eq]
    have hle : (u.length : Int) ≤ szI (S s) := by rw [szI_S, e]; simp only [List.length_append, List.length_cons]; omega
    have q1 : ltI (u.length : Int) (szI (S s)) = true := by rw [e]; exact lt_S u v c
    have q2 : inR (u.length : Int) (szI (S s)) = true := by rw [e]; exact in_S u v c
    have q3 : byteAt (S s) (u.length : Int) = (c.toNat : Int) := by rw [e]; exact by_S u v c
    rw [q1, q2, q3, u8_eqI]
    by_cases hc : c = b
    · rw [decide_eq_true hc, if_pos hc, in3T (by omega) (by omega) hle, len_map, show fitM (Nat.succ x.out.length) 16 = true from fitT (by omega), w64_s (by omega), tn_c, tn_c, drop_ext e h1, strs_app]
      rfl
    · rw [decide_eq_false hc, if_neg hc]; rfl) (fun x hI => by
    obtain ⟨h1, h2, h3⟩ := hI
    show L_spec_l2Cut_0 _ _ _ _ _ = _
    rw [L_spec_l2Cut_0_eq, lt_Se, cond_false, leT (a := 0) (by omega), leT (b := szI (S s)) (by rw [szI_S]; omega), len_map, show fitM (Nat.succ x.out.length) 16 = true from fitT (by omega), tn_c, S_size, drop_ext (v := []) (by simp) h1, strs_app, ← h3]
    rfl) ⟨[], 0⟩ ⟨by simp, by simp, rfl⟩
  exact this
theorem jl_snoc (b : List UInt8) (u : List (List UInt8)) (x : List UInt8) : joinL b (u ++ [x]) = if u = [] then x else joinL b u ++ b ++ x := by
  split
  · rename_i h; subst h; rfl
  · rename_i h; exact joinL_snoc b u x h
theorem iJoined (b : List UInt8) (l : List (List UInt8)) (hl : l.length < 4611686018427387904) (h : (l.map fun x => x.length + b.length).sum < 4611686018427387904) : callI tE f_impl_joined [.sl (l.map StE), .str (S b)] = some [.str (S (joinL b l))] := by
  rw [c_impl_joined]
  have := zip_loop (l := l) (L := fun s i => L_impl_joined_0 (S b) (S s) (l.map StE) (lenI (l.map StE)) i) (F := fun _ _ => some [.str (S (joinL b l))]) (I := fun s u _ => s = joinL b u) (by omega) (fun u x v s e hI => by
    refine .inl ⟨joinL b (u ++ [x]), ?_, rfl, rfl⟩
    show L_impl_joined_0 _ _ _ _ _ = L_impl_joined_0 _ _ _ _ _
    have hb : (joinL b u).length + (x.length + b.length) < 4611686018427387904 := by
      have := joinL_len b u
      rw [e] at h
      simp only [List.map_append, List.map_cons, List.sum_append, List.sum_cons] at h
      omega
    subst e
    rw [L_impl_joined_0_eq, jl_snoc, hI]
    simp only [lt_m, in_m, tn_c, at_m, cond_true, StE, gs_c]
    by_cases hu : u = []
    · subst hu
      rw [if_pos rfl, ltF (by simp), cond_false, fitS_S (by simp [joinL]; omega), S_app]
      rfl
    · have hul : 0 < u.length := List.length_pos_iff.mpr hu
      rw [if_neg hu, ltT (by omega), fitS_S (by omega), S_app, fitS_S (by rw [List.length_append]; omega), S_app]
      rfl) (fun s hs => by
    show L_impl_joined_0 _ _ _ _ _ = _
    rw [L_impl_joined_0_eq, lt_e, cond_false, hs]) [] rfl
  exact this
end Go.Proofs.Ytbmafhpbinjgaaa.Vai
namespace Go.Proofs.Ytbmafhpbinjgaaa.Vai
open Go
set_option linter.unusedSimpArgs false
set_option linter.unusedVariables false
set_option linter.unnecessarySimpa false
section
variable {α : Type}
open Classical in
/-- the one thing whose text this is -/
noncomputable def unf (P : α → Prop) (f : α → List UInt8) (s : List UInt8) : Option α := if h : ∃ a, P a ∧ f a = s then some h.choose else none
theorem unf_some {P : α → Prop} {f : α → List UInt8} (inj : ∀ a b, P a → P b → f a = f b → a = b) {s : List UInt8} {a : α} : unf P f s = some a ↔ P a ∧ f a = s := by
  unfold unf
  constructor
  · intro h
    split at h
    · rename_i hx; cases h; exact hx.choose_spec
    · cases h
  · intro h
    have hx : ∃ a, P a ∧ f a = s := ⟨a, h⟩
    rw [dif_pos hx]
    exact congrArg some (inj _ _ hx.choose_spec.1 h.1 (hx.choose_spec.2.trans h.2.symm))
theorem unf_none {P : α → Prop} {f : α → List UInt8} {s : List UInt8} : unf P f s = none ↔ ∀ a, P a → f a ≠ s := by
  unfold unf
  constructor
  · intro h a h1 h2
    rw [dif_pos ⟨a, h1, h2⟩] at h; cases h
  · intro h
    rw [dif_neg]
    rintro ⟨a, h1, h2⟩
    exact h a h1 h2
end
theorem fmt_nosep {b : UInt8} (hb : isDig b = false) (h45 : b ≠ 45) (n : Int) : b ∉ fmt n := fun h => by
  rcases fmt_noDig_ne b h with h | h
  · rw [hb] at h; cases h
  · exact h45 h
noncomputable def num (s : List UInt8) : Int := (parseI s).getD 0
noncomputable def isN (s : List UInt8) : Bool := (parseI s).isSome
theorem pI_eq (s : List UInt8) : pI s = [.int (num s), .bool (isN s)] := by
  unfold pI num isN
  cases parseI s <;> rfl
theorem isN_num {s : List UInt8} (h : isN s = true) : fmt (num s) = s ∧ (num s).natAbs < 1000000000 := by
  unfold isN at h
  cases hp : parseI s with
  | none => rw [hp] at h; cases h
  | some n =>
    have := parseI_some.mp hp
    unfold num
    rw [hp]
    exact this
theorem num_fmt {n : Int} (h : n.natAbs < 1000000000) : num (fmt n) = n ∧ isN (fmt n) = true := by
  unfold num isN; rw [parseI_fmt h]; exact ⟨rfl, rfl⟩
theorem num_lt (s : List UInt8) : (num s).natAbs < 1000000000 := by
  unfold num
  cases hp : parseI s with
  | none => decide
  | some n => exact (parseI_some.mp hp).2
theorem num_i64 (s : List UInt8) : I64 (num s) := by have := num_lt s; exact ⟨by omega, by omega⟩
theorem tn_0 : tn 0 = 0 := rfl
theorem tn_1 : tn 1 = 1 := rfl
theorem tn_2 : tn 2 = 2 := rfl
theorem eqI_len {α : Type} (e : α → List Dat) (l : List α) (n : Nat) : eqI (lenI (l.map e)) (n : Int) = decide (l.length = n) := by
  unfold eqI; rw [lenI_map]; congr 1; apply propext; omega
theorem list3 {α : Type} {l : List α} (h : l.length = 3) : ∃ a b c, l = [a, b, c] := by
  match l, h with
  | [a, b, c], _ => exact ⟨a, b, c, rfl⟩
theorem list2 {α : Type} {l : List α} (h : l.length = 2) : ∃ a b, l = [a, b] := by
  match l, h with
  | [a, b], _ => exact ⟨a, b, rfl⟩
end Go.Proofs.Ytbmafhpbinjgaaa.Vai
namespace Go.Proofs.Ytbmafhpbinjgaaa.Vai
open Go
set_option linter.unusedSimpArgs false
set_option linter.unusedVariables false
set_option linter.unnecessarySimpa false
set_option maxRecDepth 10000
def fmtR (r : Rw) : List UInt8 := if r.ok then joinL [46] [fmt r.k, fmt r.v, fmt r.w] else []
theorem fmtR_ok {r : Rw} (h : r.ok = true) : fmtR r = joinL [46] [fmt r.k, fmt r.v, fmt r.w] := if_pos h
theorem fmtR_bad {r : Rw} (h : r.ok = false) : fmtR r = [] := if_neg (by simp [h])
theorem ok_i64 {r : Rw} (h : r.ok = true) : I64 r.k ∧ I64 r.v ∧ I64 r.w ∧ r.k.natAbs < 1000000000 ∧ r.v.natAbs < 1000000000 ∧ r.w.natAbs < 1000000000 := by
  have := Rw.ok_iff.mp h
  exact ⟨⟨by omega, by omega⟩, ⟨by omega, by omega⟩, ⟨by omega, by omega⟩, by omega, by omega, by omega⟩
theorem joinL_3 (b x y z : List UInt8) : joinL b [x, y, z] = x ++ b ++ y ++ b ++ z := by simp [joinL]
theorem fmtR_len (r : Rw) : (fmtR r).length ≤ 62 := by
  unfold fmtR
  split
  · rename_i h
    obtain ⟨h1, h2, h3, _⟩ := ok_i64 h
    have a1 := fmt_len h1
    have a2 := fmt_len h2
    have a3 := fmt_len h3
    rw [joinL_3]; simp; omega
  · simp
theorem fmtR_cut {r : Rw} (h : r.ok = true) : cutL 46 (fmtR r) = [fmt r.k, fmt r.v, fmt r.w] := by
  rw [fmtR_ok h]
  refine cut_join 46 _ (by simp) fun x hx => ?_
  simp only [List.mem_cons, List.not_mem_nil, or_false] at hx
  rcases hx with rfl | rfl | rfl <;> exact fmt_nosep (by decide) (by decide) _
theorem fmtR_inj (a b : Rw) (ha : a.ok = true) (hb : b.ok = true) (h : fmtR a = fmtR b) : a = b := by
  have e1 := fmtR_cut ha
  rw [h, fmtR_cut hb] at e1
  simp only [List.cons.injEq, and_true] at e1
  exact Rw.eq_of (fmt_inj e1.1).symm (fmt_inj e1.2.1).symm (fmt_inj e1.2.2).symm
theorem fmtR_ne {r : Rw} (h : r.ok = true) : fmtR r ≠ [] := by
  rw [fmtR_ok h, joinL_3]; simp
theorem fmtR_nosep {b : UInt8} (hb : isDig b = false) (h45 : b ≠ 45) (h46 : b ≠ 46) (r : Rw) : b ∉ fmtR r := by
  unfold fmtR
  split
  · rw [joinL_3]
    simp only [List.mem_append, List.mem_singleton, not_or]
    exact ⟨⟨⟨⟨fmt_nosep hb h45 _, h46⟩, fmt_nosep hb h45 _⟩, h46⟩, fmt_nosep hb h45 _⟩
  · simp
theorem iFormatRow (r : Rw) : callI tE f_impl_FormatRow [.int r.k, .int r.v, .int r.w] = some [.str (S (fmtR r))] := by
  simp only [c_impl_FormatRow, iValidRow, gn_c, gb_c, gs_c, gl_c, tk_s, tk_0, List.drop_succ_cons, List.drop_zero, List.headD_cons, List.getD_cons_zero, List.getD_cons_succ, bind_s]
  cases h : r.ok
  · rw [fmtR_bad h]; rfl
  · obtain ⟨h1, h2, h3, _⟩ := ok_i64 h
    have a1 := fmt_len h1
    have a2 := fmt_len h2
    have a3 := fmt_len h3
    simp only [Bool.not_true, cond_false, iFormatInt_ok h1, iFormatInt_ok h2, iFormatInt_ok h3, gn_c, gb_c, gs_c, gl_c, tk_s, tk_0, List.drop_succ_cons, List.drop_zero, List.headD_cons, List.getD_cons_zero, List.getD_cons_succ, bind_s]
    rw [fitS_S (by simp; omega), S_app, fitS_S (by simp; omega), S_app, fitS_S (by simp; omega), S_app, fitS_S (by simp; omega), S_app, fmtR_ok h, joinL_3]
    rfl
theorem sFormatRow (r : Rw) : callI tE f_spec_FormatRow [.int r.k, .int r.v, .int r.w] = some [.str (S (fmtR r))] := by
  simp only [c_spec_FormatRow, sValidRow, gn_c, gb_c, gs_c, gl_c, tk_s, tk_0, List.drop_succ_cons, List.drop_zero, List.headD_cons, List.getD_cons_zero, List.getD_cons_succ, bind_s]
  cases h : r.ok
  · rw [fmtR_bad h]; rfl
  · obtain ⟨h1, h2, h3, _⟩ := ok_i64 h
    have a1 := fmt_len h1
    have a2 := fmt_len h2
    have a3 := fmt_len h3
    simp only [Bool.not_true, cond_false, sFormatInt_ok h1, sFormatInt_ok h2, sFormatInt_ok h3, gn_c, gb_c, gs_c, gl_c, tk_s, tk_0, List.drop_succ_cons, List.drop_zero, List.headD_cons, List.getD_cons_zero, List.getD_cons_succ, bind_s]
    rw [fitS_S (by simp; omega), S_app, fitS_S (by simp; omega), S_app, fitS_S (by simp; omega), S_app, fitS_S (by simp; omega), S_app, fmtR_ok h, joinL_3]
    rfl
noncomputable def parseR (s : List UInt8) : Option Rw := unf (fun r : Rw => r.ok = true) fmtR s
theorem parseR_some {s : List UInt8} {r : Rw} : parseR s = some r ↔ r.ok = true ∧ fmtR r = s := unf_some fmtR_inj
theorem parseR_none {s : List UInt8} : parseR s = none ↔ ∀ r : Rw, r.ok = true → fmtR r ≠ s := unf_none
noncomputable def pR (s : List UInt8) : List Dat := match parseR s with
  | some r => [.int r.k, .int r.v, .int r.w, .bool true]
  | none => [.int 0, .int 0, .int 0, .bool false]
theorem pR_n3 {s : List UInt8} (h : (cutL 46 s).length ≠ 3) : pR s = [.int 0, .int 0, .int 0, .bool false] := by
  unfold pR
  rw [parseR_none.mpr fun r hr e => h (by rw [← e, fmtR_cut hr]; rfl)]
theorem pR_3 {s a b c : List UInt8} (h : cutL 46 s = [a, b, c]) : pR s = bif isN a && (isN b && (isN c && (⟨num a, num b, num c⟩ : Rw).ok)) then [.int (num a), .int (num b), .int (num c), .bool true] else [.int 0, .int 0, .int 0, .bool false] := by
  have hs : joinL [46] [a, b, c] = s := by rw [← h]; exact join_cut 46 s
  unfold pR
  cases hb : isN a && (isN b && (isN c && (⟨num a, num b, num c⟩ : Rw).ok))
  · rw [parseR_none.mpr fun r hr e => ?_]
    · rfl
    · have e2 := fmtR_cut hr
      rw [e, h] at e2
      simp only [List.cons.injEq, and_true] at e2
      obtain ⟨rfl, rfl, rfl⟩ := e2
      obtain ⟨_, _, _, q1, q2, q3⟩ := ok_i64 hr
      obtain ⟨u1, u2⟩ := num_fmt q1
      obtain ⟨u3, u4⟩ := num_fmt q2
      obtain ⟨u5, u6⟩ := num_fmt q3
      rw [u1, u2, u3, u4, u5, u6] at hb
      have : (⟨r.k, r.v, r.w⟩ : Rw) = r := rfl
      rw [this, hr] at hb
      cases hb
  · simp only [Bool.and_eq_true] at hb
    obtain ⟨h1, h2, h3, h4⟩ := hb
    rw [parseR_some.mpr ⟨h4, by rw [fmtR_ok h4]; simp only [(isN_num h1).1, (isN_num h2).1, (isN_num h3).1]; exact hs⟩]
    rfl
theorem iParseRow (s : List UInt8) (hs : s.length < 1099511627776) : callI tE f_impl_ParseRow [.str (S s)] = some (pR s) := by
  rw [c_impl_ParseRow]
  have hc := iCut 46 s hs
  rw [show ((46 : UInt8).toNat : Int) = 46 from rfl] at hc
  simp only [hc, gn_c, gb_c, gs_c, gl_c, tk_s, tk_0, List.drop_succ_cons, List.drop_zero, List.headD_cons, List.getD_cons_zero, List.getD_cons_succ, bind_s]
  rw [show eqI (lenI ((cutL 46 s).map StE)) 3 = decide ((cutL 46 s).length = 3) from eqI_len StE _ 3]
  by_cases h3 : (cutL 46 s).length = 3
  · rw [decide_eq_true h3]
    obtain ⟨a, b, c, hl⟩ := list3 h3
    have la : a.length < 4611686018427387904 := by have := cutL_sub (b := 46) (s := s) (x := a) (by rw [hl]; simp); omega
    have lb : b.length < 4611686018427387904 := by have := cutL_sub (b := 46) (s := s) (x := b) (by rw [hl]; simp); omega
    have lc : c.length < 4611686018427387904 := by have := cutL_sub (b := 46) (s := s) (x := c) (by rw [hl]; simp); omega
    rw [pR_3 hl, hl]
    simp only [List.map_cons, List.map_nil, StE, tn_0, tn_1, tn_2, gn_c, gb_c, gs_c, gl_c, tk_s, tk_0, List.drop_succ_cons, List.drop_zero, List.headD_cons, List.getD_cons_zero, List.getD_cons_succ, bind_s, iParseInt a la, iParseInt b lb, iParseInt c lc, pI_eq, iValidRow ⟨num a, num b, num c⟩, Bool.not_true, cond_false, bifn]
    cases isN a <;> cases isN b <;> cases isN c <;> cases (⟨num a, num b, num c⟩ : Rw).ok <;> rfl
  · rw [decide_eq_false h3, pR_n3 h3]; rfl
theorem sParseRow (s : List UInt8) (hs : s.length < 1099511627776) : callI tE f_spec_ParseRow [.str (S s)] = some (pR s) := by
  rw [c_spec_ParseRow]
  have hc := sCut 46 s hs
  rw [show ((46 : UInt8).toNat : Int) = 46 from rfl] at hc
  simp only [hc, gn_c, gb_c, gs_c, gl_c, tk_s, tk_0, List.drop_succ_cons, List.drop_zero, List.headD_cons, List.getD_cons_zero, List.getD_cons_succ, bind_s]
  rw [show eqI (lenI ((cutL 46 s).map StE)) 3 = decide ((cutL 46 s).length = 3) from eqI_len StE _ 3]
  by_cases h3 : (cutL 46 s).length = 3
  · rw [decide_eq_true h3]
    obtain ⟨a, b, c, hl⟩ := list3 h3
    have la : a.length < 4611686018427387904 := by have := cutL_sub (b := 46) (s := s) (x := a) (by rw [hl]; simp); omega
    have lb : b.length < 4611686018427387904 := by have := cutL_sub (b := 46) (s := s) (x := b) (by rw [hl]; simp); omega
    have lc : c.length < 4611686018427387904 := by have := cutL_sub (b := 46) (s := s) (x := c) (by rw [hl]; simp); omega
    have hsj : joinL [46] [a, b, c] = s := by rw [← hl]; exact join_cut 46 s
    have hne : s ≠ [] := by rw [← hsj, joinL_3]; simp
    rw [hl]
    simp only [List.map_cons, List.map_nil, StE, tn_0, tn_1, tn_2, gn_c, gb_c, gs_c, gl_c, tk_s, tk_0, List.drop_succ_cons, List.drop_zero, List.headD_cons, List.getD_cons_zero, List.getD_cons_succ, bind_s, sParseInt a la, sParseInt b lb, sParseInt c lc, pI_eq, sFormatRow ⟨num a, num b, num c⟩, Bool.not_true, cond_false, bifn, eqS_S]
    show (bif decide (fmtR ⟨num a, num b, num c⟩ = s) then some [Dat.int (num a), .int (num b), .int (num c), .bool true] else some [.int 0, .int 0, .int 0, .bool false]) = some (pR s)
    unfold pR
    by_cases he : fmtR ⟨num a, num b, num c⟩ = s
    · rw [decide_eq_true he]
      have hok : (⟨num a, num b, num c⟩ : Rw).ok = true := by
        cases h : (⟨num a, num b, num c⟩ : Rw).ok with
        | true => rfl
        | false => rw [fmtR_bad h] at he; exact absurd he.symm hne
      rw [parseR_some.mpr ⟨hok, he⟩]; rfl
    · rw [decide_eq_false he, parseR_none.mpr fun r hr e => he ?_]
      · rfl
      · have e2 := fmtR_cut hr
        rw [e, hl] at e2
        simp only [List.cons.injEq, and_true] at e2
        obtain ⟨rfl, rfl, rfl⟩ := e2
        obtain ⟨_, _, _, q1, q2, q3⟩ := ok_i64 hr
        rw [(num_fmt q1).1, (num_fmt q2).1, (num_fmt q3).1]
        exact e
  · rw [decide_eq_false h3, pR_n3 h3]; rfl
def txtRs (l : List Rw) : List UInt8 := joinL [32] (l.map fmtR)
def fmtRs (l : List Rw) : List UInt8 := if aok l then txtRs l else []
theorem fmtRs_ok {l : List Rw} (h : aok l = true) : fmtRs l = txtRs l := if_pos h
theorem fmtRs_bad {l : List Rw} (h : aok l = false) : fmtRs l = [] := if_neg (by simp [h])
theorem txt_sum (l : List Rw) : ((l.map fmtR).map fun x => x.length + [(32 : UInt8)].length).sum ≤ 63 * l.length := by
  induction l with
  | nil => simp
  | cons a l ih =>
    have := fmtR_len a
    simp only [List.map_cons, List.sum_cons, List.length_cons, List.length_nil] at ih ⊢
    omega
theorem txtRs_len (l : List Rw) : (txtRs l).length ≤ 63 * l.length := Nat.le_trans (joinL_len _ _) (txt_sum l)
theorem fmtRs_len (l : List Rw) : (fmtRs l).length ≤ 1512 := by
  unfold fmtRs
  split
  · rename_i h; have := aok_len h; have := txtRs_len l; omega
  · simp
theorem txtRs_cut {l : List Rw} (h : l ≠ []) : cutL 32 (txtRs l) = l.map fmtR := by
  refine cut_join 32 _ (by simpa using h) fun x hx => ?_
  obtain ⟨r, _, rfl⟩ := List.mem_map.mp hx
  exact fmtR_nosep (by decide) (by decide) (by decide) r
theorem map_fmtR_inj : ∀ {l m : List Rw}, (∀ r ∈ l, r.ok = true) → (∀ r ∈ m, r.ok = true) → l.map fmtR = m.map fmtR → l = m
  | [], [], _, _, _ => rfl
  | [], _ :: _, _, _, h => by simp at h
  | _ :: _, [], _, _, h => by simp at h
  | a :: l, b :: m, h1, h2, h => by
    simp only [List.map_cons, List.cons.injEq] at h
    rw [fmtR_inj a b (h1 a (by simp)) (h2 b (by simp)) h.1, map_fmtR_inj (fun r hr => h1 r (by simp [hr])) (fun r hr => h2 r (by simp [hr])) h.2]
theorem txtRs_nil {l : List Rw} (ha : ∀ r ∈ l, r.ok = true) (h : txtRs l = []) : l = [] := by
  cases l with
  | nil => rfl
  | cons a l =>
    have h1 := fmtR_ne (ha a (by simp))
    cases l with
    | nil => exact absurd h h1
    | cons b l =>
      have : txtRs (a :: b :: l) = fmtR a ++ [32] ++ txtRs (b :: l) := joinL_cons (by simp)
      rw [this] at h
      simp at h
theorem txtRs_inj {l m : List Rw} (h1 : ∀ r ∈ l, r.ok = true) (h2 : ∀ r ∈ m, r.ok = true) (h : txtRs l = txtRs m) : l = m := by
  by_cases hl : l = []
  · subst hl
    exact (txtRs_nil h2 h.symm).symm
  · by_cases hm : m = []
    · subst hm; exact txtRs_nil h1 h
    · have e := txtRs_cut hl
      rw [h, txtRs_cut hm] at e
      exact (map_fmtR_inj h2 h1 e).symm
theorem fmtRs_inj (l m : List Rw) (h1 : aok l = true) (h2 : aok m = true) (h : fmtRs l = fmtRs m) : l = m := by
  rw [fmtRs_ok h1, fmtRs_ok h2] at h
  exact txtRs_inj (aok_all h1) (aok_all h2) h
noncomputable def parseRs (s : List UInt8) : Option (List Rw) := unf (fun l => aok l = true) fmtRs s
theorem parseRs_some {s : List UInt8} {l : List Rw} : parseRs s = some l ↔ aok l = true ∧ fmtRs l = s := unf_some fmtRs_inj
theorem parseRs_none {s : List UInt8} : parseRs s = none ↔ ∀ l : List Rw, aok l = true → fmtRs l ≠ s := unf_none
noncomputable def pRs (s : List UInt8) : List Dat := match parseRs s with
  | some l => [.sl (l.map Rw.e), .bool true]
  | none => [.sl [], .bool false]
theorem pRs_nil : pRs [] = [.sl [], .bool true] := by
  unfold pRs
  rw [show parseRs [] = some [] from parseRs_some.mpr ⟨rfl, rfl⟩]; rfl
theorem StE_app (u : List (List UInt8)) (r : Rw) : List.append (u.map StE) [[Dat.str (S (fmtR r))]] = (u ++ [fmtR r]).map StE := by simp [StE]
theorem sumR_lt {l : List Rw} (h : l.length < 1099511627776) : ((l.map fmtR).map fun x => x.length + [(32 : UInt8)].length).sum < 4611686018427387904 := by
  have := txt_sum l; omega
theorem iRowTexts (l : List Rw) (h : l.length < 1099511627776) : callI tE f_impl_rowTexts [.sl (l.map Rw.e)] = some [.str (S (txtRs l))] := by
  rw [c_impl_rowTexts]
  have := zip_loop (l := l) (L := fun (s : List (List UInt8)) i => L_impl_rowTexts_0 (l.map Rw.e) (lenI (l.map Rw.e)) i (s.map StE)) (F := fun _ _ => some [.str (S (txtRs l))]) (I := fun s u _ => s = u.map fmtR) (by omega) (fun u r v s e hI => by
    have hul : u.length < 1099511627776 := by rw [e] at h; simp at h; omega
    refine .inl ⟨(u ++ [r]).map fmtR, ?_, rfl, rfl⟩
    show L_impl_rowTexts_0 _ _ _ _ = L_impl_rowTexts_0 _ _ _ _
    subst e
    rw [L_impl_rowTexts_0_eq, hI]
    simp only [lt_m, in_m, tn_c, at_m, cond_true, Rw.e, gn_c, gb_c, gs_c, gl_c, tk_s, tk_0, List.drop_succ_cons, List.drop_zero, List.headD_cons, List.getD_cons_zero, List.getD_cons_succ, bind_s, iFormatRow, len_map]
    rw [show fitM (Nat.succ (u.map fmtR).length) 16 = true from fitT (by simp; omega), StE_app]
    simp) (fun s hs => by
    show L_impl_rowTexts_0 _ _ _ _ = _
    rw [L_impl_rowTexts_0_eq, lt_e, cond_false, hs, iJoined [32] (l.map fmtR) (by simp; omega) (sumR_lt h)]; rfl) [] rfl
  exact this
theorem iFormatRows (l : List Rw) : callI tE f_impl_FormatRows [.sl (l.map Rw.e)] = some [.str (S (fmtRs l))] := by
  simp only [c_impl_FormatRows, iAreValid, gn_c, gb_c, gs_c, gl_c, tk_s, tk_0, List.drop_succ_cons, List.drop_zero, List.headD_cons, List.getD_cons_zero, List.getD_cons_succ, bind_s]
  cases h : aok l
  · rw [fmtRs_bad h]; rfl
  · have := aok_len h
    rw [Bool.not_true, cond_false, iRowTexts l (by omega), fmtRs_ok h]; rfl
theorem sFormatRows (l : List Rw) (h : l.length < 1099511627776) : callI tE f_spec_FormatRows [.sl (l.map Rw.e)] = some [.str (S (fmtRs l))] := by
  rw [c_spec_FormatRows]
  cases hok : aok l
  · rw [fmtRs_bad hok, L_spec_FormatRows_0_eq, sAreValid l (by omega), hok]
    cases ltI 0 (lenI (l.map Rw.e)) <;> rfl
  · rw [fmtRs_ok hok]
    have := zip_loop (l := l) (L := fun s i => L_spec_FormatRows_0 (l.map Rw.e) (S s) i) (F := fun _ _ => some [.str (S (txtRs l))]) (I := fun s u _ => s = txtRs u) (by omega) (fun u r v s e hI => by
      refine .inl ⟨txtRs (u ++ [r]), ?_, rfl, rfl⟩
      show L_spec_FormatRows_0 _ _ _ = L_spec_FormatRows_0 _ _ _
      have hul : u.length < 1099511627776 := by rw [e] at h; simp at h; omega
      have l1 := txtRs_len u
      have l2 := fmtR_len r
      rw [L_spec_FormatRows_0_eq, sAreValid l (by omega), hok]
      subst e
      simp only [lt_m, in_m, tn_c, at_m, cond_true, Rw.e, gn_c, gb_c, gs_c, gl_c, tk_s, tk_0, List.drop_succ_cons, List.drop_zero, List.headD_cons, List.getD_cons_zero, List.getD_cons_succ, bind_s, sFormatRow, hI]
      unfold txtRs at *
      have e1 : (u ++ [r]).map fmtR = u.map fmtR ++ [fmtR r] := by simp
      rw [e1, jl_snoc]
      by_cases hu : u = []
      · subst hu
        rw [if_pos (by rfl), ltF (by simp), cond_false, fitS_S (by simp [joinL]; omega), S_app]; rfl
      · have hul : 0 < u.length := List.length_pos_iff.mpr hu
        rw [if_neg (by simpa using hu), ltT (by omega), fitS_S (by simp; omega), S_app, fitS_S (by simp; omega), S_app]; rfl) (fun s hs => by
      show L_spec_FormatRows_0 _ _ _ = _
      rw [L_spec_FormatRows_0_eq, lt_e, cond_false, hs]) [] rfl
    exact this
theorem pRs_step {s x : List UInt8} {u v : List (List UInt8)} (hne : s ≠ []) (e : cutL 32 s = u ++ x :: v) (h : parseR x = none) : pRs s = [.sl [], .bool false] := by
  unfold pRs
  rw [parseRs_none.mpr fun l hl he => ?_]
  rw [fmtRs_ok hl] at he
  have hl0 : l ≠ [] := by rintro rfl; exact hne he.symm
  have e2 := txtRs_cut hl0
  rw [he, e] at e2
  have hx : x ∈ l.map fmtR := by rw [← e2]; simp
  obtain ⟨r, hr, rfl⟩ := List.mem_map.mp hx
  exact parseR_none.mp h r (aok_all hl r hr) rfl
theorem pRs_end {s : List UInt8} {out : List Rw} (hne : s ≠ []) (e : cutL 32 s = out.map fmtR) (ha : ∀ r ∈ out, r.ok = true) : (bif aok out then some [Dat.sl (out.map Rw.e), .bool true] else some [.sl [], .bool false]) = some (pRs s) := by
  have hs : txtRs out = s := by unfold txtRs; rw [← e]; exact join_cut 32 s
  unfold pRs
  cases h : aok out
  · rw [parseRs_none.mpr fun l hl he => ?_]
    · rfl
    · rw [fmtRs_ok hl, ← hs] at he
      rw [txtRs_inj (aok_all hl) ha he, h] at hl
      cases hl
  · rw [parseRs_some.mpr ⟨h, by rw [fmtRs_ok h]; exact hs⟩]; rfl
theorem pR_some {x : List UInt8} {r : Rw} (h : parseR x = some r) : pR x = [.int r.k, .int r.v, .int r.w, .bool true] := by unfold pR; rw [h]
theorem pR_none {x : List UInt8} (h : parseR x = none) : pR x = [.int 0, .int 0, .int 0, .bool false] := by unfold pR; rw [h]
theorem Rw_app (u : List Rw) (r : Rw) : List.append (u.map Rw.e) [[Dat.int r.k, .int r.v, .int r.w]] = (u ++ [r]).map Rw.e := by simp [Rw.e]
theorem iParseRows (s : List UInt8) (hs : s.length < 1073741824) : callI tE f_impl_ParseRows [.str (S s)] = some (pRs s) := by
  rw [c_impl_ParseRows]
  by_cases hne : s = []
  · subst hne; rw [pRs_nil, show eqS (S []) (S []) = true from (eqS_S _ _).trans (decide_eq_true rfl)]; rfl
  · rw [show eqS (S s) (S []) = false from (eqS_S _ _).trans (decide_eq_false hne), cond_false]
    have hc := iCut 32 s (by omega)
    rw [show ((32 : UInt8).toNat : Int) = 32 from rfl] at hc
    have hcl := cutL_len 32 s
    simp only [hc, gn_c, gb_c, gs_c, gl_c, tk_s, tk_0, List.drop_succ_cons, List.drop_zero, List.headD_cons, List.getD_cons_zero, List.getD_cons_succ, bind_s]
    have := zip_loop (l := cutL 32 s) (L := fun (o : List Rw) i => L_impl_ParseRows_0 (lenI ((cutL 32 s).map StE)) i (o.map Rw.e) ((cutL 32 s).map StE)) (F := fun _ _ => some (pRs s)) (I := fun o u _ => u = o.map fmtR ∧ ∀ r ∈ o, r.ok = true) (by omega) (fun u x v o e hI => by
      have hx : x.length ≤ s.length := cutL_sub (b := 32) (by rw [e]; simp)
      have hul : u.length < 1099511627776 := by rw [e] at hcl; simp at hcl; omega
      have hol : o.length = u.length := by rw [hI.1]; simp
      have step : L_impl_ParseRows_0 (lenI ((cutL 32 s).map StE)) u.length (o.map Rw.e) ((cutL 32 s).map StE) = match parseR x with
          | some r => L_impl_ParseRows_0 (lenI ((cutL 32 s).map StE)) (w64 (u.length + 1)) ((o ++ [r]).map Rw.e) ((cutL 32 s).map StE)
          | none => some [.sl [], .bool false] := by
        rw [L_impl_ParseRows_0_eq, e]
        simp only [lt_m, in_m, tn_c, at_m, cond_true, StE, gn_c, gb_c, gs_c, gl_c, tk_s, tk_0, List.drop_succ_cons, List.drop_zero, List.headD_cons, List.getD_cons_zero, List.getD_cons_succ, bind_s, iParseRow x (by omega)]
        cases hp : parseR x with
        | none => rw [pR_none hp]; rfl
        | some r =>
          rw [pR_some hp, len_map, show fitM (Nat.succ o.length) 24 = true from fitT (by omega)]
          simp only [gn_c, gb_c, gs_c, gl_c, tk_s, tk_0, List.drop_succ_cons, List.drop_zero, List.headD_cons, List.getD_cons_zero, List.getD_cons_succ, bind_s, Rw_app]
          rfl
      cases hp : parseR x with
      | none =>
        refine .inr ?_
        show L_impl_ParseRows_0 _ _ _ _ = _
        rw [step, hp, pRs_step hne e hp]
      | some r =>
        obtain ⟨q1, q2⟩ := parseR_some.mp hp
        refine .inl ⟨o ++ [r], ?_, ⟨by rw [hI.1]; simp [q2], fun z hz => ?_⟩, rfl⟩
        · show L_impl_ParseRows_0 _ _ _ _ = _
          rw [step, hp]
        · rcases List.mem_append.mp hz with hz | hz
          · exact hI.2 z hz
          · simp at hz; subst hz; exact q1) (fun o hI => by
      show L_impl_ParseRows_0 _ _ _ _ = _
      rw [L_impl_ParseRows_0_eq, lt_e, cond_false, iAreValid]
      simp only [gn_c, gb_c, gs_c, gl_c, tk_s, tk_0, List.drop_succ_cons, List.drop_zero, List.headD_cons, List.getD_cons_zero, List.getD_cons_succ, bind_s, bifn]
      exact pRs_end hne hI.1 hI.2) [] ⟨rfl, by simp⟩
    exact this
theorem sParseRows (s : List UInt8) (hs : s.length < 1073741824) : callI tE f_spec_ParseRows [.str (S s)] = some (pRs s) := by
  rw [c_spec_ParseRows]
  have hc := sCut 32 s (by omega)
  rw [show ((32 : UInt8).toNat : Int) = 32 from rfl] at hc
  have hcl := cutL_len 32 s
  simp only [hc, gn_c, gb_c, gs_c, gl_c, tk_s, tk_0, List.drop_succ_cons, List.drop_zero, List.headD_cons, List.getD_cons_zero, List.getD_cons_succ, bind_s]
  by_cases hne : s = []
  · subst hne
    rw [L_spec_ParseRows_0_eq, pRs_nil, show eqS (S []) (S []) = true from (eqS_S _ _).trans (decide_eq_true rfl)]
    have := sAreValid [] (by simp)
    simp only [List.map_nil] at this
    rw [this]
    cases ltI 0 (lenI ((cutL 32 []).map StE)) <;> rfl
  · have := zip_loop (l := cutL 32 s) (L := fun (o : List Rw) i => L_spec_ParseRows_0 (S s) i (o.map Rw.e) ((cutL 32 s).map StE)) (F := fun _ _ => some (pRs s)) (I := fun o u _ => u = o.map fmtR ∧ ∀ r ∈ o, r.ok = true) (by omega) (fun u x v o e hI => by
      have hx : x.length ≤ s.length := cutL_sub (b := 32) (by rw [e]; simp)
      have hul : u.length < 1099511627776 := by rw [e] at hcl; simp at hcl; omega
      have hol : o.length = u.length := by rw [hI.1]; simp
      have step : L_spec_ParseRows_0 (S s) u.length (o.map Rw.e) ((cutL 32 s).map StE) = match parseR x with
          | some r => L_spec_ParseRows_0 (S s) (w64 (u.length + 1)) ((o ++ [r]).map Rw.e) ((cutL 32 s).map StE)
          | none => some [.sl [], .bool false] := by
        rw [L_spec_ParseRows_0_eq, e, show eqS (S s) (S []) = false from (eqS_S _ _).trans (decide_eq_false hne)]
        simp only [lt_m, in_m, tn_c, at_m, cond_true, Bool.not_false, StE, gn_c, gb_c, gs_c, gl_c, tk_s, tk_0, List.drop_succ_cons, List.drop_zero, List.headD_cons, List.getD_cons_zero, List.getD_cons_succ, bind_s, sParseRow x (by omega)]
        cases hp : parseR x with
        | none => rw [pR_none hp]; rfl
        | some r =>
          rw [pR_some hp, len_map, show fitM (Nat.succ o.length) 24 = true from fitT (by omega)]
          simp only [gn_c, gb_c, gs_c, gl_c, tk_s, tk_0, List.drop_succ_cons, List.drop_zero, List.headD_cons, List.getD_cons_zero, List.getD_cons_succ, bind_s, Rw_app]
          rfl
      cases hp : parseR x with
      | none =>
        refine .inr ?_
        show L_spec_ParseRows_0 _ _ _ _ = _
        rw [step, hp, pRs_step hne e hp]
      | some r =>
        obtain ⟨q1, q2⟩ := parseR_some.mp hp
        refine .inl ⟨o ++ [r], ?_, ⟨by rw [hI.1]; simp [q2], fun z hz => ?_⟩, rfl⟩
        · show L_spec_ParseRows_0 _ _ _ _ = _
          rw [step, hp]
        · rcases List.mem_append.mp hz with hz | hz
          · exact hI.2 z hz
          · simp at hz; subst hz; exact q1) (fun o hI => by
      show L_spec_ParseRows_0 _ _ _ _ = _
      have hol : o.length = (cutL 32 s).length := by rw [hI.1]; simp
      rw [L_spec_ParseRows_0_eq, lt_e, cond_false, sAreValid o (by omega)]
      simp only [gn_c, gb_c, gs_c, gl_c, tk_s, tk_0, List.drop_succ_cons, List.drop_zero, List.headD_cons, List.getD_cons_zero, List.getD_cons_succ, bind_s, bifn]
      exact pRs_end hne hI.1 hI.2) [] ⟨rfl, by simp⟩
    exact this
end Go.Proofs.Ytbmafhpbinjgaaa.Vai
namespace Go.Proofs.Ytbmafhpbinjgaaa.Vai
open Go
set_option linter.unusedSimpArgs false
set_option linter.unusedVariables false
set_option linter.unnecessarySimpa false
set_option maxRecDepth 10000
theorem joinL_le {b : UInt8} {c : Nat} : ∀ {l : List (List UInt8)}, (∀ x ∈ l, x.length ≤ c) → (l.map fun x => x.length + [b].length).sum ≤ (c + 1) * l.length
  | [], _ => by simp
  | x :: l, h => by
    have h1 := h x (by simp)
    have ih := joinL_le (b := b) (l := l) (fun y hy => h y (by simp [hy]))
    simp only [List.map_cons, List.sum_cons, List.length_cons, List.length_nil] at ih ⊢
    rw [Nat.mul_add]; omega
theorem joinL_le' {b : UInt8} {c : Nat} {l : List (List UInt8)} (h : ∀ x ∈ l, x.length ≤ c) : (joinL [b] l).length ≤ (c + 1) * l.length := Nat.le_trans (joinL_len _ _) (joinL_le h)
end Go.Proofs.Ytbmafhpbinjgaaa.Vai
namespace Go.Proofs.Ytbmafhpbinjgaaa.Vai
open Go
set_option linter.unusedSimpArgs false
set_option linter.unusedVariables false
set_option linter.unnecessarySimpa false
set_option maxRecDepth 10000
theorem joinL_nosep {b c : UInt8} (h : b ≠ c) : ∀ l : List (List UInt8), (∀ x ∈ l, b ∉ x) → b ∉ joinL [c] l
  | [], _ => by simp [joinL]
  | [x], hx => by simpa [joinL] using hx x (by simp)
  | x :: y :: r, hx => by
    have ih := joinL_nosep h (y :: r) (fun z hz => hx z (by simp [hz]))
    rw [joinL_cons (by simp)]
    simp only [List.mem_append, List.mem_singleton, not_or]
    exact ⟨⟨hx x (by simp), h⟩, ih⟩
theorem txtRs_nosep {b : UInt8} (hb : isDig b = false) (h45 : b ≠ 45) (h46 : b ≠ 46) (h32 : b ≠ 32) (l : List Rw) : b ∉ txtRs l :=
  joinL_nosep h32 _ (fun x hx => by
    obtain ⟨r, _, rfl⟩ := List.mem_map.mp hx
    exact fmtR_nosep hb h45 h46 r)
theorem fmtRs_nosep {b : UInt8} (hb : isDig b = false) (h45 : b ≠ 45) (h46 : b ≠ 46) (h32 : b ≠ 32) (l : List Rw) : b ∉ fmtRs l := by
  unfold fmtRs
  split
  · exact txtRs_nosep hb h45 h46 h32 l
  · simp
def fmtRuns (l : List (List Rw)) : List UInt8 := joinL [124] (l.map fmtRs)
theorem mapRs_le (l : List (List Rw)) : ∀ x ∈ l.map fmtRs, x.length ≤ 1512 := fun x hx => by
  obtain ⟨r, _, rfl⟩ := List.mem_map.mp hx
  exact fmtRs_len r
theorem fmtRuns_len (l : List (List Rw)) : (fmtRuns l).length ≤ 1513 * l.length := by have := joinL_le' (b := 124) (mapRs_le l); simpa [fmtRuns] using this
theorem fmtRuns_nosep {b : UInt8} (hb : isDig b = false) (h45 : b ≠ 45) (h46 : b ≠ 46) (h32 : b ≠ 32) (h124 : b ≠ 124) (l : List (List Rw)) : b ∉ fmtRuns l :=
  joinL_nosep h124 _ (fun x hx => by
    obtain ⟨r, _, rfl⟩ := List.mem_map.mp hx
    exact fmtRs_nosep hb h45 h46 h32 r)
theorem iFormatRuns (l : List (List Rw)) (h : runSz l) : callI tE f_impl_FormatRuns [.sl (l.map rsE)] = some [.str (S (fmtRuns l))] := by
  have hl := szL_len List.length l
  unfold runSz at h
  rw [c_impl_FormatRuns]
  have hj := joinL_le (b := 124) (mapRs_le l)
  rw [List.length_map] at hj
  have := zip_loop (l := l) (L := fun (s : List (List UInt8)) i => L_impl_FormatRuns_0 (l.map rsE) (lenI (l.map rsE)) i (s.map StE)) (F := fun _ _ => some [.str (S (fmtRuns l))]) (I := fun s u _ => s = u.map fmtRs) (by omega) (fun u a v s e hI => by
    have hul : u.length < 1099511627776 := by rw [e] at hl; simp at hl; rw [e] at h; omega
    refine .inl ⟨(u ++ [a]).map fmtRs, ?_, rfl, rfl⟩
    show L_impl_FormatRuns_0 _ _ _ _ = L_impl_FormatRuns_0 _ _ _ _
    have hf : fitM (Nat.succ u.length) 16 = true := fitT (by omega)
    subst e
    rw [L_impl_FormatRuns_0_eq, hI]
    simp only [lt_m, in_m, tn_c, at_m, cond_true, rsE, gn_c, gb_c, gs_c, gl_c, tk_s, tk_0, List.drop_succ_cons, List.drop_zero, List.headD_cons, List.getD_cons_zero, List.getD_cons_succ, bind_s, iFormatRows, len_map]
    rw [List.length_map, hf, cond_true, strs_app]
    simp) (fun s hs => by
    show L_impl_FormatRuns_0 _ _ _ _ = _
    rw [L_impl_FormatRuns_0_eq, lt_e, cond_false, hs, iJoined [124] (l.map fmtRs) (by simp; omega) (by omega)]; rfl) [] rfl
  exact this
theorem sFormatRuns (l : List (List Rw)) (h : runSz l) : callI tE f_spec_FormatRuns [.sl (l.map rsE)] = some [.str (S (fmtRuns l))] := by
  have hl := szL_len List.length l
  unfold runSz at h
  rw [c_spec_FormatRuns]
  have := zip_loop (l := l) (L := fun s i => L_spec_FormatRuns_0 (l.map rsE) (S s) i) (F := fun _ _ => some [.str (S (fmtRuns l))]) (I := fun s u _ => s = fmtRuns u) (by omega) (fun u a v s e hI => by
    have hul : u.length < 1099511627776 := by rw [e] at hl; simp at hl; rw [e] at h; omega
    have ha : a.length ≤ 1073741824 := Nat.le_trans (szL_mem' (by rw [e]; simp)) h
    have l0 := fmtRuns_len u
    have l1 := fmtRs_len a
    refine .inl ⟨fmtRuns (u ++ [a]), ?_, rfl, rfl⟩
    show L_spec_FormatRuns_0 _ _ _ = L_spec_FormatRuns_0 _ _ _
    have ej : fmtRuns (u ++ [a]) = if u = [] then fmtRs a else fmtRuns u ++ [124] ++ fmtRs a := by
      unfold fmtRuns
      rw [List.map_append, List.map_cons, List.map_nil, jl_snoc]
      simp
    subst e
    rw [L_spec_FormatRuns_0_eq, hI, ej]
    simp only [lt_m, in_m, tn_c, at_m, cond_true, rsE, gn_c, gb_c, gs_c, gl_c, tk_s, tk_0, List.drop_succ_cons, List.drop_zero, List.headD_cons, List.getD_cons_zero, List.getD_cons_succ, bind_s, sFormatRows a (show a.length < 1099511627776 by omega)]
    by_cases hu : u = []
    · have e0 : fmtRuns u = [] := by rw [hu]; rfl
      rw [if_pos hu, ltF (by simp [hu]), e0, cond_false, fitS_S (by simp; omega), S_app]
      rfl
    · have hul : 0 < u.length := List.length_pos_iff.mpr hu
      rw [if_neg hu, ltT (by omega), cond_true, fitS_S (by simp; omega), S_app, cond_true, fitS_S (by simp; omega), S_app, cond_true]) (fun s hs => by
    show L_spec_FormatRuns_0 _ _ _ = _
    rw [L_spec_FormatRuns_0_eq, lt_e, cond_false, hs]) [] rfl
  exact this
theorem mrg_perm : ∀ (n : Nat) (a b : List Rw), a.length + b.length = n → (mrg a b).Perm (a ++ b)
  | _, [], b, _ => by rw [mrg_nil]; exact List.Perm.refl _
  | _, x :: a, [], _ => by rw [mrg_nil']; simp
  | 0, x :: a, y :: b, h => by simp at h
  | n + 1, x :: a, y :: b, h => by
    simp only [List.length_cons] at h
    rw [mrg_cc]
    split
    · exact (mrg_perm n a (y :: b) (by simp; omega)).cons x
    · exact ((mrg_perm n (x :: a) b (by simp; omega)).cons y).trans (List.perm_middle.symm)
theorem aok_sub {l m : List Rw} (h : aok m = true) (hl : l.length ≤ m.length) (hs : ∀ r ∈ l, r ∈ m) : aok l = true := by
  have := aok_iff.mp h
  exact aok_iff.mpr ⟨by omega, fun r hr => this.2 r (hs r hr)⟩
theorem soOk_p {s : So} (h : soOk s = true) : aok s.inp = true ∧ (0 ≤ s.pos ∧ s.pos ≤ s.inp.length) ∧ (∀ r ∈ s.runs, runOk r = true) ∧ 0 ≤ s.wr ∧ Srt s.out ∧ (∀ r ∈ s.heap, belowB r s.out = false) ∧ soTail s = true := by
  simp only [soOk, Bool.and_eq_true, win_iff, decide_eq_true_eq, List.all_eq_true, isS_iff, Bool.not_eq_true'] at h
  exact h
theorem soTail_1 {s : So} (h : soTail s = true) (p : s.ph = 1) : s.lp = 0 ∧ s.rp = 0 ∧ (s.out ≠ [] ∨ s.dfd = []) ∧ memS s ≤ 60 ∧ (s.runs.flatten ++ (s.out ++ (s.heap ++ s.dfd))).Perm (s.inp.take s.pos.toNat) := by
  unfold soTail at h
  rw [if_pos p] at h
  simp only [Bool.and_eq_true, decide_eq_true_eq, bagEq_iff] at h
  exact h
theorem soTail_n {s : So} (h : soTail s = true) (p : s.ph ≠ 1) : s.pos = s.inp.length ∧ s.heap = [] ∧ s.dfd = [] ∧ s.runs.flatten.Perm s.inp ∧ soLate s = true := by
  unfold soTail at h
  rw [if_neg p] at h
  simp only [Bool.and_eq_true, decide_eq_true_eq, bagEq_iff] at h
  exact h
theorem soLate_2 {s : So} (h : soLate s = true) (p : s.ph = 2) : ∃ a b r, s.runs = a :: b :: r ∧ (0 ≤ s.lp ∧ s.lp ≤ a.length) ∧ (0 ≤ s.rp ∧ s.rp ≤ b.length) ∧ s.out = mrg (a.take s.lp.toNat) (b.take s.rp.toNat) ∧ s.out = (mrg a b).take (s.lp.toNat + s.rp.toNat) := by
  unfold soLate at h
  rw [if_pos p] at h
  unfold mergeOk at h
  split at h
  · rename_i a b r hr
    simp only [Bool.and_eq_true, decide_eq_true_eq, win_iff] at h
    exact ⟨a, b, r, hr, h.1, h.2.1, h.2.2.1, h.2.2.2⟩
  · cases h
theorem soLate_3 {s : So} (h : soLate s = true) (p : s.ph = 3) : s.runs.length = 1 ∧ (0 ≤ s.lp ∧ s.lp < s.inp.length) ∧ s.rp = 0 ∧ s.out = [] := by
  unfold soLate at h
  rw [if_neg (by omega), if_pos p] at h
  simp only [Bool.and_eq_true, decide_eq_true_eq] at h
  exact ⟨h.1, h.2.1, h.2.2.1, h.2.2.2⟩
theorem soLate_4 {s : So} (h : soLate s = true) (p : s.ph = 4) : s.runs.length ≤ 1 ∧ s.lp = s.inp.length ∧ s.rp = 0 ∧ s.out = [] := by
  unfold soLate at h
  rw [if_neg (by omega), if_neg (by omega), if_pos p] at h
  simp only [Bool.and_eq_true, decide_eq_true_eq] at h
  exact ⟨h.1, h.2.1, h.2.2.1, h.2.2.2⟩
theorem soLate_ph {s : So} (h : soLate s = true) : s.ph = 2 ∨ s.ph = 3 ∨ s.ph = 4 := by
  unfold soLate at h
  split at h
  · exact .inl (by assumption)
  · split at h
    · exact .inr (.inl (by assumption))
    · split at h
      · exact .inr (.inr (by assumption))
      · cases h
theorem so_rows {s : So} (h : soOk s = true) : aok s.heap = true ∧ aok s.dfd = true ∧ aok s.out = true := by
  obtain ⟨h1, h2, h3, h4, h5, h6, h7⟩ := soOk_p h
  by_cases p1 : s.ph = 1
  · obtain ⟨q1, q2, q3, q4, q5⟩ := soTail_1 h7 p1
    have hlen := q5.length_eq
    simp only [List.length_append, List.length_take] at hlen
    have hm : ∀ r, r ∈ s.runs.flatten ++ (s.out ++ (s.heap ++ s.dfd)) → r ∈ s.inp := fun r hr => List.mem_of_mem_take (q5.mem_iff.mp hr)
    refine ⟨aok_sub h1 (by omega) (fun r hr => hm r ?_), aok_sub h1 (by omega) (fun r hr => hm r ?_), aok_sub h1 (by omega) (fun r hr => hm r ?_)⟩
    · exact List.mem_append_right _ (List.mem_append_right _ (List.mem_append_left _ hr))
    · exact List.mem_append_right _ (List.mem_append_right _ (List.mem_append_right _ hr))
    · exact List.mem_append_right _ (List.mem_append_left _ hr)
  · obtain ⟨q1, q2, q3, q4, q5⟩ := soTail_n h7 p1
    refine ⟨by rw [q2]; rfl, by rw [q3]; rfl, ?_⟩
    rcases soLate_ph q5 with p | p | p
    · obtain ⟨a, b, r, e1, e2, e3, e4, e5⟩ := soLate_2 q5 p
      have hp := mrg_perm _ a b rfl
      have hlen := q4.length_eq
      rw [e1] at hlen
      simp only [List.flatten_cons, List.length_append] at hlen
      have ml := mrg_length a b
      refine aok_sub h1 (by rw [e5, List.length_take]; omega) (fun x hx => ?_)
      rw [e5] at hx
      have hx2 := hp.mem_iff.mp (List.mem_of_mem_take hx)
      refine q4.mem_iff.mp ?_
      rw [e1]
      simp only [List.flatten_cons, List.mem_append] at hx2 ⊢
      rcases hx2 with hx2 | hx2
      · exact .inl hx2
      · exact .inr (.inl hx2)
    · rw [(soLate_3 q5 p).2.2.2]; rfl
    · rw [(soLate_4 q5 p).2.2.2]; rfl
def soFs (s : So) : List (List UInt8) := [fmtRs s.inp, fmt s.pos, fmtRs s.heap, fmtRs s.dfd, fmtRs s.out, fmtRuns s.runs, fmt s.lp, fmt s.rp, fmt s.ph, fmt s.wr]
def fmtSo (s : So) : List UInt8 := joinL [47] (soFs s)
def txtSo (s : So) : List UInt8 := if soOk s then fmtSo s else []
def So.nb (s : So) : Prop := I64 s.pos ∧ I64 s.lp ∧ I64 s.rp ∧ I64 s.ph ∧ I64 s.wr
theorem fmtSo_eq (s : So) : fmtSo s = fmtRs s.inp ++ [47] ++ fmt s.pos ++ [47] ++ fmtRs s.heap ++ [47] ++ fmtRs s.dfd ++ [47] ++ fmtRs s.out ++ [47] ++ fmtRuns s.runs ++ [47] ++ fmt s.lp ++ [47] ++ fmt s.rp ++ [47] ++ fmt s.ph ++ [47] ++ fmt s.wr := by
  simp [fmtSo, soFs, joinL]
theorem fmtSo_len (s : So) (hb : s.nb) (h : runSz s.runs) : (fmtSo s).length ≤ 1624571391080 := by
  obtain ⟨b1, b2, b3, b4, b5⟩ := hb
  have hl := szL_len List.length s.runs
  unfold runSz at h
  have a1 := fmt_len b1
  have a2 := fmt_len b2
  have a3 := fmt_len b3
  have a4 := fmt_len b4
  have a5 := fmt_len b5
  have l1 := fmtRs_len s.inp
  have l2 := fmtRs_len s.heap
  have l3 := fmtRs_len s.dfd
  have l4 := fmtRs_len s.out
  have l5 := fmtRuns_len s.runs
  rw [fmtSo_eq]
  simp only [List.length_append, List.length_cons, List.length_nil]
  omega
theorem iFormatSo (s : So) (h : s.B2) (hb : s.nb) : callI tE f_impl_FormatSorter [.sl (s.inp.map Rw.e), .int s.pos, .sl (s.heap.map Rw.e), .sl (s.dfd.map Rw.e), .sl (s.out.map Rw.e), .sl (s.runs.map rsE), .int s.lp, .int s.rp, .int s.ph, .int s.wr] = some [.str (S (txtSo s))] := by
  obtain ⟨h1, h2, h3, h4, h5⟩ := h.b.p
  have hl := szL_len List.length s.runs
  have h5' := h5
  unfold runSz at h5'
  obtain ⟨b1, b2, b3, b4, b5⟩ := hb
  rw [c_impl_FormatSorter, iValidSo s h]
  simp only [gn_c, gb_c, gs_c, gl_c, tk_s, tk_0, List.drop_succ_cons, List.drop_zero, List.headD_cons, List.getD_cons_zero, List.getD_cons_succ, bind_s]
  unfold txtSo
  by_cases hv : soOk s = true
  · obtain ⟨r1, r2, r3⟩ := so_rows hv
    have a1 := fmt_len b1
    have a2 := fmt_len b2
    have a3 := fmt_len b3
    have a4 := fmt_len b4
    have a5 := fmt_len b5
    have l1 := fmtRs_len s.inp
    have l2 := fmtRs_len s.heap
    have l3 := fmtRs_len s.dfd
    have l4 := fmtRs_len s.out
    have l5 := fmtRuns_len s.runs
    have t2 := iRowTexts s.heap (by omega)
    have t3 := iRowTexts s.dfd (by omega)
    have t4 := iRowTexts s.out (by omega)
    rw [← fmtRs_ok r1] at t2
    rw [← fmtRs_ok r2] at t3
    rw [← fmtRs_ok r3] at t4
    have hj := iJoined [47] (soFs s) (by simp [soFs]) (by simp [soFs]; omega)
    simp only [soFs, List.map_cons, List.map_nil, StE] at hj
    rw [hv, if_pos rfl, Bool.not_true, cond_false]
    simp only [iFormatRows, iFormatInt_ok b1, iFormatInt_ok b2, iFormatInt_ok b3, iFormatInt_ok b4, iFormatInt_ok b5, t2, t3, t4, iFormatRuns s.runs h5, gn_c, gb_c, gs_c, gl_c, tk_s, tk_0, List.drop_succ_cons, List.drop_zero, List.headD_cons, List.getD_cons_zero, List.getD_cons_succ, bind_s, hj]
    rfl
  · rw [if_neg hv, (Bool.not_eq_true _).mp hv]; rfl
theorem sFormatSo (s : So) (h : s.B2) (hb : s.nb) : callI tE f_spec_FormatSorter [.sl (s.inp.map Rw.e), .int s.pos, .sl (s.heap.map Rw.e), .sl (s.dfd.map Rw.e), .sl (s.out.map Rw.e), .sl (s.runs.map rsE), .int s.lp, .int s.rp, .int s.ph, .int s.wr] = some [.str (S (txtSo s))] := by
  obtain ⟨h1, h2, h3, h4, h5⟩ := h.b.p
  have hl := szL_len List.length s.runs
  have h5' := h5
  unfold runSz at h5'
  obtain ⟨b1, b2, b3, b4, b5⟩ := hb
  rw [c_spec_FormatSorter, sValidSo s h]
  simp only [gn_c, gb_c, gs_c, gl_c, tk_s, tk_0, List.drop_succ_cons, List.drop_zero, List.headD_cons, List.getD_cons_zero, List.getD_cons_succ, bind_s]
  unfold txtSo
  by_cases hv : soOk s = true
  · have a1 := fmt_len b1
    have a2 := fmt_len b2
    have a3 := fmt_len b3
    have a4 := fmt_len b4
    have a5 := fmt_len b5
    have l1 := fmtRs_len s.inp
    have l2 := fmtRs_len s.heap
    have l3 := fmtRs_len s.dfd
    have l4 := fmtRs_len s.out
    have l5 := fmtRuns_len s.runs
    rw [hv, if_pos rfl, Bool.not_true, cond_false, fmtSo_eq]
    simp only [sFormatRows s.inp (by omega), sFormatRows s.heap (by omega), sFormatRows s.dfd (by omega), sFormatRows s.out (by omega), sFormatInt_ok b1, sFormatInt_ok b2, sFormatInt_ok b3, sFormatInt_ok b4, sFormatInt_ok b5, sFormatRuns s.runs h5, gn_c, gb_c, gs_c, gl_c, tk_s, tk_0, List.drop_succ_cons, List.drop_zero, List.headD_cons, List.getD_cons_zero, List.getD_cons_succ, bind_s]
    rw [fitS_S (by simp; omega), S_app, cond_true, fitS_S (by simp; omega), S_app, cond_true, fitS_S (by simp; omega), S_app, cond_true, fitS_S (by simp; omega), S_app, cond_true, fitS_S (by simp; omega), S_app, cond_true, fitS_S (by simp; omega), S_app, cond_true]
    rw [fitS_S (by simp; omega), S_app, cond_true, fitS_S (by simp; omega), S_app, cond_true, fitS_S (by simp; omega), S_app, cond_true, fitS_S (by simp; omega), S_app, cond_true, fitS_S (by simp; omega), S_app, cond_true, fitS_S (by simp; omega), S_app, cond_true]
    rw [fitS_S (by simp; omega), S_app, cond_true, fitS_S (by simp; omega), S_app, cond_true, fitS_S (by simp; omega), S_app, cond_true, fitS_S (by simp; omega), S_app, cond_true, fitS_S (by simp; omega), S_app, cond_true, fitS_S (by simp; omega), S_app, cond_true]
  · rw [if_neg hv, (Bool.not_eq_true _).mp hv]; rfl
end Go.Proofs.Ytbmafhpbinjgaaa.Vai
namespace Go.Proofs.Ytbmafhpbinjgaaa.Vai
open Go
set_option linter.unusedSimpArgs false
set_option linter.unusedVariables false
set_option linter.unnecessarySimpa false
set_option maxRecDepth 10000
noncomputable def rowsOf (s : List UInt8) : List Rw := (parseRs s).getD []
noncomputable def isR (s : List UInt8) : Bool := (parseRs s).isSome
theorem pRs_eq (s : List UInt8) : pRs s = [.sl ((rowsOf s).map Rw.e), .bool (isR s)] := by
  unfold pRs rowsOf isR
  cases parseRs s <;> rfl
theorem isR_rows {s : List UInt8} (h : isR s = true) : aok (rowsOf s) = true ∧ fmtRs (rowsOf s) = s := by
  unfold isR at h
  cases hp : parseRs s with
  | none => rw [hp] at h; cases h
  | some l =>
    have := parseRs_some.mp hp
    unfold rowsOf
    rw [hp]
    exact this
theorem rows_fmt {l : List Rw} (h : aok l = true) : rowsOf (fmtRs l) = l ∧ isR (fmtRs l) = true := by
  have := parseRs_some.mpr ⟨h, rfl⟩
  unfold rowsOf isR
  rw [this]
  exact ⟨rfl, rfl⟩
theorem rowsOf_len (s : List UInt8) : (rowsOf s).length ≤ 24 := by
  unfold rowsOf
  cases hp : parseRs s with
  | none => simp
  | some l => exact aok_len (parseRs_some.mp hp).1
noncomputable def runsOf (s : List UInt8) : List (List Rw) := if s = [] then [] else (cutL 124 s).map rowsOf
noncomputable def areR (s : List UInt8) : Bool := decide (s = []) || (cutL 124 s).all isR
theorem runsOf_sz (s : List UInt8) : szL List.length (runsOf s) ≤ 25 * (s.length + 1) := by
  unfold runsOf
  split
  · simp [szL]
  · have h := cutL_len 124 s
    have key : ∀ l : List (List UInt8), szL List.length (l.map rowsOf) ≤ 25 * l.length := fun l => by
      induction l with
      | nil => simp [szL]
      | cons a l ih =>
        have := rowsOf_len a
        simp only [List.map_cons, szL, List.length_cons]
        omega
    have := key (cutL 124 s)
    omega
theorem runs_fmt {l : List (List Rw)} (h : ∀ r ∈ l, runOk r = true) : runsOf (fmtRuns l) = l ∧ areR (fmtRuns l) = true := by
  have hr : ∀ r ∈ l, aok r = true ∧ r ≠ [] := fun r hr => by
    have := h r hr
    simp only [runOk, Bool.and_eq_true, decide_eq_true_eq] at this
    exact ⟨this.2.2, fun e => by rw [e] at this; simp at this⟩
  cases l with
  | nil =>
    have e : fmtRuns [] = [] := rfl
    rw [e]
    unfold runsOf areR
    exact ⟨if_pos rfl, rfl⟩
  | cons a r =>
    have hne : fmtRuns (a :: r) ≠ [] := fun e => by
      have h1 := hr a (by simp)
      have hf : fmtRs a ≠ [] := fun e2 => h1.2 (txtRs_nil (aok_all h1.1) (by rw [← fmtRs_ok h1.1]; exact e2))
      cases r with
      | nil => exact hf e
      | cons b r =>
        have : fmtRuns (a :: b :: r) = fmtRs a ++ [124] ++ fmtRuns (b :: r) := joinL_cons (by simp)
        rw [this] at e
        simp at e
    have hc : cutL 124 (fmtRuns (a :: r)) = (a :: r).map fmtRs := cut_join 124 _ (by simp) (fun x hx => by
      obtain ⟨q, _, rfl⟩ := List.mem_map.mp hx
      exact fmtRs_nosep (by decide) (by decide) (by decide) (by decide) q)
    unfold runsOf areR
    rw [if_neg hne, hc]
    refine ⟨?_, ?_⟩
    · rw [List.map_map]
      have : ∀ x ∈ a :: r, (rowsOf ∘ fmtRs) x = id x := fun x hx => (rows_fmt (hr x hx).1).1
      rw [List.map_congr_left this, List.map_id]
    · rw [Bool.or_eq_true]
      refine .inr (List.all_eq_true.mpr fun x hx => ?_)
      obtain ⟨q, hq, rfl⟩ := List.mem_map.mp hx
      exact (rows_fmt (hr q hq).1).2
theorem iParseRuns (s : List UInt8) (hs : s.length ≤ 2097152) : ∃ m : List (List Rw), callI tE f_impl_parseRuns [.str (S s)] = some [.sl (m.map rsE), .bool (areR s)] ∧ (areR s = true → m = runsOf s) := by
  rw [c_impl_parseRuns, eqS_S]
  by_cases h0 : s = []
  · subst h0
    refine ⟨[], rfl, fun _ => ?_⟩
    unfold runsOf; rw [if_pos rfl]
  · have hc := cutL_len 124 s
    rw [decide_eq_false h0, cond_false, show ((124 : Int)) = (((124 : UInt8).toNat : Nat) : Int) from rfl, iCut 124 s (by omega)]
    simp only [gn_c, gb_c, gs_c, gl_c, tk_s, tk_0, List.drop_succ_cons, List.drop_zero, List.headD_cons, List.getD_cons_zero, List.getD_cons_succ, bind_s]
    have key : ∀ (v u : List (List UInt8)), cutL 124 s = u ++ v → u.all isR = true → ∃ m : List (List Rw), L_impl_parseRuns_0 (lenI ((cutL 124 s).map StE)) (u.length : Nat) ((u.map rowsOf).map rsE) ((cutL 124 s).map StE) = some [.sl (m.map rsE), .bool (areR s)] ∧ (areR s = true → m = runsOf s) := by
      intro v
      induction v with
      | nil =>
        intro u hu ha
        rw [List.append_nil] at hu
        have hr : areR s = true := by unfold areR; rw [hu, ha]; simp
        refine ⟨u.map rowsOf, ?_, fun _ => ?_⟩
        · rw [L_impl_parseRuns_0_eq, lenI_map, ltF (by rw [hu]; omega), cond_false, hr]
        · unfold runsOf; rw [if_neg h0, hu]
      | cons x v ih =>
        intro u hu ha
        have hx : x.length ≤ 2097152 := Nat.le_trans (cutL_sub (show x ∈ cutL 124 s by rw [hu]; simp)) hs
        have hul : u.length < (cutL 124 s).length := by rw [hu]; simp
        have hat : at' ((cutL 124 s).map StE) u.length = StE x := at_i hu rfl
        rw [L_impl_parseRuns_0_eq, lenI_map, ltT (by omega), cond_true, inRT (by omega) (by omega), cond_true]
        simp only [tn_c, hat, StE, gn_c, gb_c, gs_c, gl_c, tk_s, tk_0, List.drop_succ_cons, List.drop_zero, List.headD_cons, List.getD_cons_zero, List.getD_cons_succ, bind_s, iParseRows x (by omega), pRs_eq]
        cases hr : isR x with
        | false =>
          have har : areR s = false := by
            unfold areR
            rw [decide_eq_false h0, hu]
            simp [hr]
          exact ⟨[], by rw [har]; rfl, fun e => by rw [har] at e; cases e⟩
        | true =>
          have ih2 := ih (u ++ [x]) (by rw [hu]; simp) (by simp [ha, hr])
          rw [Bool.not_true, cond_false, len_map, List.length_map, show fitM (Nat.succ u.length) 24 = true from fitT (by omega), cond_true, rs_app, w64_s (by omega)]
          rw [List.length_append, List.length_singleton, List.map_append, List.map_cons, List.map_nil, lenI_map] at ih2
          exact ih2
    exact key (cutL 124 s) [] rfl rfl
def SoP (s : So) : Prop := soOk s = true ∧ s.wr < 1000000000
theorem soP_lt {s : So} (h : SoP s) : s.pos.natAbs < 1000000000 ∧ s.lp.natAbs < 1000000000 ∧ s.rp.natAbs < 1000000000 ∧ s.ph.natAbs < 1000000000 ∧ s.wr.natAbs < 1000000000 := by
  obtain ⟨hv, hw⟩ := h
  obtain ⟨h1, h2, h3, h4, h5, h6, h7⟩ := soOk_p hv
  have hl := aok_len h1
  by_cases p1 : s.ph = 1
  · obtain ⟨q1, q2, _⟩ := soTail_1 h7 p1
    omega
  · obtain ⟨q1, q2, q3, q4, q5⟩ := soTail_n h7 p1
    rcases soLate_ph q5 with p | p | p
    · obtain ⟨a, b, r, e1, e2, e3, _⟩ := soLate_2 q5 p
      have hlen := q4.length_eq
      rw [e1] at hlen
      simp only [List.flatten_cons, List.length_append] at hlen
      omega
    · obtain ⟨e1, e2, e3, _⟩ := soLate_3 q5 p
      omega
    · obtain ⟨e1, e2, e3, _⟩ := soLate_4 q5 p
      omega
theorem soFs_nosep (s : So) : ∀ x ∈ soFs s, (47 : UInt8) ∉ x := fun x hx => by
  have hR : ∀ l, (47 : UInt8) ∉ fmtRs l := fun l => fmtRs_nosep (by decide) (by decide) (by decide) (by decide) l
  have hN : ∀ n, (47 : UInt8) ∉ fmt n := fun n => fmt_nosep (by decide) (by decide) n
  have hU := fmtRuns_nosep (b := 47) (by decide) (by decide) (by decide) (by decide) (by decide) s.runs
  simp only [soFs, List.mem_cons, List.not_mem_nil, or_false] at hx
  rcases hx with rfl | rfl | rfl | rfl | rfl | rfl | rfl | rfl | rfl | rfl
  · exact hR _
  · exact hN _
  · exact hR _
  · exact hR _
  · exact hR _
  · exact hU
  · exact hN _
  · exact hN _
  · exact hN _
  · exact hN _
theorem fmtSo_cut (s : So) : cutL 47 (fmtSo s) = soFs s := cut_join 47 _ (by simp [soFs]) (soFs_nosep s)
noncomputable def soOf (w : List (List UInt8)) : So := ⟨rowsOf (w.getD 0 []), num (w.getD 1 []), rowsOf (w.getD 2 []), rowsOf (w.getD 3 []), rowsOf (w.getD 4 []), runsOf (w.getD 5 []), num (w.getD 6 []), num (w.getD 7 []), num (w.getD 8 []), num (w.getD 9 [])⟩
noncomputable def soAll (w : List (List UInt8)) : Bool := isR (w.getD 0 []) && (isN (w.getD 1 []) && (isR (w.getD 2 []) && (isR (w.getD 3 []) && (isR (w.getD 4 []) && (areR (w.getD 5 []) && (isN (w.getD 6 []) && (isN (w.getD 7 []) && (isN (w.getD 8 []) && isN (w.getD 9 [])))))))))
theorem soOf_fs {s : So} (h : SoP s) : soOf (soFs s) = s ∧ soAll (soFs s) = true := by
  obtain ⟨h1, h2, h3, h4, h5, h6, h7⟩ := soOk_p h.1
  obtain ⟨r1, r2, r3⟩ := so_rows h.1
  obtain ⟨n1, n2, n3, n4, n5⟩ := soP_lt h
  have e0 := rows_fmt h1
  have e1 := num_fmt n1
  have e2 := rows_fmt r1
  have e3 := rows_fmt r2
  have e4 := rows_fmt r3
  have e5 := runs_fmt h3
  have e6 := num_fmt n2
  have e7 := num_fmt n3
  have e8 := num_fmt n4
  have e9 := num_fmt n5
  refine ⟨?_, ?_⟩
  · show (⟨rowsOf (fmtRs s.inp), num (fmt s.pos), rowsOf (fmtRs s.heap), rowsOf (fmtRs s.dfd), rowsOf (fmtRs s.out), runsOf (fmtRuns s.runs), num (fmt s.lp), num (fmt s.rp), num (fmt s.ph), num (fmt s.wr)⟩ : So) = s
    rw [e0.1, e1.1, e2.1, e3.1, e4.1, e5.1, e6.1, e7.1, e8.1, e9.1]
  · show (isR (fmtRs s.inp) && (isN (fmt s.pos) && (isR (fmtRs s.heap) && (isR (fmtRs s.dfd) && (isR (fmtRs s.out) && (areR (fmtRuns s.runs) && (isN (fmt s.lp) && (isN (fmt s.rp) && (isN (fmt s.ph) && isN (fmt s.wr)))))))))) = true
    rw [e0.2, e1.2, e2.2, e3.2, e4.2, e5.2, e6.2, e7.2, e8.2, e9.2]
    rfl
theorem fmtSo_inj (a b : So) (ha : SoP a) (hb : SoP b) (h : fmtSo a = fmtSo b) : a = b := by
  have e := fmtSo_cut a
  rw [h, fmtSo_cut b] at e
  rw [← (soOf_fs ha).1, ← (soOf_fs hb).1, e]
noncomputable def parseSo (s : List UInt8) : Option So := unf SoP fmtSo s
theorem parseSo_some {s : List UInt8} {x : So} : parseSo s = some x ↔ SoP x ∧ fmtSo x = s := unf_some fmtSo_inj
theorem parseSo_none {s : List UInt8} : parseSo s = none ↔ ∀ x : So, SoP x → fmtSo x ≠ s := unf_none
def soZ : So := ⟨[], 0, [], [], [], [], 0, 0, 0, 0⟩
def SoR (x : So) (b : Bool) : List Dat := [.sl (x.inp.map Rw.e), .int x.pos, .sl (x.heap.map Rw.e), .sl (x.dfd.map Rw.e), .sl (x.out.map Rw.e), .sl (x.runs.map rsE), .int x.lp, .int x.rp, .int x.ph, .int x.wr, .bool b]
noncomputable def pSo (s : List UInt8) : List Dat := match parseSo s with
  | some x => SoR x true
  | none => SoR soZ false
theorem list10 {α : Type} {l : List α} (h : l.length = 10) : ∃ a b c d e f g i j k, l = [a, b, c, d, e, f, g, i, j, k] := by
  match l, h with
  | [a, b, c, d, e, f, g, i, j, k], _ => exact ⟨a, b, c, d, e, f, g, i, j, k, rfl⟩
theorem pSo_bad {s : List UInt8} (h : (cutL 47 s).length ≠ 10) : pSo s = SoR soZ false := by
  unfold pSo
  rw [parseSo_none.mpr fun x _ hx => h (by rw [← hx, fmtSo_cut]; rfl)]
theorem soOf_sz (s : List UInt8) (hs : s.length ≤ 2097152) : (soOf (cutL 47 s)).B2 := by
  have g : ∀ i, ((cutL 47 s).getD i []).length ≤ 2097152 := fun i => by
    by_cases hi : i < (cutL 47 s).length
    · have : (cutL 47 s).getD i [] ∈ cutL 47 s := by
        rw [List.getD_eq_getElem?_getD, List.getElem?_eq_getElem hi]
        exact List.getElem_mem hi
      exact Nat.le_trans (cutL_sub this) hs
    · rw [List.getD_eq_getElem?_getD, List.getElem?_eq_none (by omega)]
      simp
  have a0 := rowsOf_len ((cutL 47 s).getD 0 [])
  have a2 := rowsOf_len ((cutL 47 s).getD 2 [])
  have a3 := rowsOf_len ((cutL 47 s).getD 3 [])
  have a4 := rowsOf_len ((cutL 47 s).getD 4 [])
  have a5 := runsOf_sz ((cutL 47 s).getD 5 [])
  have g5 := g 5
  simp only [So.B2, So.sz, soOf]
  omega
theorem soOf_nb (w : List (List UInt8)) : (soOf w).nb := ⟨num_i64 _, num_i64 _, num_i64 _, num_i64 _, num_i64 _⟩
theorem soOf_wr (w : List (List UInt8)) : (soOf w).wr < 1000000000 := by
  have : (num (w.getD 9 [])).natAbs < 1000000000 := num_lt _
  show num (w.getD 9 []) < 1000000000
  omega
theorem pSo_i (s : List UInt8) : (bif soAll (cutL 47 s) && (soOk (soOf (cutL 47 s)) && decide (txtSo (soOf (cutL 47 s)) = s)) then SoR (soOf (cutL 47 s)) true else SoR soZ false) = pSo s := by
  unfold pSo
  cases hp : parseSo s with
  | some x =>
    obtain ⟨h1, h2⟩ := parseSo_some.mp hp
    have hc : cutL 47 s = soFs x := by rw [← h2]; exact fmtSo_cut x
    obtain ⟨e1, e2⟩ := soOf_fs h1
    rw [hc, e1, e2, h1.1]
    have : txtSo x = s := by unfold txtSo; rw [if_pos h1.1]; exact h2
    rw [this]
    simp
  | none =>
    have hn := parseSo_none.mp hp
    by_cases hv : soOk (soOf (cutL 47 s)) = true
    · have hP : SoP (soOf (cutL 47 s)) := ⟨hv, soOf_wr _⟩
      have : ¬ txtSo (soOf (cutL 47 s)) = s := fun e => hn _ hP (by unfold txtSo at e; rw [if_pos hv] at e; exact e)
      rw [decide_eq_false this]
      simp
    · rw [(Bool.not_eq_true _).mp hv]
      simp
theorem pSo_s (s : List UInt8) (h10 : (cutL 47 s).length = 10) : (bif !decide (txtSo (soOf (cutL 47 s)) = s) then SoR soZ false else SoR (soOf (cutL 47 s)) true) = pSo s := by
  unfold pSo
  cases hp : parseSo s with
  | some x =>
    obtain ⟨h1, h2⟩ := parseSo_some.mp hp
    have hc : cutL 47 s = soFs x := by rw [← h2]; exact fmtSo_cut x
    obtain ⟨e1, e2⟩ := soOf_fs h1
    rw [hc, e1]
    have : txtSo x = s := by unfold txtSo; rw [if_pos h1.1]; exact h2
    rw [this]
    simp
  | none =>
    have hn := parseSo_none.mp hp
    have : ¬ txtSo (soOf (cutL 47 s)) = s := fun e => by
      unfold txtSo at e
      by_cases hv : soOk (soOf (cutL 47 s)) = true
      · rw [if_pos hv] at e
        exact hn _ ⟨hv, soOf_wr _⟩ e
      · rw [if_neg hv] at e
        rw [← e] at h10
        simp [cutL, cutGo] at h10
    rw [decide_eq_false this]
    rfl
theorem eq10 (l : List (List UInt8)) : eqI (lenI (l.map StE)) 10 = decide (l.length = 10) := eqI_len StE l 10
theorem iRowsC (a : Bool) (x : List UInt8) (hx : x.length ≤ 2097152) : callI tE f_impl_ParseSorter_1 [.bool a, .str (S x)] = some [.sl ((rowsOf x).map Rw.e), .bool (a && isR x)] := by
  rw [c_impl_ParseSorter_1, iParseRows x (by omega), pRs_eq]
  cases a <;> rfl
theorem iNumC (a : Bool) (x : List UInt8) (hx : x.length ≤ 2097152) : callI tE f_impl_ParseSorter_2 [.bool a, .str (S x)] = some [.int (num x), .bool (a && isN x)] := by
  rw [c_impl_ParseSorter_2, iParseInt x (by omega), pI_eq]
  cases a <;> rfl
theorem in_n {m : Rows} {k n : Nat} (h : m.length = n) (hk : k < n) : inR (k : Int) (lenI m) = true := inRT (by omega) (by show (k : Int) < (m.length : Int); omega)
theorem iParseSo (s : List UInt8) (hs : s.length ≤ 2097152) : callI tE f_impl_ParseSorter [.str (S s)] = some (pSo s) := by
  have hc := cutL_len 47 s
  have hsub : ∀ x ∈ cutL 47 s, x.length ≤ 2097152 := fun x hx => Nat.le_trans (cutL_sub hx) hs
  have hsz := soOf_sz s hs
  have hnb := soOf_nb (cutL 47 s)
  have hi := pSo_i s
  rw [c_impl_ParseSorter, show ((47 : Int)) = (((47 : UInt8).toNat : Nat) : Int) from rfl, iCut 47 s (by omega)]
  simp only [gn_c, gb_c, gs_c, gl_c, tk_s, tk_0, List.drop_succ_cons, List.drop_zero, List.headD_cons, List.getD_cons_zero, List.getD_cons_succ, bind_s, eq10]
  by_cases h10 : (cutL 47 s).length = 10
  · rw [decide_eq_true h10, Bool.not_true, cond_false]
    obtain ⟨a, b, c, d, e, f, g, i, j, k, hw⟩ := list10 h10
    rw [hw] at hsub hsz hnb hi ⊢
    have q0 : ∀ n : Nat, n < 10 → inR (n : Int) (lenI ([a, b, c, d, e, f, g, i, j, k].map StE)) = true := fun n hn => in_n (n := 10) rfl hn
    have i0 := q0 0 (by omega)
    have i1 := q0 1 (by omega)
    have i2 := q0 2 (by omega)
    have i3 := q0 3 (by omega)
    have i4 := q0 4 (by omega)
    have i5 := q0 5 (by omega)
    have i6 := q0 6 (by omega)
    have i7 := q0 7 (by omega)
    have i8 := q0 8 (by omega)
    have i9 := q0 9 (by omega)
    simp only [Int.natCast_zero, Int.natCast_one, Int.cast_ofNat_Int] at i0 i1 i2 i3 i4 i5 i6 i7 i8 i9
    have g0 : at' ([a, b, c, d, e, f, g, i, j, k].map StE) (tn 0) = [.str (S a)] := rfl
    have g1 : at' ([a, b, c, d, e, f, g, i, j, k].map StE) (tn 1) = [.str (S b)] := rfl
    have g2 : at' ([a, b, c, d, e, f, g, i, j, k].map StE) (tn 2) = [.str (S c)] := rfl
    have g3 : at' ([a, b, c, d, e, f, g, i, j, k].map StE) (tn 3) = [.str (S d)] := rfl
    have g4 : at' ([a, b, c, d, e, f, g, i, j, k].map StE) (tn 4) = [.str (S e)] := rfl
    have g5 : at' ([a, b, c, d, e, f, g, i, j, k].map StE) (tn 5) = [.str (S f)] := rfl
    have g6 : at' ([a, b, c, d, e, f, g, i, j, k].map StE) (tn 6) = [.str (S g)] := rfl
    have g7 : at' ([a, b, c, d, e, f, g, i, j, k].map StE) (tn 7) = [.str (S i)] := rfl
    have g8 : at' ([a, b, c, d, e, f, g, i, j, k].map StE) (tn 8) = [.str (S j)] := rfl
    have g9 : at' ([a, b, c, d, e, f, g, i, j, k].map StE) (tn 9) = [.str (S k)] := rfl
    obtain ⟨m, m1, m2⟩ := iParseRuns f (hsub f (by simp))
    simp only [i0, i1, i2, i3, i4, i5, i6, i7, i8, i9, cond_true, g0, g1, g2, g3, g4, g5, g6, g7, g8, g9, gn_c, gb_c, gs_c, gl_c, tk_s, tk_0, List.drop_succ_cons, List.drop_zero, List.headD_cons, List.getD_cons_zero, List.getD_cons_succ, bind_s, iRowsC _ a (hsub a (by simp)), iNumC _ b (hsub b (by simp)), iRowsC _ c (hsub c (by simp)), iRowsC _ d (hsub d (by simp)), iRowsC _ e (hsub e (by simp)), m1, iNumC _ g (hsub g (by simp)), iNumC _ i (hsub i (by simp)), iNumC _ j (hsub j (by simp)), iNumC _ k (hsub k (by simp)), Bool.true_and]
    have hso : soOf [a, b, c, d, e, f, g, i, j, k] = ⟨rowsOf a, num b, rowsOf c, rowsOf d, rowsOf e, runsOf f, num g, num i, num j, num k⟩ := rfl
    have hal : soAll [a, b, c, d, e, f, g, i, j, k] = (isR a && (isN b && (isR c && (isR d && (isR e && (areR f && (isN g && (isN i && (isN j && isN k))))))))) := rfl
    rw [hso] at hsz hnb hi
    rw [hal] at hi
    rw [← hi]
    cases hf : areR f with
    | false =>
      simp only [Bool.false_and, Bool.and_false, cond_false]
      cases isR a && isN b && isR c && isR d && isR e && isN g && isN i && isN j && isN k <;> rfl
    | true =>
      rw [m2 hf]
      have hx : (isR a && isN b && isR c && isR d && isR e && isN g && isN i && isN j && isN k) = (isR a && (isN b && (isR c && (isR d && (isR e && (true && (isN g && (isN i && (isN j && isN k))))))))) := by simp only [Bool.true_and, Bool.and_assoc]
      rw [hx]
      generalize (isR a && (isN b && (isR c && (isR d && (isR e && (true && (isN g && (isN i && (isN j && isN k))))))))) = B
      cases B
      · rfl
      · have v1 := iValidSo _ hsz
        have v2 := iFormatSo _ hsz hnb
        simp only at v1 v2
        simp only [Bool.not_true, cond_false, v1, v2, gn_c, gb_c, gs_c, gl_c, tk_s, tk_0, List.drop_succ_cons, List.drop_zero, List.headD_cons, List.getD_cons_zero, List.getD_cons_succ, bind_s, eqS_S, Bool.true_and]
        cases soOk ⟨rowsOf a, num b, rowsOf c, rowsOf d, rowsOf e, runsOf f, num g, num i, num j, num k⟩
        · rfl
        · simp only [Bool.not_true, cond_false, Bool.true_and]
          cases decide (txtSo ⟨rowsOf a, num b, rowsOf c, rowsOf d, rowsOf e, runsOf f, num g, num i, num j, num k⟩ = s) <;> rfl
  · rw [decide_eq_false h10, pSo_bad h10]; rfl
theorem sRuns_loop (s : List UInt8) (hs : s.length ≤ 2097152) (f : List UInt8) (hf : f.length ≤ 2097152) (w : List (List UInt8)) (hw : w.length = 10) (h5 : w.getD 5 [] = f) (K : Rows → Option (List Dat)) {x0 : ByteArray} {x1 x2 x4 x5 x6 x7 x8 x10 x11 x12 x13 x14 : Int} {x16 x17 x18 x19 x20 x21 x22 x23 x24 : Rows}
    (hK : ∀ (i : Int) (m : Rows), ltI i (lenI ((cutL 124 f).map StE)) = false ∨ f = [] → inR 5 (lenI (w.map StE)) = true → L_spec_ParseSorter_0 x0 x1 x2 i x4 x5 x6 x7 x8 (w.map StE) x10 x11 x12 x13 x14 ((cutL 124 f).map StE) x16 x17 x18 x19 x20 x21 x22 x23 x24 m = K m) :
    L_spec_ParseSorter_0 x0 x1 x2 0 x4 x5 x6 x7 x8 (w.map StE) x10 x11 x12 x13 x14 ((cutL 124 f).map StE) x16 x17 x18 x19 x20 x21 x22 x23 x24 [] = K ((runsOf f).map rsE) := by
  have hc := cutL_len 124 f
  have i5 : inR 5 (lenI (w.map StE)) = true := inRT (by omega) (by rw [lenI_map]; omega)
  by_cases h0 : f = []
  · rw [hK 0 [] (.inr h0) i5]
    unfold runsOf
    rw [if_pos h0]; rfl
  · have a5 : at' (w.map StE) (tn 5) = StE f := by
      obtain ⟨u, z, v, hu, hul⟩ := split_at (show 5 < w.length by omega)
      rw [hu, ← hul, getD_m] at h5
      subst h5
      exact at_i hu hul
    have := zip_loop (l := cutL 124 f) (L := fun (t : List (List Rw)) i => L_spec_ParseSorter_0 x0 x1 x2 i x4 x5 x6 x7 x8 (w.map StE) x10 x11 x12 x13 x14 ((cutL 124 f).map StE) x16 x17 x18 x19 x20 x21 x22 x23 x24 (t.map rsE)) (F := fun _ _ => K ((runsOf f).map rsE)) (I := fun t u _ => t = u.map rowsOf) (by omega) (fun u x v t e hI => by
      have hx : x.length ≤ 2097152 := Nat.le_trans (cutL_sub (show x ∈ cutL 124 f by rw [e]; simp)) hf
      have hul : u.length < (cutL 124 f).length := by rw [e]; simp
      have hat : at' ((cutL 124 f).map StE) u.length = StE x := at_i e rfl
      refine .inl ⟨(u ++ [x]).map rowsOf, ?_, rfl, rfl⟩
      show L_spec_ParseSorter_0 _ _ _ _ _ _ _ _ _ _ _ _ _ _ _ _ _ _ _ _ _ _ _ _ _ _ = L_spec_ParseSorter_0 _ _ _ _ _ _ _ _ _ _ _ _ _ _ _ _ _ _ _ _ _ _ _ _ _ _
      rw [L_spec_ParseSorter_0_eq, show ltI (u.length : Int) (lenI ((cutL 124 f).map StE)) = true by rw [lenI_map]; exact ltT (by omega), cond_true, i5, cond_true, a5, in_i hul]
      have hne : eqS (S f) (S []) = false := by rw [eqS_S, decide_eq_false h0]
      have z0 : (S f == S []) = (S f == S []) := rfl
      simp only [StE, gn_c, gb_c, gs_c, gl_c, tk_s, tk_0, List.drop_succ_cons, List.drop_zero, List.headD_cons, List.getD_cons_zero, List.getD_cons_succ, bind_s, hne, Bool.not_false, cond_true, tn_c, hat, sParseRows x (show x.length < 1073741824 by omega), pRs_eq, hI, len_map, List.length_map]
      rw [show fitM (Nat.succ u.length) 24 = true from fitT (by omega), cond_true, rs_app]
      simp) (fun t ht => by
      show L_spec_ParseSorter_0 _ _ _ _ _ _ _ _ _ _ _ _ _ _ _ _ _ _ _ _ _ _ _ _ _ _ = _
      rw [hK _ _ (.inl (lt_e _)) i5, ht]
      unfold runsOf
      rw [if_neg h0]) [] rfl
    exact this
theorem sParseSo (s : List UInt8) (hs : s.length ≤ 2097152) : callI tE f_spec_ParseSorter [.str (S s)] = some (pSo s) := by
  have hc := cutL_len 47 s
  have hsub : ∀ x ∈ cutL 47 s, x.length ≤ 2097152 := fun x hx => Nat.le_trans (cutL_sub hx) hs
  have hsz := soOf_sz s hs
  have hnb := soOf_nb (cutL 47 s)
  rw [c_spec_ParseSorter, show ((47 : Int)) = (((47 : UInt8).toNat : Nat) : Int) from rfl, sCut 47 s (by omega)]
  simp only [gn_c, gb_c, gs_c, gl_c, tk_s, tk_0, List.drop_succ_cons, List.drop_zero, List.headD_cons, List.getD_cons_zero, List.getD_cons_succ, bind_s, eq10]
  by_cases h10 : (cutL 47 s).length = 10
  · have hi := pSo_s s h10
    rw [decide_eq_true h10, Bool.not_true, cond_false]
    obtain ⟨a, b, c, d, e, f, g, i, j, k, hw⟩ := list10 h10
    rw [hw] at hsub hsz hnb hi ⊢
    have q0 : ∀ n : Nat, n < 10 → inR (n : Int) (lenI ([a, b, c, d, e, f, g, i, j, k].map StE)) = true := fun n hn => in_n (n := 10) rfl hn
    have i0 := q0 0 (by omega)
    have i1 := q0 1 (by omega)
    have i2 := q0 2 (by omega)
    have i3 := q0 3 (by omega)
    have i4 := q0 4 (by omega)
    have i5 := q0 5 (by omega)
    have i6 := q0 6 (by omega)
    have i7 := q0 7 (by omega)
    have i8 := q0 8 (by omega)
    have i9 := q0 9 (by omega)
    simp only [Int.natCast_zero, Int.natCast_one, Int.cast_ofNat_Int] at i0 i1 i2 i3 i4 i5 i6 i7 i8 i9
    have g0 : at' ([a, b, c, d, e, f, g, i, j, k].map StE) (tn 0) = [.str (S a)] := rfl
    have g1 : at' ([a, b, c, d, e, f, g, i, j, k].map StE) (tn 1) = [.str (S b)] := rfl
    have g2 : at' ([a, b, c, d, e, f, g, i, j, k].map StE) (tn 2) = [.str (S c)] := rfl
    have g3 : at' ([a, b, c, d, e, f, g, i, j, k].map StE) (tn 3) = [.str (S d)] := rfl
    have g4 : at' ([a, b, c, d, e, f, g, i, j, k].map StE) (tn 4) = [.str (S e)] := rfl
    have g5 : at' ([a, b, c, d, e, f, g, i, j, k].map StE) (tn 5) = [.str (S f)] := rfl
    have g6 : at' ([a, b, c, d, e, f, g, i, j, k].map StE) (tn 6) = [.str (S g)] := rfl
    have g7 : at' ([a, b, c, d, e, f, g, i, j, k].map StE) (tn 7) = [.str (S i)] := rfl
    have g8 : at' ([a, b, c, d, e, f, g, i, j, k].map StE) (tn 8) = [.str (S j)] := rfl
    have g9 : at' ([a, b, c, d, e, f, g, i, j, k].map StE) (tn 9) = [.str (S k)] := rfl
    have pr : ∀ x ∈ [a, b, c, d, e, f, g, i, j, k], callI tE f_spec_ParseRows [.str (S x)] = some [.sl ((rowsOf x).map Rw.e), .bool (isR x)] := fun x hx => by
      have := hsub x hx
      rw [sParseRows x (by omega), pRs_eq]
    have pn : ∀ x ∈ [a, b, c, d, e, f, g, i, j, k], callI tE f_spec_ParseInt [.str (S x)] = some [.int (num x), .bool (isN x)] := fun x hx => by
      have := hsub x hx
      rw [sParseInt x (by omega), pI_eq]
    have hcf : callI tE f_spec_l2Cut [.str (S f), .int 124] = some [.sl ((cutL 124 f).map StE)] := by
      have := hsub f (by simp)
      exact sCut 124 f (by omega)
    simp only [i0, i1, i2, i3, i4, i5, cond_true, g0, g1, g2, g3, g4, g5, gn_c, gb_c, gs_c, gl_c, tk_s, tk_0, List.drop_succ_cons, List.drop_zero, List.headD_cons, List.getD_cons_zero, List.getD_cons_succ, bind_s, pr a (by simp), pn b (by simp), pr c (by simp), pr d (by simp), pr e (by simp), hcf]
    have hso : soOf [a, b, c, d, e, f, g, i, j, k] = ⟨rowsOf a, num b, rowsOf c, rowsOf d, rowsOf e, runsOf f, num g, num i, num j, num k⟩ := rfl
    rw [hso] at hsz hnb hi
    have v2 := sFormatSo _ hsz hnb
    simp only at v2
    refine (sRuns_loop s hs f (hsub f (by simp)) [a, b, c, d, e, f, g, i, j, k] rfl rfl (fun M => (callI tE f_spec_FormatSorter [.sl ((rowsOf a).map Rw.e), .int (num b), .sl ((rowsOf c).map Rw.e), .sl ((rowsOf d).map Rw.e), .sl ((rowsOf e).map Rw.e), .sl M, .int (num g), .int (num i), .int (num j), .int (num k)]).bind fun r4 => bif !(eqS (gs r4) (S s)) then some (SoR soZ false) else some [.sl ((rowsOf a).map Rw.e), .int (num b), .sl ((rowsOf c).map Rw.e), .sl ((rowsOf d).map Rw.e), .sl ((rowsOf e).map Rw.e), .sl M, .int (num g), .int (num i), .int (num j), .int (num k), .bool true]) (fun ii M hend hin => ?_)).trans ?_
    · rw [L_spec_ParseSorter_0_eq]
      rcases hend with hend | hend
      · rw [hend, cond_false]
        simp only [i6, i7, i8, i9, cond_true, g6, g7, g8, g9, gn_c, gb_c, gs_c, gl_c, tk_s, tk_0, List.drop_succ_cons, List.drop_zero, List.headD_cons, List.getD_cons_zero, List.getD_cons_succ, bind_s, pn g (by simp), pn i (by simp), pn j (by simp), pn k (by simp)]
        rfl
      · have hne : eqS (S f) (S []) = true := by rw [eqS_S, decide_eq_true hend]
        simp only [hin, g5, hne, Bool.not_true, cond_false, i6, i7, i8, i9, cond_true, g6, g7, g8, g9, gn_c, gb_c, gs_c, gl_c, tk_s, tk_0, List.drop_succ_cons, List.drop_zero, List.headD_cons, List.getD_cons_zero, List.getD_cons_succ, bind_s, pn g (by simp), pn i (by simp), pn j (by simp), pn k (by simp)]
        cases ltI ii (lenI ((cutL 124 f).map StE)) <;> rfl
    · simp only [v2, gn_c, gb_c, gs_c, gl_c, tk_s, tk_0, List.drop_succ_cons, List.drop_zero, List.headD_cons, List.getD_cons_zero, List.getD_cons_succ, bind_s, eqS_S]
      rw [← hi]
      cases decide (txtSo ⟨rowsOf a, num b, rowsOf c, rowsOf d, rowsOf e, runsOf f, num g, num i, num j, num k⟩ = s) <;> rfl
  · rw [decide_eq_false h10, pSo_bad h10]; rfl
end Go.Proofs.Ytbmafhpbinjgaaa.Vai
namespace Go.Proofs.Ytbmafhpbinjgaaa.Vai
open Go
set_option linter.unusedSimpArgs false
set_option linter.unusedVariables false
set_option linter.unnecessarySimpa false
set_option maxRecDepth 10000
def fmtCk (c : Ck) : List UInt8 := joinL [33] [fmtSo c.so, fmtRs c.em]
def txtCk (c : Ck) : List UInt8 := if ckOk c then fmtCk c else []
theorem fmtCk_eq (c : Ck) : fmtCk c = fmtSo c.so ++ [33] ++ fmtRs c.em := by simp [fmtCk, joinL]
theorem ckOk_p {c : Ck} (h : ckOk c = true) : soOk c.so = true ∧ aok c.em = true ∧ w64 ((c.em.length : Int) + remS c.so) = c.so.inp.length ∧ c.em = (isort c.so.inp).take c.em.length := by
  simp only [ckOk, Bool.and_eq_true, decide_eq_true_eq] at h
  exact h
theorem sFormatCk (c : Ck) (h : c.B2) (hb : c.so.nb) : callI tE f_spec_FormatCheckpoint [.sl (c.so.inp.map Rw.e), .int c.so.pos, .sl (c.so.heap.map Rw.e), .sl (c.so.dfd.map Rw.e), .sl (c.so.out.map Rw.e), .sl (c.so.runs.map rsE), .int c.so.lp, .int c.so.rp, .int c.so.ph, .int c.so.wr, .sl (c.em.map Rw.e)] = some [.str (S (txtCk c))] := by
  have hso : c.so.B2 := by simp only [Ck.B2, Ck.sz, So.B2] at *; omega
  have hem : c.em.length ≤ 1073741824 := by simp only [Ck.B2, Ck.sz] at h; omega
  have hl := fmtSo_len c.so hb hso.b.p.2.2.2.2
  have hm := fmtRs_len c.em
  rw [c_spec_FormatCheckpoint, sValidCk c h]
  simp only [gn_c, gb_c, gs_c, gl_c, tk_s, tk_0, List.drop_succ_cons, List.drop_zero, List.headD_cons, List.getD_cons_zero, List.getD_cons_succ, bind_s]
  unfold txtCk
  by_cases hv : ckOk c = true
  · have hs := (ckOk_p hv).1
    have ht : txtSo c.so = fmtSo c.so := if_pos hs
    rw [hv, if_pos rfl, Bool.not_true, cond_false]
    simp only [sFormatSo c.so hso hb, sFormatRows c.em (show c.em.length < 1099511627776 by omega), gn_c, gb_c, gs_c, gl_c, tk_s, tk_0, List.drop_succ_cons, List.drop_zero, List.headD_cons, List.getD_cons_zero, List.getD_cons_succ, bind_s, ht]
    rw [fitS_S (by simp; omega), S_app, cond_true, fitS_S (by simp; omega), S_app, cond_true, fmtCk_eq]
  · rw [if_neg hv, (Bool.not_eq_true _).mp hv]; rfl
noncomputable def soGet (s : List UInt8) : So := (parseSo s).getD soZ
noncomputable def isSo (s : List UInt8) : Bool := (parseSo s).isSome
theorem pSo_eq (s : List UInt8) : pSo s = SoR (soGet s) (isSo s) := by
  unfold pSo soGet isSo
  cases parseSo s <;> rfl
theorem parseSo_of {s : List UInt8} {x : So} (h : parseSo s = some x) : x = soOf (cutL 47 s) := by
  obtain ⟨h1, h2⟩ := parseSo_some.mp h
  rw [← h2, fmtSo_cut]
  exact (soOf_fs h1).1.symm
theorem soOf_sz' (s : List UInt8) (hs : s.length ≤ 2097152) : (soOf (cutL 47 s)).sz ≤ 100000000 := by
  have g : ∀ i, ((cutL 47 s).getD i []).length ≤ 2097152 := fun i => by
    by_cases hi : i < (cutL 47 s).length
    · have : (cutL 47 s).getD i [] ∈ cutL 47 s := by
        rw [List.getD_eq_getElem?_getD, List.getElem?_eq_getElem hi]
        exact List.getElem_mem hi
      exact Nat.le_trans (cutL_sub this) hs
    · rw [List.getD_eq_getElem?_getD, List.getElem?_eq_none (by omega)]
      simp
  have a0 := rowsOf_len ((cutL 47 s).getD 0 [])
  have a2 := rowsOf_len ((cutL 47 s).getD 2 [])
  have a3 := rowsOf_len ((cutL 47 s).getD 3 [])
  have a4 := rowsOf_len ((cutL 47 s).getD 4 [])
  have a5 := runsOf_sz ((cutL 47 s).getD 5 [])
  have g5 := g 5
  simp only [So.sz, soOf]
  omega
theorem soGet_p (s : List UInt8) (hs : s.length ≤ 2097152) : (soGet s).sz ≤ 100000000 ∧ (soGet s).nb ∧ (soGet s).wr < 1000000000 := by
  unfold soGet
  cases hp : parseSo s with
  | none =>
    have z : I64 0 := ⟨by decide, by decide⟩
    exact ⟨by decide, ⟨z, z, z, z, z⟩, by decide⟩
  | some x =>
    have := parseSo_of hp
    subst this
    exact ⟨soOf_sz' s hs, soOf_nb _, soOf_wr _⟩
def CkP (c : Ck) : Prop := ckOk c = true ∧ c.so.wr < 1000000000
theorem fmtSo_nosep33 (s : So) : (33 : UInt8) ∉ fmtSo s := joinL_nosep (by decide) _ (fun x hx => by
  have hR : ∀ l, (33 : UInt8) ∉ fmtRs l := fun l => fmtRs_nosep (by decide) (by decide) (by decide) (by decide) l
  have hN : ∀ n, (33 : UInt8) ∉ fmt n := fun n => fmt_nosep (by decide) (by decide) n
  have hU := fmtRuns_nosep (b := 33) (by decide) (by decide) (by decide) (by decide) (by decide) s.runs
  simp only [soFs, List.mem_cons, List.not_mem_nil, or_false] at hx
  rcases hx with rfl | rfl | rfl | rfl | rfl | rfl | rfl | rfl | rfl | rfl
  · exact hR _
  · exact hN _
  · exact hR _
  · exact hR _
  · exact hR _
  · exact hU
  · exact hN _
  · exact hN _
  · exact hN _
  · exact hN _)
theorem fmtCk_cut (c : Ck) : cutL 33 (fmtCk c) = [fmtSo c.so, fmtRs c.em] := cut_join 33 _ (by simp) (fun x hx => by
  simp only [List.mem_cons, List.not_mem_nil, or_false] at hx
  rcases hx with rfl | rfl
  · exact fmtSo_nosep33 _
  · exact fmtRs_nosep (by decide) (by decide) (by decide) (by decide) _)
theorem ckP_fields {c : Ck} (h : CkP c) : parseSo (fmtSo c.so) = some c.so ∧ rowsOf (fmtRs c.em) = c.em ∧ isR (fmtRs c.em) = true := by
  obtain ⟨h1, h2⟩ := h
  obtain ⟨q1, q2, _⟩ := ckOk_p h1
  exact ⟨parseSo_some.mpr ⟨⟨q1, h2⟩, rfl⟩, (rows_fmt q2).1, (rows_fmt q2).2⟩
theorem fmtCk_inj (a b : Ck) (ha : CkP a) (hb : CkP b) (h : fmtCk a = fmtCk b) : a = b := by
  have e := fmtCk_cut a
  rw [h, fmtCk_cut b] at e
  simp only [List.cons.injEq, and_true] at e
  obtain ⟨a1, a2, _⟩ := ckP_fields ha
  obtain ⟨b1, b2, _⟩ := ckP_fields hb
  rw [← e.1, b1] at a1
  rw [← e.2, b2] at a2
  cases a; cases b
  simp only at a1 a2
  cases a1; cases a2; rfl
noncomputable def parseCk (s : List UInt8) : Option Ck := unf CkP fmtCk s
theorem parseCk_some {s : List UInt8} {x : Ck} : parseCk s = some x ↔ CkP x ∧ fmtCk x = s := unf_some fmtCk_inj
theorem parseCk_none {s : List UInt8} : parseCk s = none ↔ ∀ x : Ck, CkP x → fmtCk x ≠ s := unf_none
def ckZ : Ck := ⟨soZ, []⟩
def CkR (x : Ck) (b : Bool) : List Dat := [.sl (x.so.inp.map Rw.e), .int x.so.pos, .sl (x.so.heap.map Rw.e), .sl (x.so.dfd.map Rw.e), .sl (x.so.out.map Rw.e), .sl (x.so.runs.map rsE), .int x.so.lp, .int x.so.rp, .int x.so.ph, .int x.so.wr, .sl (x.em.map Rw.e), .bool b]
noncomputable def ckGet (s : List UInt8) : Ck := (parseCk s).getD ckZ
noncomputable def isCk (s : List UInt8) : Bool := (parseCk s).isSome
noncomputable def pCk (s : List UInt8) : List Dat := CkR (ckGet s) (isCk s)
theorem pCk_bad {s : List UInt8} (h : parseCk s = none) : pCk s = CkR ckZ false := by
  unfold pCk ckGet isCk
  rw [h]; rfl
theorem pCk_good {s : List UInt8} {c : Ck} (h : parseCk s = some c) : pCk s = CkR c true := by
  unfold pCk ckGet isCk
  rw [h]; rfl
theorem pCk_n2 {s : List UInt8} (h : (cutL 33 s).length ≠ 2) : pCk s = CkR ckZ false :=
  pCk_bad (parseCk_none.mpr fun x _ hx => h (by rw [← hx, fmtCk_cut]; rfl))
theorem ckGet_sz (s : List UInt8) (hs : s.length ≤ 2097152) : (ckGet s).sz ≤ 100000024 := by
  unfold ckGet
  cases hp : parseCk s with
  | none => decide
  | some c =>
    obtain ⟨h1, h2⟩ := parseCk_some.mp hp
    have hf := (ckP_fields h1).1
    have hl : (fmtSo c.so).length ≤ 2097152 := by
      rw [fmtCk_eq] at h2
      have := congrArg List.length h2
      simp only [List.length_append] at this
      omega
    have h3 := parseSo_of hf
    have h4 := soOf_sz' _ hl
    rw [← h3] at h4
    have h5 := aok_len (ckOk_p h1.1).2.1
    show c.so.sz + c.em.length ≤ _
    omega
theorem ck_ab {s a b : List UInt8} {c : Ck} (hw : cutL 33 s = [a, b]) (h : parseCk s = some c) : isSo a = true ∧ soGet a = c.so ∧ isR b = true ∧ rowsOf b = c.em ∧ ckOk c = true ∧ fmtCk c = s := by
  obtain ⟨h1, h2⟩ := parseCk_some.mp h
  have e := fmtCk_cut c
  rw [h2, hw] at e
  simp only [List.cons.injEq, and_true] at e
  obtain ⟨a1, a2, a3⟩ := ckP_fields h1
  rw [← e.1] at a1
  rw [← e.2] at a2 a3
  refine ⟨?_, ?_, a3, a2, h1.1, h2⟩
  · unfold isSo; rw [a1]; rfl
  · unfold soGet; rw [a1]; rfl
theorem pCk_i {s a b : List UInt8} (hw : cutL 33 s = [a, b]) : (bif isSo a && (isR b && ckOk ⟨soGet a, rowsOf b⟩) then CkR ⟨soGet a, rowsOf b⟩ true else CkR ckZ false) = pCk s := by
  have hj := join_cut 33 s
  rw [hw] at hj
  cases hp : parseCk s with
  | some c =>
    obtain ⟨q1, q2, q3, q4, q5, _⟩ := ck_ab hw hp
    rw [pCk_good hp, q1, q2, q3, q4]
    show (bif true && (true && ckOk c) then CkR c true else CkR ckZ false) = _
    rw [q5]; rfl
  | none =>
    rw [pCk_bad hp]
    have hn := parseCk_none.mp hp
    cases h1 : isSo a with
    | false => rfl
    | true =>
      cases h2 : isR b with
      | false => rfl
      | true =>
        by_cases h3 : ckOk ⟨soGet a, rowsOf b⟩ = true
        · unfold isSo at h1
          cases hx : parseSo a with
          | none => rw [hx] at h1; cases h1
          | some x =>
            obtain ⟨x1, x2⟩ := parseSo_some.mp hx
            have hg : soGet a = x := by unfold soGet; rw [hx]; rfl
            rw [hg] at h3
            refine absurd ?_ (hn ⟨x, rowsOf b⟩ ⟨h3, x1.2⟩)
            rw [fmtCk_eq]
            show fmtSo x ++ [33] ++ fmtRs (rowsOf b) = s
            rw [x2, (isR_rows h2).2]
            simpa [joinL] using hj
        · rw [(Bool.not_eq_true _).mp h3]; rfl
theorem pCk_s {s a b : List UInt8} (hs : s.length ≤ 2097152) (hw : cutL 33 s = [a, b]) : (bif !decide (txtCk ⟨soGet a, rowsOf b⟩ = s) then CkR ckZ false else CkR ⟨soGet a, rowsOf b⟩ true) = pCk s := by
  have ha : a.length ≤ 2097152 := Nat.le_trans (cutL_sub (show a ∈ cutL 33 s by rw [hw]; simp)) hs
  cases hp : parseCk s with
  | some c =>
    obtain ⟨q1, q2, q3, q4, q5, q6⟩ := ck_ab hw hp
    rw [pCk_good hp, q2, q4]
    have : txtCk c = s := by unfold txtCk; rw [if_pos q5]; exact q6
    show (bif !decide (txtCk c = s) then CkR ckZ false else CkR c true) = _
    rw [this]; simp
  | none =>
    rw [pCk_bad hp]
    have hn := parseCk_none.mp hp
    have : ¬ txtCk ⟨soGet a, rowsOf b⟩ = s := fun e => by
      unfold txtCk at e
      by_cases hv : ckOk ⟨soGet a, rowsOf b⟩ = true
      · rw [if_pos hv] at e
        exact hn _ ⟨hv, (soGet_p a ha).2.2⟩ e
      · rw [if_neg hv] at e
        rw [← e] at hw
        simp [cutL, cutGo] at hw
    rw [decide_eq_false this]
    rfl
theorem iParseCk (s : List UInt8) (hs : s.length ≤ 2097152) : callI tE f_impl_ParseCheckpoint [.str (S s)] = some (pCk s) := by
  have hc := cutL_len 33 s
  have hsub : ∀ x ∈ cutL 33 s, x.length ≤ 2097152 := fun x hx => Nat.le_trans (cutL_sub hx) hs
  rw [c_impl_ParseCheckpoint, show ((33 : Int)) = (((33 : UInt8).toNat : Nat) : Int) from rfl, iCut 33 s (by omega)]
  simp only [gn_c, gb_c, gs_c, gl_c, tk_s, tk_0, List.drop_succ_cons, List.drop_zero, List.headD_cons, List.getD_cons_zero, List.getD_cons_succ, bind_s]
  rw [show eqI (lenI ((cutL 33 s).map StE)) 2 = decide ((cutL 33 s).length = 2) from eqI_len StE _ 2]
  by_cases h2 : (cutL 33 s).length = 2
  · rw [decide_eq_true h2, Bool.not_true, cond_false]
    obtain ⟨a, b, hw⟩ := list2 h2
    have hi := pCk_i hw
    rw [hw] at hsub ⊢
    have i0 : inR 0 (lenI ([a, b].map StE)) = true := rfl
    have i1 : inR 1 (lenI ([a, b].map StE)) = true := rfl
    have g0 : at' ([a, b].map StE) (tn 0) = [.str (S a)] := rfl
    have g1 : at' ([a, b].map StE) (tn 1) = [.str (S b)] := rfl
    have ha := hsub a (by simp)
    have hb := hsub b (by simp)
    obtain ⟨z1, z2, z3⟩ := soGet_p a ha
    have z4 := rowsOf_len b
    have v := iValidCk ⟨soGet a, rowsOf b⟩ (by show (soGet a).sz + (rowsOf b).length ≤ 1073741800; omega)
    simp only at v
    simp only [i0, i1, g0, g1, cond_true, gn_c, gb_c, gs_c, gl_c, tk_s, tk_0, List.drop_succ_cons, List.drop_zero, List.headD_cons, List.getD_cons_zero, List.getD_cons_succ, bind_s, iParseSo a ha, pSo_eq, SoR, iParseRows b (by omega), pRs_eq, v]
    rw [← hi]
    cases isSo a
    · rfl
    · cases isR b
      · rfl
      · cases ckOk ⟨soGet a, rowsOf b⟩ <;> rfl
  · rw [decide_eq_false h2, pCk_n2 h2]; rfl
theorem sParseCk (s : List UInt8) (hs : s.length ≤ 2097152) : callI tE f_spec_ParseCheckpoint [.str (S s)] = some (pCk s) := by
  have hc := cutL_len 33 s
  have hsub : ∀ x ∈ cutL 33 s, x.length ≤ 2097152 := fun x hx => Nat.le_trans (cutL_sub hx) hs
  rw [c_spec_ParseCheckpoint, show ((33 : Int)) = (((33 : UInt8).toNat : Nat) : Int) from rfl, sCut 33 s (by omega)]
  simp only [gn_c, gb_c, gs_c, gl_c, tk_s, tk_0, List.drop_succ_cons, List.drop_zero, List.headD_cons, List.getD_cons_zero, List.getD_cons_succ, bind_s]
  rw [show eqI (lenI ((cutL 33 s).map StE)) 2 = decide ((cutL 33 s).length = 2) from eqI_len StE _ 2]
  by_cases h2 : (cutL 33 s).length = 2
  · rw [decide_eq_true h2, Bool.not_true, cond_false]
    obtain ⟨a, b, hw⟩ := list2 h2
    have hi := pCk_s hs hw
    rw [hw] at hsub ⊢
    have i0 : inR 0 (lenI ([a, b].map StE)) = true := rfl
    have i1 : inR 1 (lenI ([a, b].map StE)) = true := rfl
    have g0 : at' ([a, b].map StE) (tn 0) = [.str (S a)] := rfl
    have g1 : at' ([a, b].map StE) (tn 1) = [.str (S b)] := rfl
    have ha := hsub a (by simp)
    have hb := hsub b (by simp)
    obtain ⟨z1, z2, z3⟩ := soGet_p a ha
    have z4 := rowsOf_len b
    have v := sFormatCk ⟨soGet a, rowsOf b⟩ (by show (soGet a).sz + (rowsOf b).length ≤ 1073741800; omega) z2
    simp only at v
    simp only [i0, i1, g0, g1, cond_true, gn_c, gb_c, gs_c, gl_c, tk_s, tk_0, List.drop_succ_cons, List.drop_zero, List.headD_cons, List.getD_cons_zero, List.getD_cons_succ, bind_s, sParseSo a ha, pSo_eq, SoR, sParseRows b (show b.length < 1073741824 by omega), pRs_eq, v, eqS_S]
    rw [← hi]
    cases decide (txtCk ⟨soGet a, rowsOf b⟩ = s) <;> rfl
  · rw [decide_eq_false h2, pCk_n2 h2]; rfl
end Go.Proofs.Ytbmafhpbinjgaaa.Vai
namespace Go.Proofs.Ytbmafhpbinjgaaa.Vai
open Go
set_option linter.unusedSimpArgs false
set_option linter.unusedVariables false
set_option linter.unnecessarySimpa false
theorem cnt_Rw : ∀ l : List Rw, cntL Rw.ct l = 3 * l.length
  | [] => rfl
  | a :: l => by simp only [cntL, cnt_Rw l, Rw.ct, List.length_cons]; omega
theorem cnt_c1 {α : Type} : ∀ l : List α, cntL c1 l = l.length
  | [] => rfl
  | a :: l => by simp only [cntL, c1, cnt_c1 l, List.length_cons]; omega
theorem cnt_RwS : ∀ l : List (List Rw), cntL (cntL Rw.ct) l ≤ 3 * szL List.length l
  | [] => Nat.zero_le _
  | a :: l => by have := cnt_RwS l; simp only [cntL, cnt_Rw a, szL]; omega
theorem cnt_Tk : ∀ l : List Tk, cntL Tk.ct l ≤ 5 * szL Tk.sz l
  | [] => Nat.zero_le _
  | a :: l => by
    have := cnt_Tk l
    have h1 := cnt_Rw a.left
    have h2 := cnt_Rw a.right
    have h3 := cnt_c1 a.mat
    simp only [cntL, szL, Tk.ct, Tk.sz, h1, h2, h3]; omega
theorem cnt_Gt : ∀ l : List Gt, cntL Gt.ct l ≤ 5 * szL Gt.sz l
  | [] => Nat.zero_le _
  | a :: l => by
    have := cnt_Gt l
    have h1 := cnt_Rw a.rows
    simp only [cntL, szL, Gt.ct, Gt.sz, h1]; omega
theorem So.cnt_le (y : So) : cntL Rw.ct y.inp + cntL Rw.ct y.heap + cntL Rw.ct y.dfd + cntL Rw.ct y.out + cntL (cntL Rw.ct) y.runs ≤ 5 * y.sz := by
  have := cnt_RwS y.runs
  simp only [cnt_Rw, So.sz]; omega
theorem Opr.cnt_le (y : Opr) : cntL Rw.ct y.so.inp + cntL Rw.ct y.so.heap + cntL Rw.ct y.so.dfd + cntL Rw.ct y.so.out + cntL (cntL Rw.ct) y.so.runs + cntL Tk.ct y.jn.pend + cntL Gt.ct y.ag.pend ≤ 5 * y.sz := by
  have h1 := y.so.cnt_le
  have h2 := cnt_Tk y.jn.pend
  have h3 := cnt_Gt y.ag.pend
  simp only [Opr.sz, Jn.sz, Ag.sz]; omega
theorem Xc.cnt_le (x : Xc) : cntL (cntL Rw.ct) x.pend + cntL (cntL Rw.ct) x.que + cntL (cntL Rw.ct) x.got ≤ 3 * x.sz := by
  have h1 := cnt_RwS x.pend
  have h2 := cnt_RwS x.que
  have h3 := cnt_RwS x.got
  simp only [Xc.sz]; omega
end Go.Proofs.Ytbmafhpbinjgaaa.Vai
namespace Go.Proofs.Ytbmafhpbinjgaaa.Vai
open Go
set_option linter.unusedSimpArgs false
set_option linter.unusedVariables false
set_option linter.unnecessarySimpa false
set_option maxRecDepth 10000
theorem eq_Row (x y : Rw) : callI tE f_laws_eqRow [.int x.k, .int x.v, .int x.w, .int y.k, .int y.v, .int y.w] = some [.bool (decide (x = y))] := by
  have e : decide (x = y) = (decide (x.k = y.k) && (decide (x.v = y.v) && (decide (x.w = y.w)))) := by
    cases x; cases y
    simp only [Rw.mk.injEq, Bool.decide_and]
  simp only [gn_c, gb_c, gs_c, gl_c, tk_s, tk_0, List.drop_succ_cons, List.drop_zero, List.headD_cons, List.getD_cons_zero, List.getD_cons_succ, bind_s, eqI, eqBo, e, bif_and, Bool.and_true, c_laws_eqRow]
theorem eq_RowS (l l' : List Rw) (h : l.length ≤ 1152921504606846976) : callI tE f_laws_eqRowS [.sl (l.map Rw.e), .sl (l'.map Rw.e)] = some [.bool (decide (l = l'))] := by
  have hl : l.length ≤ 1152921504606846976 := h
  rw [c_laws_eqRowS]
  by_cases hll : l.length = l'.length
  · rw [eq_len hll, Bool.not_true, cond_false]
    have := eq_loop (L := L_laws_eqRowS_0) (e := Rw.e) (P := fun a => (fun _ => 0) a ≤ 1152921504606846976) (fun p q p' q' a b _ hpl hlt => by
      rw [L_laws_eqRowS_0_eq]
      simp only [lt_mid, in_mid, tn_c, at_mid, cond_true, cond_false, gn_c, gb_c, gs_c, gl_c, tk_s, tk_0, List.drop_succ_cons, List.drop_zero, List.headD_cons, List.getD_cons_zero, List.getD_cons_succ, bind_s, in_mid' hpl, at_mid' hpl, Rw.e, eq_Row a b, bifn]) (fun p p' hpl => by
      rw [L_laws_eqRowS_0_eq, lt_end, cond_false]) l l' [] [] rfl hll (fun a ha => Nat.zero_le _) (by simp; omega)
    simpa using this
  · rw [ne_len hll, Bool.not_false, cond_true, decide_eq_false (fun e => hll (by rw [e]))]
theorem mark_RowS (l : List Rw) (k : Int) (h0 : 0 ≤ k) (h1 : k + cntL Rw.ct l < 4611686018427387904) (h2 : l.length ≤ 1152921504606846976) : callI tE f_laws_markRowS [.sl (l.map Rw.e), .int k] = some [.int (k + cntL Rw.ct l), .sl ((mkL Rw.mkm Rw.ct l k).map Rw.e)] := by
  have hl : l.length ≤ 1152921504606846976 := h2
  rw [c_laws_markRowS]
  have := mark_loop (L := L_laws_markRowS_0) (e := Rw.e) (f := Rw.mkm) (c := Rw.ct) (g := (fun _ => 0)) (fun p q a k h0 hc hg hlt => by
    rw [show k + ((Rw.ct a : Nat) : Int) = k + 1 + 1 + 1 by simp only [Rw.ct]; omega]
    rw [L_laws_markRowS_0_eq]
    simp only [lt_mid, in_mid, tn_c, at_mid, cond_true, cond_false, gn_c, gb_c, gs_c, gl_c, tk_s, tk_0, List.drop_succ_cons, List.drop_zero, List.headD_cons, List.getD_cons_zero, List.getD_cons_succ, bind_s, upd_mid, Rw.e, Rw.mkm, w64_id (n := k + 1) (by simp only [Rw.ct] at hc; omega), w64_id (n := k + 1 + 1) (by simp only [Rw.ct] at hc; omega), w64_id (n := k + 1 + 1 + 1) (by simp only [Rw.ct] at hc; omega), setRange, List.set_cons_zero, List.set_cons_succ]) (fun p k => by
    rw [L_laws_markRowS_0_eq, lt_end, cond_false]) l [] k h0 h1 (by rw [szL_flat]; exact h2) (by simp; omega)
  simpa using this
theorem held_RowS (l : List Rw) (k : Int) (h0 : 0 ≤ k) (h1 : k + cntL Rw.ct l < 4611686018427387904) (h2 : l.length ≤ 1152921504606846976) : callI tE f_laws_heldRowS [.sl ((mkL Rw.mkm Rw.ct l k).map Rw.e), .int k] = some [.int (k + cntL Rw.ct l)] := by
  have hl : l.length ≤ 1152921504606846976 := h2
  rw [c_laws_heldRowS]
  have := held_loop (L := L_laws_heldRowS_0) (e := Rw.e) (f := Rw.mkm) (c := Rw.ct) (g := (fun _ => 0)) (fun p q a k h0 hc hg hlt => by
    rw [show k + ((Rw.ct a : Nat) : Int) = k + 1 + 1 + 1 by simp only [Rw.ct]; omega]
    rw [L_laws_heldRowS_0_eq]
    simp only [lt_mid, in_mid, tn_c, at_mid, cond_true, cond_false, gn_c, gb_c, gs_c, gl_c, tk_s, tk_0, List.drop_succ_cons, List.drop_zero, List.headD_cons, List.getD_cons_zero, List.getD_cons_succ, bind_s, Rw.e, Rw.mkm, w64_id (n := k + 1) (by simp only [Rw.ct] at hc; omega), w64_id (n := k + 1 + 1) (by simp only [Rw.ct] at hc; omega), w64_id (n := k + 1 + 1 + 1) (by simp only [Rw.ct] at hc; omega), eqI_self, eqBo_self, Bool.not_true, ltF_nn h0]) (fun p k => by
    rw [L_laws_heldRowS_0_eq, lt_end, cond_false]) l [] k h0 h1 (by rw [szL_flat]; exact h2) (by simp; omega)
  simpa using this
end Go.Proofs.Ytbmafhpbinjgaaa.Vai
namespace Go.Proofs.Ytbmafhpbinjgaaa.Vai
open Go
set_option linter.unusedSimpArgs false
set_option linter.unusedVariables false
set_option linter.unnecessarySimpa false
set_option maxRecDepth 10000
theorem eq_Run (x y : List Rw) (h : x.length ≤ 1152921504606846976) : callI tE f_laws_eqRun [.sl (x.map Rw.e), .sl (y.map Rw.e)] = some [.bool (decide (x = y))] := by
  simp only [c_laws_eqRun, eq_RowS x y h, gn_c, gb_c, gs_c, gl_c, tk_s, tk_0, List.drop_succ_cons, List.drop_zero, List.headD_cons, List.getD_cons_zero, List.getD_cons_succ, bind_s, bif_and, Bool.and_true]
theorem eq_RunS (l l' : List (List Rw)) (h : szL List.length l ≤ 1152921504606846976) : callI tE f_laws_eqRunS [.sl (l.map rsE), .sl (l'.map rsE)] = some [.bool (decide (l = l'))] := by
  have hl : l.length ≤ 1152921504606846976 := (Nat.le_trans (szL_len _ _) h)
  rw [c_laws_eqRunS]
  by_cases hll : l.length = l'.length
  · rw [eq_len hll, Bool.not_true, cond_false]
    have := eq_loop (L := L_laws_eqRunS_0) (e := rsE) (P := fun a => List.length a ≤ 1152921504606846976) (fun p q p' q' a b hP hpl hlt => by
      rw [L_laws_eqRunS_0_eq]
      simp only [lt_mid, in_mid, tn_c, at_mid, cond_true, cond_false, gn_c, gb_c, gs_c, gl_c, tk_s, tk_0, List.drop_succ_cons, List.drop_zero, List.headD_cons, List.getD_cons_zero, List.getD_cons_succ, bind_s, in_mid' hpl, at_mid' hpl, rsE, eq_Run a b hP, bifn]) (fun p p' hpl => by
      rw [L_laws_eqRunS_0_eq, lt_end, cond_false]) l l' [] [] rfl hll (fun a ha => Nat.le_trans (szL_mem ha) h) (by simp; omega)
    simpa using this
  · rw [ne_len hll, Bool.not_false, cond_true, decide_eq_false (fun e => hll (by rw [e]))]
theorem mark_RunS (l : List (List Rw)) (k : Int) (h0 : 0 ≤ k) (h1 : k + cntL (cntL Rw.ct) l < 4611686018427387904) (h2 : szL List.length l ≤ 1152921504606846976) : callI tE f_laws_markRunS [.sl (l.map rsE), .int k] = some [.int (k + cntL (cntL Rw.ct) l), .sl ((mkL (mkL Rw.mkm Rw.ct) (cntL Rw.ct) l k).map rsE)] := by
  have hl : l.length ≤ 1152921504606846976 := (Nat.le_trans (szL_len _ _) h2)
  rw [c_laws_markRunS]
  have := mark_loop (L := L_laws_markRunS_0) (e := rsE) (f := (mkL Rw.mkm Rw.ct)) (c := (cntL Rw.ct)) (g := List.length) (fun p q a k h0 hc hg hlt => by
    rw [L_laws_markRunS_0_eq]
    simp only [lt_mid, in_mid, tn_c, at_mid, cond_true, cond_false, gn_c, gb_c, gs_c, gl_c, tk_s, tk_0, List.drop_succ_cons, List.drop_zero, List.headD_cons, List.getD_cons_zero, List.getD_cons_succ, bind_s, upd_mid, rsE, mark_RowS a k h0 hc hg, setRange, List.set_cons_zero, List.set_cons_succ]) (fun p k => by
    rw [L_laws_markRunS_0_eq, lt_end, cond_false]) l [] k h0 h1 (by exact h2) (by simp; omega)
  simpa using this
theorem held_RunS (l : List (List Rw)) (k : Int) (h0 : 0 ≤ k) (h1 : k + cntL (cntL Rw.ct) l < 4611686018427387904) (h2 : szL List.length l ≤ 1152921504606846976) : callI tE f_laws_heldRunS [.sl ((mkL (mkL Rw.mkm Rw.ct) (cntL Rw.ct) l k).map rsE), .int k] = some [.int (k + cntL (cntL Rw.ct) l)] := by
  have hl : l.length ≤ 1152921504606846976 := (Nat.le_trans (szL_len _ _) h2)
  rw [c_laws_heldRunS]
  have := held_loop (L := L_laws_heldRunS_0) (e := rsE) (f := (mkL Rw.mkm Rw.ct)) (c := (cntL Rw.ct)) (g := List.length) (fun p q a k h0 hc hg hlt => by
    rw [L_laws_heldRunS_0_eq]
    simp only [lt_mid, in_mid, tn_c, at_mid, cond_true, cond_false, gn_c, gb_c, gs_c, gl_c, tk_s, tk_0, List.drop_succ_cons, List.drop_zero, List.headD_cons, List.getD_cons_zero, List.getD_cons_succ, bind_s, rsE, held_RowS a k h0 hc hg, eqI_self, eqBo_self, Bool.not_true, ltF_nn h0]) (fun p k => by
    rw [L_laws_heldRunS_0_eq, lt_end, cond_false]) l [] k h0 h1 (by exact h2) (by simp; omega)
  simpa using this
theorem eq_Sorter (x y : So) (h : x.sz ≤ 1152921504606846976) : callI tE f_laws_eqSorter [.sl (x.inp.map Rw.e), .int x.pos, .sl (x.heap.map Rw.e), .sl (x.dfd.map Rw.e), .sl (x.out.map Rw.e), .sl (x.runs.map rsE), .int x.lp, .int x.rp, .int x.ph, .int x.wr, .sl (y.inp.map Rw.e), .int y.pos, .sl (y.heap.map Rw.e), .sl (y.dfd.map Rw.e), .sl (y.out.map Rw.e), .sl (y.runs.map rsE), .int y.lp, .int y.rp, .int y.ph, .int y.wr] = some [.bool (decide (x = y))] := by
  have e : decide (x = y) = (decide (x.inp = y.inp) && (decide (x.pos = y.pos) && (decide (x.heap = y.heap) && (decide (x.dfd = y.dfd) && (decide (x.out = y.out) && (decide (x.runs = y.runs) && (decide (x.lp = y.lp) && (decide (x.rp = y.rp) && (decide (x.ph = y.ph) && (decide (x.wr = y.wr))))))))))) := by
    cases x; cases y
    simp only [So.mk.injEq, Bool.decide_and]
  simp only [eq_RowS x.inp y.inp (by simp only [So.sz] at h; omega), eq_RowS x.heap y.heap (by simp only [So.sz] at h; omega), eq_RowS x.dfd y.dfd (by simp only [So.sz] at h; omega), eq_RowS x.out y.out (by simp only [So.sz] at h; omega), eq_RunS x.runs y.runs (by simp only [So.sz] at h; omega), gn_c, gb_c, gs_c, gl_c, tk_s, tk_0, List.drop_succ_cons, List.drop_zero, List.headD_cons, List.getD_cons_zero, List.getD_cons_succ, bind_s, eqI, eqBo, e, bif_and, Bool.and_true, c_laws_eqSorter]
theorem mark_Sorter (x : So) (k : Int) (h0 : 0 ≤ k) (h1 : k + (cntL Rw.ct x.inp : Nat) + (cntL Rw.ct x.heap : Nat) + (cntL Rw.ct x.dfd : Nat) + (cntL Rw.ct x.out : Nat) + (cntL (cntL Rw.ct) x.runs : Nat) < 4611686018427387904) (h2 : x.sz ≤ 1152921504606846976) : callI tE f_laws_markSorter [.sl (x.inp.map Rw.e), .int x.pos, .sl (x.heap.map Rw.e), .sl (x.dfd.map Rw.e), .sl (x.out.map Rw.e), .sl (x.runs.map rsE), .int x.lp, .int x.rp, .int x.ph, .int x.wr, .int k] = some [.int (k + (cntL Rw.ct x.inp : Nat) + (cntL Rw.ct x.heap : Nat) + (cntL Rw.ct x.dfd : Nat) + (cntL Rw.ct x.out : Nat) + (cntL (cntL Rw.ct) x.runs : Nat)), .sl ((mkL Rw.mkm Rw.ct x.inp k).map Rw.e), .sl ((mkL Rw.mkm Rw.ct x.heap (k + (cntL Rw.ct x.inp : Nat))).map Rw.e), .sl ((mkL Rw.mkm Rw.ct x.dfd (k + (cntL Rw.ct x.inp : Nat) + (cntL Rw.ct x.heap : Nat))).map Rw.e), .sl ((mkL Rw.mkm Rw.ct x.out (k + (cntL Rw.ct x.inp : Nat) + (cntL Rw.ct x.heap : Nat) + (cntL Rw.ct x.dfd : Nat))).map Rw.e), .sl ((mkL (mkL Rw.mkm Rw.ct) (cntL Rw.ct) x.runs (k + (cntL Rw.ct x.inp : Nat) + (cntL Rw.ct x.heap : Nat) + (cntL Rw.ct x.dfd : Nat) + (cntL Rw.ct x.out : Nat))).map rsE)] := by
  simp only [c_laws_markSorter, mark_RowS x.inp k (by omega) (by omega) (by simp only [So.sz] at h2; omega), mark_RowS x.heap (k + (cntL Rw.ct x.inp : Nat)) (by omega) (by omega) (by simp only [So.sz] at h2; omega), mark_RowS x.dfd (k + (cntL Rw.ct x.inp : Nat) + (cntL Rw.ct x.heap : Nat)) (by omega) (by omega) (by simp only [So.sz] at h2; omega), mark_RowS x.out (k + (cntL Rw.ct x.inp : Nat) + (cntL Rw.ct x.heap : Nat) + (cntL Rw.ct x.dfd : Nat)) (by omega) (by omega) (by simp only [So.sz] at h2; omega), mark_RunS x.runs (k + (cntL Rw.ct x.inp : Nat) + (cntL Rw.ct x.heap : Nat) + (cntL Rw.ct x.dfd : Nat) + (cntL Rw.ct x.out : Nat)) (by omega) (by omega) (by simp only [So.sz] at h2; omega), gn_c, gb_c, gs_c, gl_c, tk_s, tk_0, List.drop_succ_cons, List.drop_zero, List.headD_cons, List.getD_cons_zero, List.getD_cons_succ, bind_s]
theorem held_Sorter (x : So) (k : Int) (h0 : 0 ≤ k) (h1 : k + (cntL Rw.ct x.inp : Nat) + (cntL Rw.ct x.heap : Nat) + (cntL Rw.ct x.dfd : Nat) + (cntL Rw.ct x.out : Nat) + (cntL (cntL Rw.ct) x.runs : Nat) < 4611686018427387904) (h2 : x.sz ≤ 1152921504606846976) : callI tE f_laws_heldSorter [.sl ((mkL Rw.mkm Rw.ct x.inp k).map Rw.e), .int x.pos, .sl ((mkL Rw.mkm Rw.ct x.heap (k + (cntL Rw.ct x.inp : Nat))).map Rw.e), .sl ((mkL Rw.mkm Rw.ct x.dfd (k + (cntL Rw.ct x.inp : Nat) + (cntL Rw.ct x.heap : Nat))).map Rw.e), .sl ((mkL Rw.mkm Rw.ct x.out (k + (cntL Rw.ct x.inp : Nat) + (cntL Rw.ct x.heap : Nat) + (cntL Rw.ct x.dfd : Nat))).map Rw.e), .sl ((mkL (mkL Rw.mkm Rw.ct) (cntL Rw.ct) x.runs (k + (cntL Rw.ct x.inp : Nat) + (cntL Rw.ct x.heap : Nat) + (cntL Rw.ct x.dfd : Nat) + (cntL Rw.ct x.out : Nat))).map rsE), .int x.lp, .int x.rp, .int x.ph, .int x.wr, .int k] = some [.int (k + (cntL Rw.ct x.inp : Nat) + (cntL Rw.ct x.heap : Nat) + (cntL Rw.ct x.dfd : Nat) + (cntL Rw.ct x.out : Nat) + (cntL (cntL Rw.ct) x.runs : Nat))] := by
  simp only [c_laws_heldSorter, held_RowS x.inp k (by omega) (by omega) (by simp only [So.sz] at h2; omega), held_RowS x.heap (k + (cntL Rw.ct x.inp : Nat)) (by omega) (by omega) (by simp only [So.sz] at h2; omega), held_RowS x.dfd (k + (cntL Rw.ct x.inp : Nat) + (cntL Rw.ct x.heap : Nat)) (by omega) (by omega) (by simp only [So.sz] at h2; omega), held_RowS x.out (k + (cntL Rw.ct x.inp : Nat) + (cntL Rw.ct x.heap : Nat) + (cntL Rw.ct x.dfd : Nat)) (by omega) (by omega) (by simp only [So.sz] at h2; omega), held_RunS x.runs (k + (cntL Rw.ct x.inp : Nat) + (cntL Rw.ct x.heap : Nat) + (cntL Rw.ct x.dfd : Nat) + (cntL Rw.ct x.out : Nat)) (by omega) (by omega) (by simp only [So.sz] at h2; omega), gn_c, gb_c, gs_c, gl_c, tk_s, tk_0, List.drop_succ_cons, List.drop_zero, List.headD_cons, List.getD_cons_zero, List.getD_cons_succ, bind_s, ltF (a := k + (cntL Rw.ct x.inp : Nat)) (b := 0) (by omega), ltF (a := k + (cntL Rw.ct x.inp : Nat) + (cntL Rw.ct x.heap : Nat)) (b := 0) (by omega), ltF (a := k + (cntL Rw.ct x.inp : Nat) + (cntL Rw.ct x.heap : Nat) + (cntL Rw.ct x.dfd : Nat)) (b := 0) (by omega), ltF (a := k + (cntL Rw.ct x.inp : Nat) + (cntL Rw.ct x.heap : Nat) + (cntL Rw.ct x.dfd : Nat) + (cntL Rw.ct x.out : Nat)) (b := 0) (by omega), ltF (a := k + (cntL Rw.ct x.inp : Nat) + (cntL Rw.ct x.heap : Nat) + (cntL Rw.ct x.dfd : Nat) + (cntL Rw.ct x.out : Nat) + (cntL (cntL Rw.ct) x.runs : Nat)) (b := 0) (by omega), cond_false]
theorem eq_Checkpoint (x y : Ck) (h : x.sz ≤ 1152921504606846976) : callI tE f_laws_eqCheckpoint [.sl (x.so.inp.map Rw.e), .int x.so.pos, .sl (x.so.heap.map Rw.e), .sl (x.so.dfd.map Rw.e), .sl (x.so.out.map Rw.e), .sl (x.so.runs.map rsE), .int x.so.lp, .int x.so.rp, .int x.so.ph, .int x.so.wr, .sl (x.em.map Rw.e), .sl (y.so.inp.map Rw.e), .int y.so.pos, .sl (y.so.heap.map Rw.e), .sl (y.so.dfd.map Rw.e), .sl (y.so.out.map Rw.e), .sl (y.so.runs.map rsE), .int y.so.lp, .int y.so.rp, .int y.so.ph, .int y.so.wr, .sl (y.em.map Rw.e)] = some [.bool (decide (x = y))] := by
  have e : decide (x = y) = (decide (x.so = y.so) && (decide (x.em = y.em))) := by
    cases x; cases y
    simp only [Ck.mk.injEq, Bool.decide_and]
  simp only [eq_Sorter x.so y.so (by simp only [Ck.sz] at h; omega), eq_RowS x.em y.em (by simp only [Ck.sz] at h; omega), gn_c, gb_c, gs_c, gl_c, tk_s, tk_0, List.drop_succ_cons, List.drop_zero, List.headD_cons, List.getD_cons_zero, List.getD_cons_succ, bind_s, eqI, eqBo, e, bif_and, Bool.and_true, c_laws_eqCheckpoint]
theorem mark_Checkpoint (x : Ck) (k : Int) (h0 : 0 ≤ k) (h1 : k + (cntL Rw.ct x.so.inp : Nat) + (cntL Rw.ct x.so.heap : Nat) + (cntL Rw.ct x.so.dfd : Nat) + (cntL Rw.ct x.so.out : Nat) + (cntL (cntL Rw.ct) x.so.runs : Nat) + (cntL Rw.ct x.em : Nat) < 4611686018427387904) (h2 : x.sz ≤ 1152921504606846976) : callI tE f_laws_markCheckpoint [.sl (x.so.inp.map Rw.e), .int x.so.pos, .sl (x.so.heap.map Rw.e), .sl (x.so.dfd.map Rw.e), .sl (x.so.out.map Rw.e), .sl (x.so.runs.map rsE), .int x.so.lp, .int x.so.rp, .int x.so.ph, .int x.so.wr, .sl (x.em.map Rw.e), .int k] = some [.int (k + (cntL Rw.ct x.so.inp : Nat) + (cntL Rw.ct x.so.heap : Nat) + (cntL Rw.ct x.so.dfd : Nat) + (cntL Rw.ct x.so.out : Nat) + (cntL (cntL Rw.ct) x.so.runs : Nat) + (cntL Rw.ct x.em : Nat)), .sl ((mkL Rw.mkm Rw.ct x.so.inp k).map Rw.e), .sl ((mkL Rw.mkm Rw.ct x.so.heap (k + (cntL Rw.ct x.so.inp : Nat))).map Rw.e), .sl ((mkL Rw.mkm Rw.ct x.so.dfd (k + (cntL Rw.ct x.so.inp : Nat) + (cntL Rw.ct x.so.heap : Nat))).map Rw.e), .sl ((mkL Rw.mkm Rw.ct x.so.out (k + (cntL Rw.ct x.so.inp : Nat) + (cntL Rw.ct x.so.heap : Nat) + (cntL Rw.ct x.so.dfd : Nat))).map Rw.e), .sl ((mkL (mkL Rw.mkm Rw.ct) (cntL Rw.ct) x.so.runs (k + (cntL Rw.ct x.so.inp : Nat) + (cntL Rw.ct x.so.heap : Nat) + (cntL Rw.ct x.so.dfd : Nat) + (cntL Rw.ct x.so.out : Nat))).map rsE), .sl ((mkL Rw.mkm Rw.ct x.em (k + (cntL Rw.ct x.so.inp : Nat) + (cntL Rw.ct x.so.heap : Nat) + (cntL Rw.ct x.so.dfd : Nat) + (cntL Rw.ct x.so.out : Nat) + (cntL (cntL Rw.ct) x.so.runs : Nat))).map Rw.e)] := by
  simp only [c_laws_markCheckpoint, mark_Sorter x.so k (by omega) (by omega) (by simp only [Ck.sz] at h2; omega), mark_RowS x.em (k + (cntL Rw.ct x.so.inp : Nat) + (cntL Rw.ct x.so.heap : Nat) + (cntL Rw.ct x.so.dfd : Nat) + (cntL Rw.ct x.so.out : Nat) + (cntL (cntL Rw.ct) x.so.runs : Nat)) (by omega) (by omega) (by simp only [Ck.sz] at h2; omega), gn_c, gb_c, gs_c, gl_c, tk_s, tk_0, List.drop_succ_cons, List.drop_zero, List.headD_cons, List.getD_cons_zero, List.getD_cons_succ, bind_s]
theorem held_Checkpoint (x : Ck) (k : Int) (h0 : 0 ≤ k) (h1 : k + (cntL Rw.ct x.so.inp : Nat) + (cntL Rw.ct x.so.heap : Nat) + (cntL Rw.ct x.so.dfd : Nat) + (cntL Rw.ct x.so.out : Nat) + (cntL (cntL Rw.ct) x.so.runs : Nat) + (cntL Rw.ct x.em : Nat) < 4611686018427387904) (h2 : x.sz ≤ 1152921504606846976) : callI tE f_laws_heldCheckpoint [.sl ((mkL Rw.mkm Rw.ct x.so.inp k).map Rw.e), .int x.so.pos, .sl ((mkL Rw.mkm Rw.ct x.so.heap (k + (cntL Rw.ct x.so.inp : Nat))).map Rw.e), .sl ((mkL Rw.mkm Rw.ct x.so.dfd (k + (cntL Rw.ct x.so.inp : Nat) + (cntL Rw.ct x.so.heap : Nat))).map Rw.e), .sl ((mkL Rw.mkm Rw.ct x.so.out (k + (cntL Rw.ct x.so.inp : Nat) + (cntL Rw.ct x.so.heap : Nat) + (cntL Rw.ct x.so.dfd : Nat))).map Rw.e), .sl ((mkL (mkL Rw.mkm Rw.ct) (cntL Rw.ct) x.so.runs (k + (cntL Rw.ct x.so.inp : Nat) + (cntL Rw.ct x.so.heap : Nat) + (cntL Rw.ct x.so.dfd : Nat) + (cntL Rw.ct x.so.out : Nat))).map rsE), .int x.so.lp, .int x.so.rp, .int x.so.ph, .int x.so.wr, .sl ((mkL Rw.mkm Rw.ct x.em (k + (cntL Rw.ct x.so.inp : Nat) + (cntL Rw.ct x.so.heap : Nat) + (cntL Rw.ct x.so.dfd : Nat) + (cntL Rw.ct x.so.out : Nat) + (cntL (cntL Rw.ct) x.so.runs : Nat))).map Rw.e), .int k] = some [.int (k + (cntL Rw.ct x.so.inp : Nat) + (cntL Rw.ct x.so.heap : Nat) + (cntL Rw.ct x.so.dfd : Nat) + (cntL Rw.ct x.so.out : Nat) + (cntL (cntL Rw.ct) x.so.runs : Nat) + (cntL Rw.ct x.em : Nat))] := by
  simp only [c_laws_heldCheckpoint, held_Sorter x.so k (by omega) (by omega) (by simp only [Ck.sz] at h2; omega), held_RowS x.em (k + (cntL Rw.ct x.so.inp : Nat) + (cntL Rw.ct x.so.heap : Nat) + (cntL Rw.ct x.so.dfd : Nat) + (cntL Rw.ct x.so.out : Nat) + (cntL (cntL Rw.ct) x.so.runs : Nat)) (by omega) (by omega) (by simp only [Ck.sz] at h2; omega), gn_c, gb_c, gs_c, gl_c, tk_s, tk_0, List.drop_succ_cons, List.drop_zero, List.headD_cons, List.getD_cons_zero, List.getD_cons_succ, bind_s, ltF (a := k + (cntL Rw.ct x.so.inp : Nat) + (cntL Rw.ct x.so.heap : Nat) + (cntL Rw.ct x.so.dfd : Nat) + (cntL Rw.ct x.so.out : Nat) + (cntL (cntL Rw.ct) x.so.runs : Nat)) (b := 0) (by omega), ltF (a := k + (cntL Rw.ct x.so.inp : Nat) + (cntL Rw.ct x.so.heap : Nat) + (cntL Rw.ct x.so.dfd : Nat) + (cntL Rw.ct x.so.out : Nat) + (cntL (cntL Rw.ct) x.so.runs : Nat) + (cntL Rw.ct x.em : Nat)) (b := 0) (by omega), cond_false]
end Go.Proofs.Ytbmafhpbinjgaaa.Vai
namespace Go.Proofs.Ytbmafhpbinjgaaa.Vai
open Go
set_option linter.unusedSimpArgs false
set_option linter.unusedVariables false
set_option linter.unnecessarySimpa false
set_option maxRecDepth 100000
theorem c_laws_FnExactParseCheckpoint (a0 : ByteArray) : callI tE f_laws_FnExactParseCheckpoint [.str a0] = (bif (ltI 1048576 (szI a0)) then (some [(.bool Bool.true)]) else (((callI tE f_spec_ParseCheckpoint [(.str a0)])).bind (fun r0 => (((callI tE f_impl_ParseCheckpoint [(.str a0)])).bind (fun r1 => (((callI tE f_laws_eqCheckpoint [(.sl (gl r1)), (.int (gn (tk 1 r1))), (.sl (gl (tk 2 r1))), (.sl (gl (tk 3 r1))), (.sl (gl (tk 4 r1))), (.sl (gl (tk 5 r1))), (.int (gn (tk 6 r1))), (.int (gn (tk 7 r1))), (.int (gn (tk 8 r1))), (.int (gn (tk 9 r1))), (.sl (gl (tk 10 r1))), (.sl (gl r0)), (.int (gn (tk 1 r0))), (.sl (gl (tk 2 r0))), (.sl (gl (tk 3 r0))), (.sl (gl (tk 4 r0))), (.sl (gl (tk 5 r0))), (.int (gn (tk 6 r0))), (.int (gn (tk 7 r0))), (.int (gn (tk 8 r0))), (.int (gn (tk 9 r0))), (.sl (gl (tk 10 r0)))])).bind (fun r2 => (bif (!(gb r2)) then (some [(.bool Bool.false)]) else (bif (!(eqBo (gb (tk 11 r1)) (gb (tk 11 r0)))) then (some [(.bool Bool.false)]) else (((callI tE f_laws_markCheckpoint [(.sl (gl r1)), (.int (gn (tk 1 r1))), (.sl (gl (tk 2 r1))), (.sl (gl (tk 3 r1))), (.sl (gl (tk 4 r1))), (.sl (gl (tk 5 r1))), (.int (gn (tk 6 r1))), (.int (gn (tk 7 r1))), (.int (gn (tk 8 r1))), (.int (gn (tk 9 r1))), (.sl (gl (tk 10 r1))), (.int 1)])).bind (fun r3 => (((callI tE f_laws_heldCheckpoint [(.sl (gl (List.drop 1 r3))), (.int (gn (tk 1 r1))), (.sl (gl (tk 1 (List.drop 1 r3)))), (.sl (gl (tk 2 (List.drop 1 r3)))), (.sl (gl (tk 3 (List.drop 1 r3)))), (.sl (gl (tk 4 (List.drop 1 r3)))), (.int (gn (tk 6 r1))), (.int (gn (tk 7 r1))), (.int (gn (tk 8 r1))), (.int (gn (tk 9 r1))), (.sl (gl (tk 5 (List.drop 1 r3)))), (.int 1)])).bind (fun r4 => (bif (ltI (gn r4) 0) then (some [(.bool Bool.false)]) else (bif (!(eqI (gn r4) (gn r3))) then (some [(.bool Bool.false)]) else (((callI tE f_impl_ParseCheckpoint [(.str a0)])).bind (fun r5 => (((callI tE f_laws_eqCheckpoint [(.sl (gl r5)), (.int (gn (tk 1 r5))), (.sl (gl (tk 2 r5))), (.sl (gl (tk 3 r5))), (.sl (gl (tk 4 r5))), (.sl (gl (tk 5 r5))), (.int (gn (tk 6 r5))), (.int (gn (tk 7 r5))), (.int (gn (tk 8 r5))), (.int (gn (tk 9 r5))), (.sl (gl (tk 10 r5))), (.sl (gl r0)), (.int (gn (tk 1 r0))), (.sl (gl (tk 2 r0))), (.sl (gl (tk 3 r0))), (.sl (gl (tk 4 r0))), (.sl (gl (tk 5 r0))), (.int (gn (tk 6 r0))), (.int (gn (tk 7 r0))), (.int (gn (tk 8 r0))), (.int (gn (tk 9 r0))), (.sl (gl (tk 10 r0)))])).bind (fun r6 => (bif (!(gb r6)) then (some [(.bool Bool.false)]) else (bif (!(eqBo (gb (tk 11 r5)) (gb (tk 11 r0)))) then (some [(.bool Bool.false)]) else (((callI tE f_laws_heldCheckpoint [(.sl (gl (List.drop 1 r3))), (.int (gn (tk 1 r1))), (.sl (gl (tk 1 (List.drop 1 r3)))), (.sl (gl (tk 2 (List.drop 1 r3)))), (.sl (gl (tk 3 (List.drop 1 r3)))), (.sl (gl (tk 4 (List.drop 1 r3)))), (.int (gn (tk 6 r1))), (.int (gn (tk 7 r1))), (.int (gn (tk 8 r1))), (.int (gn (tk 9 r1))), (.sl (gl (tk 5 (List.drop 1 r3)))), (.int 1)])).bind (fun r7 => (bif (ltI (gn r7) 0) then (some [(.bool Bool.false)]) else (bif (!(eqI (gn r7) (gn r3))) then (some [(.bool Bool.false)]) else (some [(.bool Bool.true)])))))))))))))))))))))))))) := (callI_run rfl (by kernel_rfl)).trans (by kernel_rfl)
end Go.Proofs.Ytbmafhpbinjgaaa.Vai
namespace Go.Proofs.Ytbmafhpbinjgaaa.Vai
open Go
set_option linter.unusedSimpArgs false
set_option linter.unusedVariables false
set_option linter.unnecessarySimpa false
set_option maxRecDepth 10000
theorem markC (y : Ck) (h : y.sz ≤ 1073741824) : ∃ (m : Int) (a b c d e f : Rows), callI tE f_laws_markCheckpoint [.sl (y.so.inp.map Rw.e), .int y.so.pos, .sl (y.so.heap.map Rw.e), .sl (y.so.dfd.map Rw.e), .sl (y.so.out.map Rw.e), .sl (y.so.runs.map rsE), .int y.so.lp, .int y.so.rp, .int y.so.ph, .int y.so.wr, .sl (y.em.map Rw.e), .int 1] = some [.int m, .sl a, .sl b, .sl c, .sl d, .sl e, .sl f] ∧
    callI tE f_laws_heldCheckpoint [.sl a, .int y.so.pos, .sl b, .sl c, .sl d, .sl e, .int y.so.lp, .int y.so.rp, .int y.so.ph, .int y.so.wr, .sl f, .int 1] = some [.int m] ∧ 0 ≤ m := by
  have h1 := y.so.cnt_le
  have h2 := cnt_Rw y.em
  have h3 : y.sz = y.so.sz + y.em.length := rfl
  exact ⟨_, _, _, _, _, _, _, mark_Checkpoint y 1 (by omega) (by omega) (by omega), held_Checkpoint y 1 (by omega) (by omega) (by omega), by omega⟩
theorem pure_FnExactParseCheckpoint : ∀ ds, OkDs tE [.str] ds → callI tE f_laws_FnExactParseCheckpoint ds = some [.bool true] := by
  intro ds h0
  obtain ⟨_, _, rfl, i0, h1⟩ := h0.inv
  obtain ⟨b0, rfl, hb0⟩ := i0.str'
  obtain ⟨s0, rfl⟩ := of_S b0
  rw [S_size] at hb0
  obtain rfl := h1.nil_inv
  rw [c_laws_FnExactParseCheckpoint, szI_S]
  by_cases hs : s0.length ≤ 1048576
  · rw [ltF (by omega), cond_false, sParseCk s0 (by omega), iParseCk s0 (by omega)]
    have hz := ckGet_sz s0 (by omega)
    unfold pCk
    generalize ckGet s0 = y at *
    generalize isCk s0 = b at *
    obtain ⟨m, a1, a2, a3, a4, a5, a6, e1, e2, e3⟩ := markC y (by omega)
    have e4 := eq_Checkpoint y y (by omega)
    simp only [CkR, gn_c, gb_c, gs_c, gl_c, tk_s, tk_0, List.drop_succ_cons, List.drop_zero, List.headD_cons, List.getD_cons_zero, List.getD_cons_succ, bind_s, e4, decide_true, eqBo_self, eqI_self, Bool.not_true, cond_false, e1, List.drop_succ_cons, List.drop_zero, e2, ltF e3]
  · rw [ltT (by omega)]; rfl
end Go.Proofs.Ytbmafhpbinjgaaa.Vai
