/- What the law of this claim leans on; no condition. -/
import Derived.Test.YtbmafhpbinjgaaaGreatPkFnExactParseOp2
namespace Go.Proofs.YtbmafhpbinjgaaaGreat.Vai
open Go
set_option linter.unusedSimpArgs false
set_option linter.unusedVariables false
set_option linter.unnecessarySimpa false
set_option maxRecDepth 10000
theorem leftSum_app (u v : List Tk) : leftSum (u ++ v) = leftSum u + leftSum v := by simp [leftSum]
theorem rightSum_app (u v : List Tk) : rightSum (u ++ v) = rightSum u + rightSum v := by simp [rightSum]
theorem leftSum_le : ∀ l : List Tk, leftSum l ≤ szL Tk.sz l
  | [] => Nat.le_refl _
  | a :: l => by
    have := leftSum_le l
    simp only [leftSum, List.map_cons, List.sum_cons, szL, Tk.sz] at *
    omega
theorem rightSum_le : ∀ l : List Tk, rightSum l ≤ szL Tk.sz l
  | [] => Nat.le_refl _
  | a :: l => by
    have := rightSum_le l
    simp only [rightSum, List.map_cons, List.sum_cons, szL, Tk.sz] at *
    omega
def Jn.B2 (j : Jn) : Prop := j.sz ≤ 1073741800
def pendOk (l : List Tk) (t : Tk) : Bool := tkOk t && decide (t.kind = (l.headD tkZ).kind)
def pendAll (l : List Tk) : Bool := l.all (pendOk l)
theorem jnOk_eq (j : Jn) : jnOk j = (decide (j.pend.length ≤ 40) && (win j.wr 0 100000 && (win j.parts 0 1000 && (pendAll j.pend && (decide (leftSum j.pend ≤ 24) && decide (rightSum j.pend ≤ 24)))))) := rfl
theorem leN24 (n : Nat) : leI (n : Int) 24 = decide (n ≤ 24) := by unfold leI; congr 1; apply propext; omega
theorem leN40 (n : Nat) : leI (n : Int) 40 = decide (n ≤ 40) := by unfold leI; congr 1; apply propext; omega
theorem headTk {l : List Tk} (h : 0 < l.length) : at' (l.map Tk.e) (tn 0) = (l.headD tkZ).e := by
  cases l with
  | nil => simp at h
  | cons a l => rfl
theorem iValidJn (j : Jn) (h : j.B2) : callI tE f_impl_IsValidJoiner [.sl (j.pend.map Tk.e), .int j.wr, .int j.parts] = some [.bool (jnOk j)] := by
  have hl := szL_len Tk.sz j.pend
  have hL := leftSum_le j.pend
  have hR := rightSum_le j.pend
  have hsz : szL Tk.sz j.pend ≤ 1073741800 := h
  rw [c_impl_IsValidJoiner, jnOk_eq]
  simp only [within_ok, lenI_map, gn_c, gb_c, gs_c, gl_c, tk_s, tk_0, List.drop_succ_cons, List.drop_zero, List.headD_cons, List.getD_cons_zero, List.getD_cons_succ, bind_s]
  by_cases h40 : j.pend.length ≤ 40
  · rw [ltF (by omega), cond_false, decide_eq_true h40]
    cases win j.wr 0 100000
    · rfl
    · cases win j.parts 0 1000
      · rfl
      · simp only [Bool.not_true, cond_false, Bool.true_and]
        refine (zip_loop (l := j.pend) (L := fun (s : Nat × Nat) i => L_impl_IsValidJoiner_0 0 (s.1 : Nat) (s.2 : Nat) (j.pend.map Tk.e) (j.pend.length : Nat) i (j.pend.map Tk.e) j.wr j.parts) (F := fun s v => some [.bool (v.all (pendOk j.pend) && (decide (s.1 + leftSum v ≤ 24) && decide (s.2 + rightSum v ≤ 24)))]) (I := fun s u _ => s = (leftSum u, rightSum u)) (by omega) (fun u a v s e hI => ?_) (fun s hs => ?_) (0, 0) rfl).trans ?_
        · have hul : u.length < j.pend.length := by rw [e]; simp
          have hat : at' (j.pend.map Tk.e) u.length = a.e := at_i e rfl
          have h1 : leftSum u + a.left.length ≤ 1073741800 := by
            rw [e, leftSum_app] at hL; simp only [leftSum, List.map_cons, List.sum_cons] at hL ⊢; rw [e] at hsz; omega
          have h2 : rightSum u + a.right.length ≤ 1073741800 := by
            rw [e, rightSum_app] at hR; simp only [rightSum, List.map_cons, List.sum_cons] at hR ⊢; rw [e] at hsz; omega
          subst hI
          have step : L_impl_IsValidJoiner_0 0 (leftSum u : Nat) (rightSum u : Nat) (j.pend.map Tk.e) (j.pend.length : Nat) (u.length : Nat) (j.pend.map Tk.e) j.wr j.parts = bif pendOk j.pend a then L_impl_IsValidJoiner_0 0 ((leftSum u + a.left.length : Nat) : Int) ((rightSum u + a.right.length : Nat) : Int) (j.pend.map Tk.e) (j.pend.length : Nat) (w64 (u.length + 1)) (j.pend.map Tk.e) j.wr j.parts else some [.bool false] := by
            rw [L_impl_IsValidJoiner_0_eq, ltT (by omega), cond_true, lenI_map, inRT (by omega) (by omega), cond_true, inRT (by omega) (by omega), cond_true, headTk (by omega)]
            simp only [tn_c, hat, Tk.e, gn_c, gb_c, gs_c, gl_c, tk_s, tk_0, List.drop_succ_cons, List.drop_zero, List.headD_cons, List.getD_cons_zero, List.getD_cons_succ, bind_s, iValidTk, lenI_map]
            unfold pendOk
            rw [w64_id ⟨by omega, by omega⟩, w64_id ⟨by omega, by omega⟩]
            cases tkOk a
            · rfl
            · simp only [Bool.not_true, cond_false, Bool.true_and, bifn]
              rfl
          cases hp : pendOk j.pend a with
          | true =>
            refine .inl ⟨(leftSum u + a.left.length, rightSum u + a.right.length), ?_, ?_, ?_⟩
            · show L_impl_IsValidJoiner_0 _ _ _ _ _ _ _ _ _ = L_impl_IsValidJoiner_0 _ _ _ _ _ _ _ _ _
              rw [step, hp]; rfl
            · rw [leftSum_app, rightSum_app]; simp [leftSum, rightSum]
            · simp only [List.all_cons, hp, Bool.true_and, leftSum, rightSum, List.map_cons, List.sum_cons, Nat.add_assoc]
          | false =>
            refine .inr ?_
            show L_impl_IsValidJoiner_0 _ _ _ _ _ _ _ _ _ = _
            rw [step, hp]
            simp [hp]
        · show L_impl_IsValidJoiner_0 _ _ _ _ _ _ _ _ _ = _
          subst hs
          rw [L_impl_IsValidJoiner_0_eq, ltF (Int.le_refl _), cond_false, leN24, leN24]
          simp only [List.all_nil, Bool.true_and, show leftSum [] = 0 from rfl, show rightSum [] = 0 from rfl, Nat.add_zero]
          cases decide (leftSum j.pend ≤ 24) <;> rfl
        · simp only [Nat.zero_add]; rfl
  · rw [ltT (by omega), cond_true, decide_eq_false h40]; rfl
theorem sValidJn (j : Jn) (h : j.B2) : callI tE f_spec_IsValidJoiner [.sl (j.pend.map Tk.e), .int j.wr, .int j.parts] = some [.bool (jnOk j)] := by
  have hl := szL_len Tk.sz j.pend
  have hL := leftSum_le j.pend
  have hR := rightSum_le j.pend
  have hsz : szL Tk.sz j.pend ≤ 1073741800 := h
  rw [c_spec_IsValidJoiner, jnOk_eq]
  refine (zip_loop (l := j.pend) (L := fun (s : Nat × Nat) i => L_spec_IsValidJoiner_0 0 (s.1 : Nat) (s.2 : Nat) i (j.pend.map Tk.e) j.wr j.parts) (F := fun s v => some [.bool (v.all (pendOk j.pend) && (decide (s.1 + leftSum v ≤ 24) && (decide (s.2 + rightSum v ≤ 24) && (decide (j.pend.length ≤ 40) && (win j.wr 0 100000 && win j.parts 0 1000)))))]) (I := fun s u _ => s = (leftSum u, rightSum u)) (by omega) (fun u a v s e hI => ?_) (fun s hs => ?_) (0, 0) rfl).trans ?_
  · have hul : u.length < j.pend.length := by rw [e]; simp
    have hat : at' (j.pend.map Tk.e) u.length = a.e := at_i e rfl
    have hasz : a.sz ≤ 1073741824 := Nat.le_trans (szL_mem (f := Tk.sz) (show a ∈ j.pend by rw [e]; simp)) (by omega)
    have h1 : leftSum u + a.left.length ≤ 1073741800 := by
      rw [e, leftSum_app] at hL; simp only [leftSum, List.map_cons, List.sum_cons] at hL ⊢; rw [e] at hsz; omega
    have h2 : rightSum u + a.right.length ≤ 1073741800 := by
      rw [e, rightSum_app] at hR; simp only [rightSum, List.map_cons, List.sum_cons] at hR ⊢; rw [e] at hsz; omega
    subst hI
    have step : L_spec_IsValidJoiner_0 0 (leftSum u : Nat) (rightSum u : Nat) (u.length : Nat) (j.pend.map Tk.e) j.wr j.parts = bif pendOk j.pend a then L_spec_IsValidJoiner_0 0 ((leftSum u + a.left.length : Nat) : Int) ((rightSum u + a.right.length : Nat) : Int) (w64 (u.length + 1)) (j.pend.map Tk.e) j.wr j.parts else some [.bool false] := by
      rw [L_spec_IsValidJoiner_0_eq, lenI_map, ltT (by omega), cond_true, inRT (by omega) (by omega), cond_true, inRT (by omega) (by omega), headTk (by omega)]
      simp only [tn_c, hat, Tk.e, gn_c, gb_c, gs_c, gl_c, tk_s, tk_0, List.drop_succ_cons, List.drop_zero, List.headD_cons, List.getD_cons_zero, List.getD_cons_succ, bind_s, sValidTk a hasz, lenI_map, cond_true]
      unfold pendOk
      rw [w64_id ⟨by omega, by omega⟩, w64_id ⟨by omega, by omega⟩]
      cases tkOk a
      · rfl
      · simp only [Bool.not_true, cond_false, Bool.true_and, bifn]
        rfl
    cases hp : pendOk j.pend a with
    | true =>
      refine .inl ⟨(leftSum u + a.left.length, rightSum u + a.right.length), ?_, ?_, ?_⟩
      · show L_spec_IsValidJoiner_0 _ _ _ _ _ _ _ = L_spec_IsValidJoiner_0 _ _ _ _ _ _ _
        rw [step, hp]; rfl
      · rw [leftSum_app, rightSum_app]; simp [leftSum, rightSum]
      · simp only [List.all_cons, hp, Bool.true_and, leftSum, rightSum, List.map_cons, List.sum_cons, Nat.add_assoc]
    | false =>
      refine .inr ?_
      show L_spec_IsValidJoiner_0 _ _ _ _ _ _ _ = _
      rw [step, hp]
      simp [hp]
  · show L_spec_IsValidJoiner_0 _ _ _ _ _ _ _ = _
    subst hs
    rw [L_spec_IsValidJoiner_0_eq, lenI_map, ltF (Int.le_refl _), cond_false, leN24, leN24, leN40]
    simp only [l1In_ok, gn_c, gb_c, gs_c, gl_c, tk_s, tk_0, List.drop_succ_cons, List.drop_zero, List.headD_cons, List.getD_cons_zero, List.getD_cons_succ, bind_s, List.all_nil, Bool.true_and, show leftSum [] = 0 from rfl, show rightSum [] = 0 from rfl, Nat.add_zero]
    cases decide (leftSum j.pend ≤ 24)
    · rfl
    · cases decide (rightSum j.pend ≤ 24)
      · rfl
      · cases decide (j.pend.length ≤ 40)
        · rfl
        · cases win j.wr 0 100000 <;> rfl
  · simp only [Nat.zero_add, pendAll]
    cases j.pend.all (pendOk j.pend) <;> cases decide (leftSum j.pend ≤ 24) <;> cases decide (rightSum j.pend ≤ 24) <;> cases decide (j.pend.length ≤ 40) <;> cases win j.wr 0 100000 <;> cases win j.parts 0 1000 <;> rfl
theorem jn_small {j : Jn} (h : jnOk j = true) : I64 j.wr ∧ I64 j.parts ∧ j.pend.length ≤ 40 ∧ (∀ t ∈ j.pend, tkOk t = true) := by
  obtain ⟨h1, h2, h3, h4, _⟩ := jnOk_p h
  exact ⟨⟨by omega, by omega⟩, ⟨by omega, by omega⟩, h1, fun t ht => (h4 t ht).1⟩
theorem jnFs_le {j : Jn} (h : jnOk j = true) : ∀ x ∈ jnFs j, x.length ≤ 3200 := fun x hx => by
  obtain ⟨i1, i2, _, h4⟩ := jn_small h
  have a1 := fmt_len i1
  have a2 := fmt_len i2
  simp only [jnFs, List.mem_cons] at hx
  rcases hx with rfl | rfl | hx
  · omega
  · omega
  · obtain ⟨t, ht, rfl⟩ := List.mem_map.mp hx
    exact fmtTk_len (h4 t ht)
theorem fmtJn_len {j : Jn} (h : jnOk j = true) : (fmtJn j).length ≤ 134442 := by
  have h1 := joinL_le' (b := 47) (jnFs_le h)
  have h2 := (jn_small h).2.2.1
  have h3 : (jnFs j).length = j.pend.length + 2 := by simp [jnFs]
  unfold fmtJn
  rw [h3] at h1
  omega
theorem txtTk_ok {t : Tk} (h : tkOk t = true) : txtTk t = fmtTk t := if_pos h
theorem sFormatJn (j : Jn) (h : j.B2) : callI tE f_spec_FormatJoiner [.sl (j.pend.map Tk.e), .int j.wr, .int j.parts] = some [.str (S (txtJn j))] := by
  rw [c_spec_FormatJoiner, sValidJn j h]
  simp only [gn_c, gb_c, gs_c, gl_c, tk_s, tk_0, List.drop_succ_cons, List.drop_zero, List.headD_cons, List.getD_cons_zero, List.getD_cons_succ, bind_s]
  unfold txtJn
  by_cases hv : jnOk j = true
  · rw [hv, if_pos rfl, Bool.not_true, cond_false]
    obtain ⟨i1, i2, l1, ht⟩ := jn_small hv
    have a1 := fmt_len i1
    have a2 := fmt_len i2
    simp only [sFormatInt_ok i1, sFormatInt_ok i2, gn_c, gb_c, gs_c, gl_c, tk_s, tk_0, List.drop_succ_cons, List.drop_zero, List.headD_cons, List.getD_cons_zero, List.getD_cons_succ, bind_s, S_app]
    rw [fitS_S (by simp; omega), cond_true, fitS_S (by simp; omega), cond_true]
    refine zip_loop (l := j.pend) (L := fun (m : List UInt8) i => L_spec_FormatJoiner_0 0 (S m) i (j.pend.map Tk.e) j.wr j.parts) (F := fun _ _ => some [.str (S (fmtJn j))]) (I := fun m u _ => m = joinL [47] (fmt j.wr :: fmt j.parts :: u.map fmtTk)) (by omega) (fun u a v m e hI => ?_) (fun m hm => ?_) _ rfl
    · refine .inl ⟨joinL [47] (fmt j.wr :: fmt j.parts :: (u ++ [a]).map fmtTk), ?_, rfl, rfl⟩
      have hul : u.length < j.pend.length := by rw [e]; simp
      have hat : at' (j.pend.map Tk.e) u.length = a.e := at_i e rfl
      have hta := ht a (by rw [e]; simp)
      have hasz : a.sz ≤ 1073741824 := Nat.le_trans (szL_mem (f := Tk.sz) (show a ∈ j.pend by rw [e]; simp)) (by unfold Jn.B2 Jn.sz at h; omega)
      have hlt := fmtTk_len hta
      have hml : m.length ≤ 134442 := by
        have hle : ∀ x ∈ (fmt j.wr :: fmt j.parts :: u.map fmtTk), x.length ≤ 3200 := fun x hx => jnFs_le hv x (by
          simp only [jnFs, List.mem_cons] at hx ⊢
          rcases hx with hx | hx | hx
          · exact .inl hx
          · exact .inr (.inl hx)
          · obtain ⟨t, ht2, rfl⟩ := List.mem_map.mp hx
            exact .inr (.inr (List.mem_map.mpr ⟨t, by rw [e]; simp [ht2], rfl⟩)))
        have := joinL_le' (b := 47) hle
        rw [← hI] at this
        simp only [List.length_cons, List.length_map] at this
        omega
      show L_spec_FormatJoiner_0 _ _ _ _ _ _ = L_spec_FormatJoiner_0 _ _ _ _ _ _
      rw [L_spec_FormatJoiner_0_eq, lenI_map, ltT (by omega), cond_true, fitS_S (by simp; omega), cond_true, inRT (by omega) (by omega), cond_true]
      simp only [tn_c, hat, Tk.e, gn_c, gb_c, gs_c, gl_c, tk_s, tk_0, List.drop_succ_cons, List.drop_zero, List.headD_cons, List.getD_cons_zero, List.getD_cons_succ, bind_s, sFormatTk a hasz, S_app, txtTk_ok hta]
      rw [fitS_S (by simp; omega), cond_true]
      have hj := joinL_snoc [47] (fmt j.wr :: fmt j.parts :: u.map fmtTk) (fmtTk a) (by simp)
      rw [← hI] at hj
      rw [List.map_append, List.map_cons, List.map_nil, ← List.cons_append, ← List.cons_append, hj]
    · show L_spec_FormatJoiner_0 _ _ _ _ _ _ = _
      rw [L_spec_FormatJoiner_0_eq, lenI_map, ltF (Int.le_refl _), cond_false, hm]
      rfl
  · rw [if_neg hv, (Bool.not_eq_true _).mp hv]; rfl
theorem tk_app (l : List Tk) (t : Tk) : List.append (l.map Tk.e) [[.int t.kind, .sl (t.left.map Rw.e), .sl (t.right.map Rw.e), .sl (t.mat.map boE), .int t.level]] = (l ++ [t]).map Tk.e := app_map Tk.e l t
theorem two_at {α : Type} (e : α → List Dat) (a b : α) (r : List α) (k : Nat) : at' ((a :: b :: r).map e) (tn (2 + (k : Int))) = at' (r.map e) k := by
  have : tn (2 + (k : Int)) = k + 2 := by show (2 + (k : Int)).toNat = _; omega
  rw [this]; rfl
theorem listTwo {α : Type} {l : List α} (h : 2 ≤ l.length) : ∃ a b r, l = a :: b :: r := by
  match l, h with
  | a :: b :: r, _ => exact ⟨a, b, r, rfl⟩
theorem szTk_map (r : List (List UInt8)) : szL Tk.sz (r.map tkGet) ≤ 73 * r.length := by
  induction r with
  | nil => exact Nat.le_refl _
  | cons a r ih =>
    have := tkGet_sz a
    simp only [List.map_cons, szL, List.length_cons]
    omega
theorem iParseJn (s : List UInt8) (hs : s.length ≤ 2097152) : callI tE f_impl_ParseJoiner [.str (S s)] = some (pJn s) := by
  have hc := cutL_len 47 s
  have hsub : ∀ x ∈ cutL 47 s, x.length ≤ 2097152 := fun x hx => Nat.le_trans (cutL_sub hx) hs
  rw [c_impl_ParseJoiner, show ((47 : Int)) = (((47 : UInt8).toNat : Nat) : Int) from rfl, iCut 47 s (by omega)]
  simp only [gn_c, gb_c, gs_c, gl_c, tk_s, tk_0, List.drop_succ_cons, List.drop_zero, List.headD_cons, List.getD_cons_zero, List.getD_cons_succ, bind_s, lenI_map]
  by_cases h2 : 2 ≤ (cutL 47 s).length
  · rw [ltF (by omega), cond_false]
    have hi := pJn_i s h2
    obtain ⟨a, b, r, hw⟩ := listTwo h2
    rw [hw] at hsub hi hc ⊢
    have hr : (a :: b :: r).length = r.length + 2 := rfl
    have g0 : at' ((a :: b :: r).map StE) (tn 0) = [.str (S a)] := rfl
    have g1 : at' ((a :: b :: r).map StE) (tn 1) = [.str (S b)] := rfl
    have ha := hsub a (by simp)
    have hb := hsub b (by simp)
    rw [hr] at hc ⊢
    rw [inRT (by omega) (by omega), cond_true, inRT (by omega) (by omega), leT (by omega), leT (by omega)]
    simp only [g0, g1, cond_true, gn_c, gb_c, gs_c, gl_c, tk_s, tk_0, List.drop_succ_cons, List.drop_zero, List.headD_cons, List.getD_cons_zero, List.getD_cons_succ, bind_s, iParseInt a (by omega), iParseInt b (by omega), pI_eq, Bool.and_self]
    have e2 : (((r.length + 2 : Nat) : Int)) - 2 = (r.length : Nat) := by omega
    rw [e2, ← hi]
    have hz := szTk_map r
    refine (zip_loop (l := r) (L := fun (m : List Tk) i => L_impl_ParseJoiner_0 0 (isN a) (isN b) 0 2 (r.length : Nat) (r.length : Nat) i 0 0 (num a) (num b) ((a :: b :: r).map StE) [] (m.map Tk.e)) (F := fun m v => bif v.all isTk then (bif isN a && (isN b && jnOk ⟨m ++ v.map tkGet, num a, num b⟩) then some (JnR ⟨m ++ v.map tkGet, num a, num b⟩ true) else some (JnR jnZ false)) else some (JnR jnZ false)) (I := fun m u _ => m = u.map tkGet) (by omega) (fun u x v m e hI => ?_) (fun m hm => ?_) [] rfl).trans ?_
    · have hul : u.length < r.length := by rw [e]; simp
      have hx := hsub x (by rw [e]; simp)
      have hat : at' ((a :: b :: r).map StE) (tn (2 + (u.length : Int))) = [.str (S x)] := by rw [two_at]; exact at_i e rfl
      have hml : m.length = u.length := by rw [hI]; simp
      have step : L_impl_ParseJoiner_0 0 (isN a) (isN b) 0 2 (r.length : Nat) (r.length : Nat) (u.length : Nat) 0 0 (num a) (num b) ((a :: b :: r).map StE) [] (m.map Tk.e) = bif isTk x then L_impl_ParseJoiner_0 0 (isN a) (isN b) 0 2 (r.length : Nat) (r.length : Nat) (w64 (u.length + 1)) 0 0 (num a) (num b) ((a :: b :: r).map StE) [] ((m ++ [tkGet x]).map Tk.e) else some (JnR jnZ false) := by
        rw [L_impl_ParseJoiner_0_eq, ltT (by omega), cond_true, inRT (by omega) (by omega), cond_true, hat]
        simp only [gn_c, gb_c, gs_c, gl_c, tk_s, tk_0, List.drop_succ_cons, List.drop_zero, List.headD_cons, List.getD_cons_zero, List.getD_cons_succ, bind_s, iParseTk x hx, pTk, TkR, len_map]
        rw [hml, fitT (by omega), tk_app, bifn]
        cases isTk x <;> rfl
      cases hp : isTk x with
      | true =>
        refine .inl ⟨m ++ [tkGet x], ?_, ?_, ?_⟩
        · show L_impl_ParseJoiner_0 _ _ _ _ _ _ _ _ _ _ _ _ _ _ _ = L_impl_ParseJoiner_0 _ _ _ _ _ _ _ _ _ _ _ _ _ _ _
          rw [step, hp]; rfl
        · rw [hI]; simp
        · simp only [List.all_cons, hp, Bool.true_and, List.map_cons, List.append_assoc, List.cons_append, List.nil_append]
      | false =>
        refine .inr ?_
        show L_impl_ParseJoiner_0 _ _ _ _ _ _ _ _ _ _ _ _ _ _ _ = _
        rw [step, hp]
        simp [hp]
    · show L_impl_ParseJoiner_0 _ _ _ _ _ _ _ _ _ _ _ _ _ _ _ = _
      have v := iValidJn ⟨r.map tkGet, num a, num b⟩ (by show szL Tk.sz (r.map tkGet) ≤ 1073741800; omega)
      simp only at v
      rw [L_impl_ParseJoiner_0_eq, ltF (Int.le_refl _), cond_false, hm]
      simp only [v, gn_c, gb_c, gs_c, gl_c, tk_s, tk_0, List.drop_succ_cons, List.drop_zero, List.headD_cons, List.getD_cons_zero, List.getD_cons_succ, bind_s, List.all_nil, cond_true, List.map_nil, List.append_nil]
      cases isN a
      · rfl
      · cases isN b
        · rfl
        · cases jnOk ⟨r.map tkGet, num a, num b⟩ <;> rfl
    · have hall : jnAll (a :: b :: r) = (isN a && (isN b && r.all isTk)) := rfl
      have hof : jnOf (a :: b :: r) = ⟨r.map tkGet, num a, num b⟩ := rfl
      rw [hall, hof, List.nil_append]
      cases isN a
      · cases r.all isTk <;> rfl
      · cases isN b
        · cases r.all isTk <;> rfl
        · cases r.all isTk
          · rfl
          · cases jnOk ⟨r.map tkGet, num a, num b⟩ <;> rfl
  · rw [ltT (by omega), pJn_short (by omega)]; rfl
theorem sParseJn (s : List UInt8) (hs : s.length ≤ 2097152) : callI tE f_spec_ParseJoiner [.str (S s)] = some (pJn s) := by
  have hc := cutL_len 47 s
  have hsub : ∀ x ∈ cutL 47 s, x.length ≤ 2097152 := fun x hx => Nat.le_trans (cutL_sub hx) hs
  rw [c_spec_ParseJoiner, show ((47 : Int)) = (((47 : UInt8).toNat : Nat) : Int) from rfl, sCut 47 s (by omega)]
  simp only [gn_c, gb_c, gs_c, gl_c, tk_s, tk_0, List.drop_succ_cons, List.drop_zero, List.headD_cons, List.getD_cons_zero, List.getD_cons_succ, bind_s, lenI_map]
  by_cases h2 : 2 ≤ (cutL 47 s).length
  · rw [ltF (by omega), cond_false]
    have hi := pJn_s s h2
    obtain ⟨a, b, r, hw⟩ := listTwo h2
    rw [hw] at hsub hi hc ⊢
    have hr : (a :: b :: r).length = r.length + 2 := rfl
    have g0 : at' ((a :: b :: r).map StE) (tn 0) = [.str (S a)] := rfl
    have g1 : at' ((a :: b :: r).map StE) (tn 1) = [.str (S b)] := rfl
    have ha := hsub a (by simp)
    have hb := hsub b (by simp)
    rw [hr] at hc ⊢
    rw [inRT (by omega) (by omega), cond_true, inRT (by omega) (by omega)]
    simp only [g0, g1, cond_true, gn_c, gb_c, gs_c, gl_c, tk_s, tk_0, List.drop_succ_cons, List.drop_zero, List.headD_cons, List.getD_cons_zero, List.getD_cons_succ, bind_s, sParseInt a (by omega), sParseInt b (by omega), pI_eq]
    rw [← hi]
    have hz := szTk_map r
    have key : ∀ (v u : List (List UInt8)), r = u ++ v → L_spec_ParseJoiner_0 (S s) 0 0 ((u.length + 2 : Nat) : Int) 0 0 ((a :: b :: r).map StE) (num a) (num b) [] ((u.map tkGet).map Tk.e) = some (bif !decide (txtJn ⟨r.map tkGet, num a, num b⟩ = s) then JnR jnZ false else JnR ⟨r.map tkGet, num a, num b⟩ true) := by
      intro v
      induction v with
      | nil =>
        intro u hu
        rw [List.append_nil] at hu
        subst hu
        have f := sFormatJn ⟨r.map tkGet, num a, num b⟩ (by show szL Tk.sz (r.map tkGet) ≤ 1073741800; omega)
        simp only at f
        rw [L_spec_ParseJoiner_0_eq, lenI_map, hr, ltF (Int.le_refl _), cond_false]
        simp only [f, gn_c, gb_c, gs_c, gl_c, tk_s, tk_0, List.drop_succ_cons, List.drop_zero, List.headD_cons, List.getD_cons_zero, List.getD_cons_succ, bind_s, eqS_S]
        cases decide (txtJn ⟨r.map tkGet, num a, num b⟩ = s) <;> rfl
      | cons x v ih =>
        intro u hu
        have hul : u.length < r.length := by rw [hu]; simp
        have hx := hsub x (by rw [hu]; simp)
        have hat : at' ((a :: b :: r).map StE) (tn ((u.length + 2 : Nat) : Int)) = [.str (S x)] := at_i (e := StE) (l := r) hu rfl
        have ih2 := ih (u ++ [x]) (by rw [hu]; simp)
        rw [L_spec_ParseJoiner_0_eq, lenI_map, hr, ltT (by omega), cond_true, inRT (by omega) (by omega), cond_true, hat]
        simp only [gn_c, gb_c, gs_c, gl_c, tk_s, tk_0, List.drop_succ_cons, List.drop_zero, List.headD_cons, List.getD_cons_zero, List.getD_cons_succ, bind_s, sParseTk x hx, pTk, TkR, len_map, List.length_map]
        rw [fitT (by omega), cond_true, tk_app, w64_s (by omega), show (u.map tkGet) ++ [tkGet x] = u.map tkGet ++ [x].map tkGet from rfl]
        rw [List.length_append, List.length_singleton, List.map_append] at ih2
        exact ih2
    exact key r [] rfl
  · rw [ltT (by omega), pJn_short (by omega)]; rfl
end Go.Proofs.YtbmafhpbinjgaaaGreat.Vai
namespace Go.Proofs.YtbmafhpbinjgaaaGreat.Vai
open Go
set_option linter.unusedSimpArgs false
set_option linter.unusedVariables false
set_option linter.unnecessarySimpa false
set_option maxRecDepth 10000
theorem rowSum_app (u v : List Gt) : rowSum (u ++ v) = rowSum u + rowSum v := by simp [rowSum]
theorem rowSum_le : ∀ l : List Gt, rowSum l ≤ szL Gt.sz l
  | [] => Nat.le_refl _
  | a :: l => by
    have := rowSum_le l
    simp only [rowSum, List.map_cons, List.sum_cons, szL, Gt.sz] at *
    omega
def Ag.B2 (j : Ag) : Prop := j.sz ≤ 1073741800
def gtOk (t : Gt) : Bool := aok t.rows && win t.level 0 4
theorem agOk_eq (a : Ag) : agOk a = (a.pend.all gtOk && (decide (a.pend.length ≤ 40) && (decide (rowSum a.pend ≤ 24) && win a.wr 0 100000))) := rfl
theorem iValidAg (j : Ag) (h : j.B2) : callI tE f_impl_IsValidAggregator [.sl (j.pend.map Gt.e), .int j.wr, .bool j.early] = some [.bool (agOk j)] := by
  have hl := szL_len Gt.sz j.pend
  have hL := rowSum_le j.pend
  have hsz : szL Gt.sz j.pend ≤ 1073741800 := h
  rw [c_impl_IsValidAggregator, agOk_eq, lenI_map]
  refine (zip_loop (l := j.pend) (L := fun (s : Nat) i => L_impl_IsValidAggregator_0 0 (s : Nat) (j.pend.map Gt.e) (j.pend.length : Nat) i (j.pend.map Gt.e) j.wr j.early) (F := fun s v => some [.bool (v.all gtOk && (decide (j.pend.length ≤ 40) && (decide (s + rowSum v ≤ 24) && win j.wr 0 100000)))]) (I := fun s u _ => s = rowSum u) (by omega) (fun u a v s e hI => ?_) (fun s hs => ?_) 0 rfl).trans ?_
  · have hul : u.length < j.pend.length := by rw [e]; simp
    have hat : at' (j.pend.map Gt.e) u.length = a.e := at_i e rfl
    have h1 : rowSum u + a.rows.length ≤ 1073741800 := by
      rw [e, rowSum_app] at hL; simp only [rowSum, List.map_cons, List.sum_cons] at hL ⊢; rw [e] at hsz; omega
    subst hI
    have step : L_impl_IsValidAggregator_0 0 (rowSum u : Nat) (j.pend.map Gt.e) (j.pend.length : Nat) (u.length : Nat) (j.pend.map Gt.e) j.wr j.early = bif gtOk a then L_impl_IsValidAggregator_0 0 ((rowSum u + a.rows.length : Nat) : Int) (j.pend.map Gt.e) (j.pend.length : Nat) (w64 (u.length + 1)) (j.pend.map Gt.e) j.wr j.early else some [.bool false] := by
      rw [L_impl_IsValidAggregator_0_eq, ltT (by omega), cond_true, lenI_map, inRT (by omega) (by omega), cond_true]
      simp only [tn_c, hat, Gt.e, gn_c, gb_c, gs_c, gl_c, tk_s, tk_0, List.drop_succ_cons, List.drop_zero, List.headD_cons, List.getD_cons_zero, List.getD_cons_succ, bind_s, iAreValid, within_ok, lenI_map]
      unfold gtOk
      rw [w64_id (n := (rowSum u : Int) + (a.rows.length : Int)) ⟨by omega, by omega⟩]
      cases aok a.rows
      · rfl
      · cases win a.level 0 4 <;> rfl
    cases hp : gtOk a with
    | true =>
      refine .inl ⟨rowSum u + a.rows.length, ?_, ?_, ?_⟩
      · show L_impl_IsValidAggregator_0 _ _ _ _ _ _ _ _ = L_impl_IsValidAggregator_0 _ _ _ _ _ _ _ _
        rw [step, hp]; rfl
      · rw [rowSum_app]; simp [rowSum]
      · simp only [List.all_cons, hp, Bool.true_and, rowSum, List.map_cons, List.sum_cons, Nat.add_assoc]
    | false =>
      refine .inr ?_
      show L_impl_IsValidAggregator_0 _ _ _ _ _ _ _ _ = _
      rw [step, hp]
      simp [hp]
  · show L_impl_IsValidAggregator_0 _ _ _ _ _ _ _ _ = _
    subst hs
    rw [L_impl_IsValidAggregator_0_eq, ltF (Int.le_refl _), cond_false, lenI_map, leN24, leN40]
    simp only [within_ok, gn_c, gb_c, gs_c, gl_c, tk_s, tk_0, List.drop_succ_cons, List.drop_zero, List.headD_cons, List.getD_cons_zero, List.getD_cons_succ, bind_s, List.all_nil, Bool.true_and, show rowSum [] = 0 from rfl, Nat.add_zero]
    cases decide (j.pend.length ≤ 40)
    · rfl
    · cases decide (rowSum j.pend ≤ 24) <;> rfl
  · simp only [Nat.zero_add]
theorem sValidAg (j : Ag) (h : j.B2) : callI tE f_spec_IsValidAggregator [.sl (j.pend.map Gt.e), .int j.wr, .bool j.early] = some [.bool (agOk j)] := by
  have hl := szL_len Gt.sz j.pend
  have hL := rowSum_le j.pend
  have hsz : szL Gt.sz j.pend ≤ 1073741800 := h
  rw [c_spec_IsValidAggregator, agOk_eq]
  refine (zip_loop (l := j.pend) (L := fun (s : Nat) i => L_spec_IsValidAggregator_0 0 (s : Nat) i (j.pend.map Gt.e) j.wr j.early) (F := fun s v => some [.bool (v.all gtOk && (decide (s + rowSum v ≤ 24) && (decide (j.pend.length ≤ 40) && win j.wr 0 100000)))]) (I := fun s u _ => s = rowSum u) (by omega) (fun u a v s e hI => ?_) (fun s hs => ?_) 0 rfl).trans ?_
  · have hul : u.length < j.pend.length := by rw [e]; simp
    have hat : at' (j.pend.map Gt.e) u.length = a.e := at_i e rfl
    have hasz : a.rows.length ≤ 1073741824 := Nat.le_trans (szL_mem (f := Gt.sz) (show a ∈ j.pend by rw [e]; simp)) (by omega)
    have h1 : rowSum u + a.rows.length ≤ 1073741800 := by
      rw [e, rowSum_app] at hL; simp only [rowSum, List.map_cons, List.sum_cons] at hL ⊢; rw [e] at hsz; omega
    subst hI
    have step : L_spec_IsValidAggregator_0 0 (rowSum u : Nat) (u.length : Nat) (j.pend.map Gt.e) j.wr j.early = bif gtOk a then L_spec_IsValidAggregator_0 0 ((rowSum u + a.rows.length : Nat) : Int) (w64 (u.length + 1)) (j.pend.map Gt.e) j.wr j.early else some [.bool false] := by
      rw [L_spec_IsValidAggregator_0_eq, lenI_map, ltT (by omega), cond_true, inRT (by omega) (by omega), cond_true]
      simp only [tn_c, hat, Gt.e, gn_c, gb_c, gs_c, gl_c, tk_s, tk_0, List.drop_succ_cons, List.drop_zero, List.headD_cons, List.getD_cons_zero, List.getD_cons_succ, bind_s, sAreValid a.rows (show a.rows.length < 4611686018427387904 by omega), l1In_ok, lenI_map, cond_true]
      unfold gtOk
      rw [w64_id (n := (rowSum u : Int) + (a.rows.length : Int)) ⟨by omega, by omega⟩]
      cases aok a.rows
      · rfl
      · cases win a.level 0 4 <;> rfl
    cases hp : gtOk a with
    | true =>
      refine .inl ⟨rowSum u + a.rows.length, ?_, ?_, ?_⟩
      · show L_spec_IsValidAggregator_0 _ _ _ _ _ _ = L_spec_IsValidAggregator_0 _ _ _ _ _ _
        rw [step, hp]; rfl
      · rw [rowSum_app]; simp [rowSum]
      · simp only [List.all_cons, hp, Bool.true_and, rowSum, List.map_cons, List.sum_cons, Nat.add_assoc]
    | false =>
      refine .inr ?_
      show L_spec_IsValidAggregator_0 _ _ _ _ _ _ = _
      rw [step, hp]
      simp [hp]
  · show L_spec_IsValidAggregator_0 _ _ _ _ _ _ = _
    subst hs
    rw [L_spec_IsValidAggregator_0_eq, lenI_map, ltF (Int.le_refl _), cond_false, leN24, leN40]
    simp only [l1In_ok, gn_c, gb_c, gs_c, gl_c, tk_s, tk_0, List.drop_succ_cons, List.drop_zero, List.headD_cons, List.getD_cons_zero, List.getD_cons_succ, bind_s, List.all_nil, Bool.true_and, show rowSum [] = 0 from rfl, Nat.add_zero]
    cases decide (rowSum j.pend ≤ 24)
    · rfl
    · cases decide (j.pend.length ≤ 40) <;> rfl
  · simp only [Nat.zero_add]
    cases j.pend.all gtOk <;> cases decide (rowSum j.pend ≤ 24) <;> cases decide (j.pend.length ≤ 40) <;> rfl
theorem ag_small {j : Ag} (h : agOk j = true) : I64 j.wr ∧ j.pend.length ≤ 40 ∧ (∀ t ∈ j.pend, aok t.rows = true ∧ I64 t.level) := by
  obtain ⟨h1, h2, h3, h4, h5⟩ := agOk_p h
  exact ⟨⟨by omega, by omega⟩, h2, fun t ht => ⟨(h1 t ht).1, ⟨by have := (h1 t ht).2; omega, by have := (h1 t ht).2; omega⟩⟩⟩
theorem fmtGt_len {t : Gt} (h : I64 t.level) : (fmtGt t).length ≤ 1600 := by
  have a1 := fmt_len h
  have a2 := fmtRs_len t.rows
  rw [fmtGt_eq]
  simp only [List.length_append, List.length_cons, List.length_nil]
  omega
theorem boTx_len (b : Bool) : (boTx b).length = 1 := by cases b <;> rfl
theorem agFs_le {j : Ag} (h : agOk j = true) : ∀ x ∈ agFs j, x.length ≤ 1600 := fun x hx => by
  obtain ⟨i1, _, h4⟩ := ag_small h
  have a1 := fmt_len i1
  simp only [agFs, List.mem_cons] at hx
  rcases hx with rfl | rfl | hx
  · omega
  · rw [boTx_len]; omega
  · obtain ⟨t, ht, rfl⟩ := List.mem_map.mp hx
    exact fmtGt_len (h4 t ht).2
theorem agPre_le {j : Ag} (h : agOk j = true) {u v : List Gt} (e : j.pend = u ++ v) : (joinL [47] (fmt j.wr :: boTx j.early :: u.map fmtGt)).length ≤ 67242 := by
  have hle : ∀ x ∈ (fmt j.wr :: boTx j.early :: u.map fmtGt), x.length ≤ 1600 := fun x hx => agFs_le h x (by
    simp only [agFs, List.mem_cons] at hx ⊢
    rcases hx with hx | hx | hx
    · exact .inl hx
    · exact .inr (.inl hx)
    · obtain ⟨t, ht2, rfl⟩ := List.mem_map.mp hx
      exact .inr (.inr (List.mem_map.mpr ⟨t, by rw [e]; simp [ht2], rfl⟩)))
  have := joinL_le' (b := 47) hle
  have h2 := (ag_small h).2.1
  rw [e, List.length_append] at h2
  simp only [List.length_cons, List.length_map] at this
  omega
theorem fmtAg_len {j : Ag} (h : agOk j = true) : (fmtAg j).length ≤ 67242 := agPre_le h (u := j.pend) (v := []) (by simp)
theorem joinL_two (x y : List UInt8) : joinL [47] [x, y] = x ++ [47] ++ y := by simp [joinL]
theorem sFormatAg (j : Ag) (h : j.B2) : callI tE f_spec_FormatAggregator [.sl (j.pend.map Gt.e), .int j.wr, .bool j.early] = some [.str (S (txtAg j))] := by
  rw [c_spec_FormatAggregator, sValidAg j h]
  simp only [gn_c, gb_c, gs_c, gl_c, tk_s, tk_0, List.drop_succ_cons, List.drop_zero, List.headD_cons, List.getD_cons_zero, List.getD_cons_succ, bind_s]
  unfold txtAg
  by_cases hv : agOk j = true
  · rw [hv, if_pos rfl, Bool.not_true, cond_false]
    obtain ⟨i1, l1, ht⟩ := ag_small hv
    have a1 := fmt_len i1
    have key : L_spec_FormatAggregator_0 0 (S (joinL [47] [fmt j.wr, boTx j.early])) 0 (j.pend.map Gt.e) j.wr j.early = some [.str (S (fmtAg j))] := by
      refine zip_loop (l := j.pend) (L := fun (m : List UInt8) i => L_spec_FormatAggregator_0 0 (S m) i (j.pend.map Gt.e) j.wr j.early) (F := fun _ _ => some [.str (S (fmtAg j))]) (I := fun m u _ => m = joinL [47] (fmt j.wr :: boTx j.early :: u.map fmtGt)) (by omega) (fun u a v m e hI => ?_) (fun m hm => ?_) _ rfl
      · refine .inl ⟨joinL [47] (fmt j.wr :: boTx j.early :: (u ++ [a]).map fmtGt), ?_, rfl, rfl⟩
        have hul : u.length < j.pend.length := by rw [e]; simp
        have hat : at' (j.pend.map Gt.e) u.length = a.e := at_i e rfl
        have hta := ht a (by rw [e]; simp)
        have hml := agPre_le hv e
        rw [← hI] at hml
        have b1 := fmt_len hta.2
        have b2 := fmtRs_len a.rows
        have hrl : a.rows.length < 1099511627776 := by have := aok_len hta.1; omega
        show L_spec_FormatAggregator_0 _ _ _ _ _ _ = L_spec_FormatAggregator_0 _ _ _ _ _ _
        rw [L_spec_FormatAggregator_0_eq, lenI_map, ltT (by omega), cond_true, inRT (by omega) (by omega)]
        simp only [tn_c, hat, Gt.e, gn_c, gb_c, gs_c, gl_c, tk_s, tk_0, List.drop_succ_cons, List.drop_zero, List.headD_cons, List.getD_cons_zero, List.getD_cons_succ, bind_s, sFormatInt_ok hta.2, sFormatRows a.rows hrl, S_app, cond_true]
        iterate 4 rw [fitS_S (by simp only [List.length_append, List.length_cons, List.length_nil]; omega), cond_true]
        have hj := joinL_snoc [47] (fmt j.wr :: boTx j.early :: u.map fmtGt) (fmtGt a) (by simp)
        rw [← hI, fmtGt_eq] at hj
        rw [List.map_append, List.map_cons, List.map_nil, ← List.cons_append, ← List.cons_append, fmtGt_eq, hj]
        simp only [List.append_assoc]
      · show L_spec_FormatAggregator_0 _ _ _ _ _ _ = _
        rw [L_spec_FormatAggregator_0_eq, lenI_map, ltF (Int.le_refl _), cond_false, hm]
        rfl
    rw [joinL_two] at key
    simp only [sFormatInt_ok i1, gn_c, gb_c, gs_c, gl_c, tk_s, tk_0, List.drop_succ_cons, List.drop_zero, List.headD_cons, List.getD_cons_zero, List.getD_cons_succ, bind_s, S_app]
    rw [fitS_S (by simp; omega), cond_true]
    cases he : j.early
    · rw [he] at key
      rw [cond_false]
      simp only [boTx, List.append_assoc] at key ⊢
      exact key
    · rw [he] at key
      rw [cond_true, fitS_S (by simp; omega), cond_true]
      simp only [boTx, List.append_assoc] at key ⊢
      exact key
  · rw [if_neg hv, (Bool.not_eq_true _).mp hv]; rfl
theorem gt_app (l : List Gt) (t : Gt) : List.append (l.map Gt.e) [[.sl (t.rows.map Rw.e), .int t.level]] = (l ++ [t]).map Gt.e := app_map Gt.e l t
theorem szGt_map (r : List (List UInt8)) : szL Gt.sz (r.map gtGet) ≤ 25 * r.length := by
  induction r with
  | nil => exact Nat.le_refl _
  | cons a r ih =>
    have := rowsOf_len ((cutL 59 a).getD 1 [])
    have h2 : Gt.sz (gtGet a) = (rowsOf ((cutL 59 a).getD 1 [])).length := rfl
    simp only [List.map_cons, szL, List.length_cons]
    omega
theorem iParseAg (s : List UInt8) (hs : s.length ≤ 2097152) : callI tE f_impl_ParseAggregator [.str (S s)] = some (pAg s) := by
  have hc := cutL_len 47 s
  have hsub : ∀ x ∈ cutL 47 s, x.length ≤ 2097152 := fun x hx => Nat.le_trans (cutL_sub hx) hs
  rw [c_impl_ParseAggregator, show ((47 : Int)) = (((47 : UInt8).toNat : Nat) : Int) from rfl, iCut 47 s (by omega)]
  simp only [gn_c, gb_c, gs_c, gl_c, tk_s, tk_0, List.drop_succ_cons, List.drop_zero, List.headD_cons, List.getD_cons_zero, List.getD_cons_succ, bind_s, lenI_map]
  by_cases h2 : 2 ≤ (cutL 47 s).length
  · rw [ltF (by omega), cond_false]
    have hi := pAg_i s h2
    obtain ⟨a, b, r, hw⟩ := listTwo h2
    rw [hw] at hsub hi hc ⊢
    have hr : (a :: b :: r).length = r.length + 2 := rfl
    have g0 : at' ((a :: b :: r).map StE) (tn 0) = [.str (S a)] := rfl
    have g1 : at' ((a :: b :: r).map StE) (tn 1) = [.str (S b)] := rfl
    have ha := hsub a (by simp)
    rw [hr] at hc ⊢
    rw [inRT (by omega) (by omega), inRT (by omega) (by omega), leT (by omega), leT (by omega)]
    simp only [g0, g1, cond_true, gn_c, gb_c, gs_c, gl_c, tk_s, tk_0, List.drop_succ_cons, List.drop_zero, List.headD_cons, List.getD_cons_zero, List.getD_cons_succ, bind_s, iParseInt a (by omega), pI_eq, Bool.and_self, eqS_S]
    have e2 : (((r.length + 2 : Nat) : Int)) - 2 = (r.length : Nat) := by omega
    rw [e2, ← hi]
    have hz := szGt_map r
    have hall : agAll (a :: b :: r) = (isN a && ((decide (b = [48]) || decide (b = [49])) && r.all isGt)) := rfl
    have hof : agOf (a :: b :: r) = ⟨r.map gtGet, num a, decide (b = [49])⟩ := rfl
    rw [hall, hof]
    have key : L_impl_ParseAggregator_0 0 (isN a) 0 2 (r.length : Nat) (r.length : Nat) 0 0 false (num a) (decide (b = [49])) ((a :: b :: r).map StE) [] [] = some (bif isN a && r.all isGt && agOk ⟨r.map gtGet, num a, decide (b = [49])⟩ then AgR ⟨r.map gtGet, num a, decide (b = [49])⟩ true else AgR agZ false) := by
      refine (zip_loop (l := r) (L := fun (m : List Gt) i => L_impl_ParseAggregator_0 0 (isN a) 0 2 (r.length : Nat) (r.length : Nat) i 0 false (num a) (decide (b = [49])) ((a :: b :: r).map StE) [] (m.map Gt.e)) (F := fun m v => bif v.all isGt then (bif isN a && agOk ⟨m ++ v.map gtGet, num a, decide (b = [49])⟩ then some (AgR ⟨m ++ v.map gtGet, num a, decide (b = [49])⟩ true) else some (AgR agZ false)) else some (AgR agZ false)) (I := fun m u _ => m = u.map gtGet) (by omega) (fun u x v m e hI => ?_) (fun m hm => ?_) [] rfl).trans ?_
      · have hul : u.length < r.length := by rw [e]; simp
        have hx := hsub x (by rw [e]; simp)
        have hat : at' ((a :: b :: r).map StE) (tn (2 + (u.length : Int))) = [.str (S x)] := by rw [two_at]; exact at_i e rfl
        have hml : m.length = u.length := by rw [hI]; simp
        have step : L_impl_ParseAggregator_0 0 (isN a) 0 2 (r.length : Nat) (r.length : Nat) (u.length : Nat) 0 false (num a) (decide (b = [49])) ((a :: b :: r).map StE) [] (m.map Gt.e) = bif isGt x then L_impl_ParseAggregator_0 0 (isN a) 0 2 (r.length : Nat) (r.length : Nat) (w64 (u.length + 1)) 0 false (num a) (decide (b = [49])) ((a :: b :: r).map StE) [] ((m ++ [gtGet x]).map Gt.e) else some (AgR agZ false) := by
          rw [L_impl_ParseAggregator_0_eq, ltT (by omega), cond_true, inRT (by omega) (by omega), cond_true, hat]
          have hxs : ∀ y ∈ cutL 59 x, y.length ≤ 2097152 := fun y hy => Nat.le_trans (cutL_sub hy) hx
          simp only [gn_c, gb_c, gs_c, gl_c, tk_s, tk_0, List.drop_succ_cons, List.drop_zero, List.headD_cons, List.getD_cons_zero, List.getD_cons_succ, bind_s]
          rw [show ((59 : Int)) = (((59 : UInt8).toNat : Nat) : Int) from rfl, iCut 59 x (by omega)]
          simp only [gn_c, gb_c, gs_c, gl_c, tk_s, tk_0, List.drop_succ_cons, List.drop_zero, List.headD_cons, List.getD_cons_zero, List.getD_cons_succ, bind_s]
          rw [show eqI (lenI ((cutL 59 x).map StE)) 2 = decide ((cutL 59 x).length = 2) from eqI_len StE _ 2]
          unfold isGt gtTwo gtGet
          by_cases hq : (cutL 59 x).length = 2
          · rw [decide_eq_true hq]
            obtain ⟨p, q, hpq⟩ := list2 hq
            rw [hpq] at hxs ⊢
            have j0 : inR 0 (lenI ([p, q].map StE)) = true := rfl
            have j1 : inR 1 (lenI ([p, q].map StE)) = true := rfl
            have k0 : at' ([p, q].map StE) (tn 0) = [.str (S p)] := rfl
            have k1 : at' ([p, q].map StE) (tn 1) = [.str (S q)] := rfl
            have hp := hxs p (by simp)
            have hqq := hxs q (by simp)
            simp only [j0, j1, k0, k1, gn_c, gb_c, gs_c, gl_c, tk_s, tk_0, List.drop_succ_cons, List.drop_zero, List.headD_cons, List.getD_cons_zero, List.getD_cons_succ, bind_s, cond_true, Bool.not_true, cond_false, Bool.true_and, iParseInt p (by omega), pI_eq, iParseRows q (by omega), pRs_eq, len_map]
            rw [hml, fitT (by omega), gt_app _ ⟨rowsOf q, num p⟩]
            show _ = bif isN p && isR q then _ else _
            cases isN p
            · rfl
            · cases isR q <;> rfl
          · rw [decide_eq_false hq]; rfl
        cases hp : isGt x with
        | true =>
          refine .inl ⟨m ++ [gtGet x], ?_, ?_, ?_⟩
          · show L_impl_ParseAggregator_0 _ _ _ _ _ _ _ _ _ _ _ _ _ _ = L_impl_ParseAggregator_0 _ _ _ _ _ _ _ _ _ _ _ _ _ _
            rw [step, hp]; rfl
          · rw [hI]; simp
          · simp only [List.all_cons, hp, Bool.true_and, List.map_cons, List.append_assoc, List.cons_append, List.nil_append]
        | false =>
          refine .inr ?_
          show L_impl_ParseAggregator_0 _ _ _ _ _ _ _ _ _ _ _ _ _ _ = _
          rw [step, hp]
          simp [hp]
      · show L_impl_ParseAggregator_0 _ _ _ _ _ _ _ _ _ _ _ _ _ _ = _
        have v := iValidAg ⟨r.map gtGet, num a, decide (b = [49])⟩ (by show szL Gt.sz (r.map gtGet) ≤ 1073741800; omega)
        simp only at v
        rw [L_impl_ParseAggregator_0_eq, ltF (Int.le_refl _), cond_false, hm]
        simp only [v, gn_c, gb_c, gs_c, gl_c, tk_s, tk_0, List.drop_succ_cons, List.drop_zero, List.headD_cons, List.getD_cons_zero, List.getD_cons_succ, bind_s, List.all_nil, cond_true, List.map_nil, List.append_nil]
        cases isN a
        · rfl
        · cases agOk ⟨r.map gtGet, num a, decide (b = [49])⟩ <;> rfl
      · rw [List.nil_append]
        cases isN a
        · cases r.all isGt <;> rfl
        · cases r.all isGt
          · rfl
          · cases agOk ⟨r.map gtGet, num a, decide (b = [49])⟩ <;> rfl
    rw [key]
    by_cases hb1 : b = [48]
    · rw [decide_eq_true hb1]
      simp only [Bool.not_true, cond_false, Bool.true_or, Bool.true_and]
    · rw [decide_eq_false hb1]
      by_cases hb2 : b = [49]
      · rw [decide_eq_true hb2]
        simp only [Bool.not_true, Bool.not_false, cond_false, cond_true, Bool.or_true, Bool.true_and]
      · rw [decide_eq_false hb2]
        cases isN a <;> rfl
  · rw [ltT (by omega), pAg_short (by omega)]; rfl
theorem sParseAg (s : List UInt8) (hs : s.length ≤ 2097152) : callI tE f_spec_ParseAggregator [.str (S s)] = some (pAg s) := by
  have hc := cutL_len 47 s
  have hsub : ∀ x ∈ cutL 47 s, x.length ≤ 2097152 := fun x hx => Nat.le_trans (cutL_sub hx) hs
  rw [c_spec_ParseAggregator, show ((47 : Int)) = (((47 : UInt8).toNat : Nat) : Int) from rfl, sCut 47 s (by omega)]
  simp only [gn_c, gb_c, gs_c, gl_c, tk_s, tk_0, List.drop_succ_cons, List.drop_zero, List.headD_cons, List.getD_cons_zero, List.getD_cons_succ, bind_s, lenI_map]
  by_cases h2 : 2 ≤ (cutL 47 s).length
  · rw [ltF (by omega), cond_false]
    have hi := pAg_s s h2
    obtain ⟨a, b, r, hw⟩ := listTwo h2
    rw [hw] at hsub hi hc ⊢
    have hr : (a :: b :: r).length = r.length + 2 := rfl
    have g0 : at' ((a :: b :: r).map StE) (tn 0) = [.str (S a)] := rfl
    have g1 : at' ((a :: b :: r).map StE) (tn 1) = [.str (S b)] := rfl
    have ha := hsub a (by simp)
    rw [hr] at hc ⊢
    rw [inRT (by omega) (by omega), cond_true, inRT (by omega) (by omega)]
    simp only [g0, g1, cond_true, gn_c, gb_c, gs_c, gl_c, tk_s, tk_0, List.drop_succ_cons, List.drop_zero, List.headD_cons, List.getD_cons_zero, List.getD_cons_succ, bind_s, sParseInt a (by omega), pI_eq, eqS_S]
    rw [← hi]
    have hz := szGt_map r
    have hof : agOf (a :: b :: r) = ⟨r.map gtGet, num a, decide (b = [49])⟩ := rfl
    have htl : (a :: b :: r).tail.tail = r := rfl
    rw [hof, htl]
    have key : ∀ (v u : List (List UInt8)), r = u ++ v → L_spec_ParseAggregator_0 (S s) 0 0 ((u.length + 2 : Nat) : Int) 0 false ((a :: b :: r).map StE) (num a) (decide (b = [49])) [] ((u.map gtGet).map Gt.e) = some (bif v.all gtTwo && decide (txtAg ⟨r.map gtGet, num a, decide (b = [49])⟩ = s) then AgR ⟨r.map gtGet, num a, decide (b = [49])⟩ true else AgR agZ false) := by
      intro v
      induction v with
      | nil =>
        intro u hu
        rw [List.append_nil] at hu
        subst hu
        have f := sFormatAg ⟨r.map gtGet, num a, decide (b = [49])⟩ (by show szL Gt.sz (r.map gtGet) ≤ 1073741800; omega)
        simp only at f
        rw [L_spec_ParseAggregator_0_eq, lenI_map, hr, ltF (Int.le_refl _), cond_false]
        simp only [f, gn_c, gb_c, gs_c, gl_c, tk_s, tk_0, List.drop_succ_cons, List.drop_zero, List.headD_cons, List.getD_cons_zero, List.getD_cons_succ, bind_s, eqS_S, List.all_nil, Bool.true_and]
        cases decide (txtAg ⟨r.map gtGet, num a, decide (b = [49])⟩ = s) <;> rfl
      | cons x v ih =>
        intro u hu
        have hul : u.length < r.length := by rw [hu]; simp
        have hx := hsub x (by rw [hu]; simp)
        have hat : at' ((a :: b :: r).map StE) (tn ((u.length + 2 : Nat) : Int)) = [.str (S x)] := at_i (e := StE) (l := r) hu rfl
        have ih2 := ih (u ++ [x]) (by rw [hu]; simp)
        rw [List.length_append, List.length_singleton, List.map_append] at ih2
        have hxs : ∀ y ∈ cutL 59 x, y.length ≤ 2097152 := fun y hy => Nat.le_trans (cutL_sub hy) hx
        rw [L_spec_ParseAggregator_0_eq, lenI_map, hr, ltT (by omega), cond_true, inRT (by omega) (by omega), cond_true, hat]
        simp only [gn_c, gb_c, gs_c, gl_c, tk_s, tk_0, List.drop_succ_cons, List.drop_zero, List.headD_cons, List.getD_cons_zero, List.getD_cons_succ, bind_s]
        rw [show ((59 : Int)) = (((59 : UInt8).toNat : Nat) : Int) from rfl, sCut 59 x (by omega)]
        simp only [gn_c, gb_c, gs_c, gl_c, tk_s, tk_0, List.drop_succ_cons, List.drop_zero, List.headD_cons, List.getD_cons_zero, List.getD_cons_succ, bind_s]
        rw [show eqI (lenI ((cutL 59 x).map StE)) 2 = decide ((cutL 59 x).length = 2) from eqI_len StE _ 2, List.all_cons]
        have h2d : gtTwo x = decide ((cutL 59 x).length = 2) := rfl
        rw [h2d]
        by_cases hq : (cutL 59 x).length = 2
        · rw [decide_eq_true hq]
          have hg : gtGet x = ⟨rowsOf ((cutL 59 x).getD 1 []), num ((cutL 59 x).getD 0 [])⟩ := rfl
          obtain ⟨p, q, hpq⟩ := list2 hq
          rw [hpq] at hxs hg ⊢
          have j0 : inR 0 (lenI ([p, q].map StE)) = true := rfl
          have j1 : inR 1 (lenI ([p, q].map StE)) = true := rfl
          have k0 : at' ([p, q].map StE) (tn 0) = [.str (S p)] := rfl
          have k1 : at' ([p, q].map StE) (tn 1) = [.str (S q)] := rfl
          have hp := hxs p (by simp)
          have hqq := hxs q (by simp)
          have hg : gtGet x = ⟨rowsOf q, num p⟩ := hg
          simp only [j0, j1, k0, k1, gn_c, gb_c, gs_c, gl_c, tk_s, tk_0, List.drop_succ_cons, List.drop_zero, List.headD_cons, List.getD_cons_zero, List.getD_cons_succ, bind_s, cond_true, Bool.not_true, cond_false, Bool.true_and, sParseInt p (by omega), pI_eq, sParseRows q (show q.length < 1073741824 by omega), pRs_eq, len_map, List.length_map]
          rw [fitT (by omega), cond_true, gt_app _ ⟨rowsOf q, num p⟩, ← hg, w64_s (by omega)]
          exact ih2
        · rw [decide_eq_false hq]; rfl
    exact key r [] rfl
  · rw [ltT (by omega), pAg_short (by omega)]; rfl
end Go.Proofs.YtbmafhpbinjgaaaGreat.Vai
namespace Go.Proofs.YtbmafhpbinjgaaaGreat.Vai
open Go
set_option linter.unusedSimpArgs false
set_option linter.unusedVariables false
set_option linter.unnecessarySimpa false
set_option maxRecDepth 10000
noncomputable def soGet (s : List UInt8) : So := (parseSo s).getD soZ
noncomputable def isSo (s : List UInt8) : Bool := (parseSo s).isSome
theorem pSo_eq (s : List UInt8) : pSo s = SoR (soGet s) (isSo s) := by
  unfold pSo soGet isSo
  cases parseSo s <;> rfl
theorem parseSo_of {s : List UInt8} {x : So} (h : parseSo s = some x) : x = soOf (cutL 47 s) := by
  obtain ⟨h1, h2⟩ := parseSo_some.mp h
  rw [← h2, fmtSo_cut]
  exact (soOf_fs h1).1.symm
theorem soOf_sz' (s : List UInt8) (hs : s.length ≤ 2097152) : (soOf (cutL 47 s)).sz ≤ 100000000 := by
  have g : ∀ i, ((cutL 47 s).getD i []).length ≤ 2097152 := fun i => by
    by_cases hi : i < (cutL 47 s).length
    · have : (cutL 47 s).getD i [] ∈ cutL 47 s := by
        rw [List.getD_eq_getElem?_getD, List.getElem?_eq_getElem hi]
        exact List.getElem_mem hi
      exact Nat.le_trans (cutL_sub this) hs
    · rw [List.getD_eq_getElem?_getD, List.getElem?_eq_none (by omega)]
      simp
  have a0 := rowsOf_len ((cutL 47 s).getD 0 [])
  have a2 := rowsOf_len ((cutL 47 s).getD 2 [])
  have a3 := rowsOf_len ((cutL 47 s).getD 3 [])
  have a4 := rowsOf_len ((cutL 47 s).getD 4 [])
  have a5 := runsOf_sz ((cutL 47 s).getD 5 [])
  have g5 := g 5
  simp only [So.sz, soOf]
  omega
theorem soGet_p (s : List UInt8) (hs : s.length ≤ 2097152) : (soGet s).sz ≤ 100000000 ∧ (soGet s).nb ∧ (soGet s).wr < 1000000000 := by
  unfold soGet
  cases hp : parseSo s with
  | none =>
    have z : I64 0 := ⟨by decide, by decide⟩
    exact ⟨by decide, ⟨z, z, z, z, z⟩, by decide⟩
  | some x =>
    have := parseSo_of hp
    subst this
    exact ⟨soOf_sz' s hs, soOf_nb _, soOf_wr _⟩
end Go.Proofs.YtbmafhpbinjgaaaGreat.Vai
namespace Go.Proofs.YtbmafhpbinjgaaaGreat.Vai
open Go
set_option linter.unusedSimpArgs false
set_option linter.unusedVariables false
set_option linter.unnecessarySimpa false
set_option maxRecDepth 10000
def pre (c : UInt8) (s : List UInt8) : List UInt8 := if s = [] then [] else c :: s
def txtOp (o : Opr) : List UInt8 := if o.kind = 1 then pre 115 (txtSo o.so) else if o.kind = 2 then pre 106 (txtJn o.jn) else if o.kind = 3 then pre 103 (txtAg o.ag) else []
theorem pre_ok {c : UInt8} {s : List UInt8} (h : s.length ≤ 9223372036854775806) : (bif (eqS (S s) (S [])) then (some [Dat.str (S [])]) else (bif (fitS (S [c]) (S s)) then (some [.str ((S [c]) ++ (S s))]) else none)) = some [.str (S (pre c s))] := by
  rw [eqS_S, fitS_S (by simp; omega), S_app]
  unfold pre
  by_cases hs : s = []
  · rw [decide_eq_true hs, if_pos hs]; rfl
  · rw [decide_eq_false hs, if_neg hs]; rfl
theorem txtSo_len {s : So} (h : s.B2) (hb : s.nb) : (txtSo s).length ≤ 9223372036854775806 := by
  have h1 := fmtSo_len s hb h.b.p.2.2.2.2
  unfold txtSo
  split
  · omega
  · simp
theorem txtJn_len (j : Jn) : (txtJn j).length ≤ 134442 := by
  unfold txtJn
  split
  · rename_i h; exact fmtJn_len h
  · simp
theorem txtAg_len (j : Ag) : (txtAg j).length ≤ 67242 := by
  unfold txtAg
  split
  · rename_i h; exact fmtAg_len h
  · simp
def Opr.B2 (o : Opr) : Prop := o.sz ≤ 1073741800
theorem Opr.B2.p {o : Opr} (h : o.B2) : o.so.B2 ∧ o.jn.B2 ∧ o.ag.B2 := by
  simp only [Opr.B2, Opr.sz, So.B2, Jn.B2, Ag.B2] at *
  omega
theorem sFormatOp (o : Opr) (h : o.B2) (hb : o.so.nb) : callI tE f_spec_FormatOp o.e = some [.str (S (txtOp o))] := by
  obtain ⟨h1, h2, h3⟩ := h.p
  show callI tE f_spec_FormatOp [.int o.kind, .sl (o.so.inp.map Rw.e), .int o.so.pos, .sl (o.so.heap.map Rw.e), .sl (o.so.dfd.map Rw.e), .sl (o.so.out.map Rw.e), .sl (o.so.runs.map rsE), .int o.so.lp, .int o.so.rp, .int o.so.ph, .int o.so.wr, .sl (o.jn.pend.map Tk.e), .int o.jn.wr, .int o.jn.parts, .sl (o.ag.pend.map Gt.e), .int o.ag.wr, .bool o.ag.early] = _
  rw [c_spec_FormatOp, sFormatSo o.so h1 hb, sFormatJn o.jn h2, sFormatAg o.ag h3]
  simp only [bind_s, gs_c]
  rw [pre_ok (txtSo_len h1 hb), pre_ok (by have := txtJn_len o.jn; omega), pre_ok (by have := txtAg_len o.ag; omega)]
  unfold txtOp
  by_cases k1 : o.kind = 1
  · rw [eqT k1, if_pos k1]; rfl
  · rw [eqF k1, if_neg k1, cond_false]
    by_cases k2 : o.kind = 2
    · rw [eqT k2, if_pos k2]; rfl
    · rw [eqF k2, if_neg k2, cond_false]
      by_cases k3 : o.kind = 3
      · rw [eqT k3, if_pos k3]; rfl
      · rw [eqF k3, if_neg k3, cond_false, eqS_S]; rfl
def opZ : Opr := ⟨0, soZ, jnZ, agZ⟩
def OpR (x : Opr) (b : Bool) : List Dat := [.int x.kind, .sl (x.so.inp.map Rw.e), .int x.so.pos, .sl (x.so.heap.map Rw.e), .sl (x.so.dfd.map Rw.e), .sl (x.so.out.map Rw.e), .sl (x.so.runs.map rsE), .int x.so.lp, .int x.so.rp, .int x.so.ph, .int x.so.wr, .sl (x.jn.pend.map Tk.e), .int x.jn.wr, .int x.jn.parts, .sl (x.ag.pend.map Gt.e), .int x.ag.wr, .bool x.ag.early, .bool b]
noncomputable def opGet (s : List UInt8) : Opr := match s with
  | [] => opZ
  | c :: r => if c = 115 then (bif isSo r then ⟨1, soGet r, jnZ, agZ⟩ else opZ) else if c = 106 then (bif isJn r then ⟨2, soZ, jnGet r, agZ⟩ else opZ) else if c = 103 then (bif isAg r then ⟨3, soZ, jnZ, agGet r⟩ else opZ) else opZ
noncomputable def isOp (s : List UInt8) : Bool := match s with
  | [] => false
  | c :: r => if c = 115 then isSo r else if c = 106 then isJn r else if c = 103 then isAg r else false
theorem opGet_c (c : UInt8) (r : List UInt8) : opGet (c :: r) = if c = 115 then (bif isSo r then ⟨1, soGet r, jnZ, agZ⟩ else opZ) else if c = 106 then (bif isJn r then ⟨2, soZ, jnGet r, agZ⟩ else opZ) else if c = 103 then (bif isAg r then ⟨3, soZ, jnZ, agGet r⟩ else opZ) else opZ := rfl
theorem isOp_c (c : UInt8) (r : List UInt8) : isOp (c :: r) = if c = 115 then isSo r else if c = 106 then isJn r else if c = 103 then isAg r else false := rfl
noncomputable def pOp (s : List UInt8) : List Dat := OpR (opGet s) (isOp s)
theorem eqByte (c d : UInt8) (n : Int) (h : n = (d.toNat : Int)) : eqI (c.toNat : Int) n = decide (c = d) := by rw [h]; exact u8_eqI c d
theorem byte_0 (c : UInt8) (r : List UInt8) : byteAt (S (c :: r)) 0 = (c.toNat : Int) := byte_mid [] r c
theorem sz_1 (c : UInt8) (r : List UInt8) : inR 0 (szI (S (c :: r))) = true ∧ (leI 0 1 && leI 1 (szI (S (c :: r)))) = true := by
  rw [szI_S]
  exact ⟨inRT (by omega) (by simp only [List.length_cons]; omega), by rw [leT (by omega), leT (by simp only [List.length_cons]; omega)]; rfl⟩
theorem iParseOp (s : List UInt8) (hs : s.length ≤ 2097152) : callI tE f_impl_ParseOp [.str (S s)] = some (pOp s) := by
  rw [c_impl_ParseOp, eqS_S]
  cases s with
  | nil => rfl
  | cons c r =>
    have hr : r.length ≤ 2097152 := by simp only [List.length_cons] at hs; omega
    rw [decide_eq_false (by simp), cond_false, (sz_1 c r).1, (sz_1 c r).2, byte_0, ext_tail, iParseSo r hr, iParseJn r hr, iParseAg r hr, eqByte c 115 115 rfl, eqByte c 106 106 rfl, eqByte c 103 103 rfl]
    simp only [pSo_eq, SoR, pJn, JnR, pAg, AgR, gn_c, gb_c, gs_c, gl_c, tk_s, tk_0, List.drop_succ_cons, List.drop_zero, List.headD_cons, List.getD_cons_zero, List.getD_cons_succ, bind_s, cond_true]
    unfold pOp
    rw [opGet_c, isOp_c]
    by_cases k1 : c = 115
    · rw [decide_eq_true k1, if_pos k1, if_pos k1]
      cases isSo r <;> rfl
    · rw [decide_eq_false k1, if_neg k1, if_neg k1, cond_false]
      by_cases k2 : c = 106
      · rw [decide_eq_true k2, if_pos k2, if_pos k2]
        cases isJn r <;> rfl
      · rw [decide_eq_false k2, if_neg k2, if_neg k2, cond_false]
        by_cases k3 : c = 103
        · rw [decide_eq_true k3, if_pos k3, if_pos k3]
          cases isAg r <;> rfl
        · rw [decide_eq_false k3, if_neg k3, if_neg k3]; rfl
theorem szSo_get (s : List UInt8) (hs : s.length ≤ 2097152) : (soGet s).sz ≤ 100000000 := (soGet_p s hs).1
theorem szJn_get (s : List UInt8) : (jnGet s).sz ≤ 4000 := by
  unfold jnGet
  cases hp : parseJn s with
  | none => decide
  | some x =>
    obtain ⟨i1, i2, l1, ht⟩ := jn_small (parseJn_some.mp hp).1
    show szL Tk.sz x.pend ≤ 4000
    have key : ∀ l : List Tk, (∀ t ∈ l, tkOk t = true) → szL Tk.sz l ≤ 73 * l.length := fun l => by
      induction l with
      | nil => intro _; exact Nat.le_refl _
      | cons a l ih =>
        intro h
        have h1 := ih fun t ht => h t (List.mem_cons_of_mem _ ht)
        obtain ⟨_, _, a1, a2, a3⟩ := tk_small (h a (by simp))
        simp only [szL, List.length_cons, Tk.sz] at *
        omega
    have := key x.pend ht
    omega
theorem szAg_get (s : List UInt8) : (agGet s).sz ≤ 4000 := by
  unfold agGet
  cases hp : parseAg s with
  | none => decide
  | some x =>
    obtain ⟨i1, l1, ht⟩ := ag_small (parseAg_some.mp hp).1
    show szL Gt.sz x.pend ≤ 4000
    have key : ∀ l : List Gt, (∀ t ∈ l, aok t.rows = true) → szL Gt.sz l ≤ 25 * l.length := fun l => by
      induction l with
      | nil => intro _; exact Nat.le_refl _
      | cons a l ih =>
        intro h
        have h1 := ih fun t ht => h t (List.mem_cons_of_mem _ ht)
        have a1 := aok_len (h a (by simp))
        simp only [szL, List.length_cons, Gt.sz] at *
        omega
    have := key x.pend fun t h => (ht t h).1
    omega
theorem opGet_sz (s : List UInt8) (hs : s.length ≤ 2097152) : (opGet s).sz ≤ 100008000 := by
  unfold opGet
  cases s with
  | nil => decide
  | cons c r =>
    have hr : r.length ≤ 2097152 := by simp only [List.length_cons] at hs; omega
    have z1 := szSo_get r hr
    have z2 := szJn_get r
    have z3 := szAg_get r
    have y1 : soZ.sz = 0 := rfl
    have y2 : jnZ.sz = 0 := rfl
    have y3 : agZ.sz = 0 := rfl
    have y0 : opZ.sz = 0 := rfl
    have y4 : opZ.so.sz = 0 := rfl
    have y5 : opZ.jn.sz = 0 := rfl
    have y6 : opZ.ag.sz = 0 := rfl
    simp only
    split
    · cases isSo r <;> simp only [cond_true, cond_false, Opr.sz] <;> omega
    · split
      · cases isJn r <;> simp only [cond_true, cond_false, Opr.sz] <;> omega
      · split
        · cases isAg r <;> simp only [cond_true, cond_false, Opr.sz] <;> omega
        · omega
theorem soZ_nb : soZ.nb := (⟨⟨by decide, by decide⟩, ⟨by decide, by decide⟩, ⟨by decide, by decide⟩, ⟨by decide, by decide⟩, ⟨by decide, by decide⟩⟩ : soZ.nb)
theorem isSo_txt {s : List UInt8} : isSo s = true → txtSo (soGet s) = s ∧ s ≠ [] := fun h => by
  unfold isSo soGet at *
  cases hp : parseSo s with
  | none => rw [hp] at h; cases h
  | some x =>
    obtain ⟨h1, h2⟩ := parseSo_some.mp hp
    refine ⟨(if_pos h1.1).trans h2, fun e => ?_⟩
    have := fmtSo_cut x
    rw [h2, e] at this
    simp [cutL, cutGo, soFs] at this
theorem isSo_not {s : List UInt8} (h : isSo s = false) : soGet s = soZ := by
  unfold isSo soGet at *
  cases hp : parseSo s with
  | none => rfl
  | some x => rw [hp] at h; cases h
theorem isJn_txt {s : List UInt8} : isJn s = true → txtJn (jnGet s) = s ∧ s ≠ [] := fun h => by
  unfold isJn jnGet at *
  cases hp : parseJn s with
  | none => rw [hp] at h; cases h
  | some x =>
    obtain ⟨h1, h2⟩ := parseJn_some.mp hp
    refine ⟨(if_pos h1).trans h2, fun e => ?_⟩
    have := fmtJn_cut x
    rw [h2, e] at this
    simp [cutL, cutGo, jnFs] at this
theorem isJn_not {s : List UInt8} (h : isJn s = false) : jnGet s = jnZ ∧ txtJn jnZ ≠ s := by
  unfold isJn jnGet at *
  cases hp : parseJn s with
  | none =>
    refine ⟨rfl, fun e => ?_⟩
    have hz : jnOk jnZ = true := rfl
    have h2 : fmtJn jnZ = s := (if_pos hz).symm.trans e
    exact parseJn_none.mp hp _ hz h2
  | some x => rw [hp] at h; cases h
theorem isAg_txt {s : List UInt8} : isAg s = true → txtAg (agGet s) = s ∧ s ≠ [] := fun h => by
  unfold isAg agGet at *
  cases hp : parseAg s with
  | none => rw [hp] at h; cases h
  | some x =>
    obtain ⟨h1, h2⟩ := parseAg_some.mp hp
    refine ⟨(if_pos h1).trans h2, fun e => ?_⟩
    have := fmtAg_cut x
    rw [h2, e] at this
    simp [cutL, cutGo, agFs] at this
theorem isAg_not {s : List UInt8} (h : isAg s = false) : agGet s = agZ ∧ txtAg agZ ≠ s := by
  unfold isAg agGet at *
  cases hp : parseAg s with
  | none =>
    refine ⟨rfl, fun e => ?_⟩
    have hz : agOk agZ = true := rfl
    have h2 : fmtAg agZ = s := (if_pos hz).symm.trans e
    exact parseAg_none.mp hp _ hz h2
  | some x => rw [hp] at h; cases h
theorem pre_eq {c : UInt8} {t r : List UInt8} (h : t ≠ r) : pre c t ≠ c :: r := by
  unfold pre
  split
  · simp
  · intro e
    exact h (List.cons.inj e).2
theorem pre_self {c : UInt8} {r : List UInt8} (h : r ≠ []) : pre c r = c :: r := if_neg h
theorem sParseOp (s : List UInt8) (hs : s.length ≤ 2097152) : callI tE f_spec_ParseOp [.str (S s)] = some (pOp s) := by
  rw [c_spec_ParseOp, eqS_S]
  cases s with
  | nil => rfl
  | cons c r =>
    have hr : r.length ≤ 2097152 := by simp only [List.length_cons] at hs; omega
    rw [decide_eq_false (by simp), cond_false, (sz_1 c r).1, (sz_1 c r).2, byte_0, ext_tail, sParseSo r hr, sParseJn r hr, sParseAg r hr, eqByte c 115 115 rfl, eqByte c 106 106 rfl, eqByte c 103 103 rfl]
    obtain ⟨z1, z1n, _⟩ := soGet_p r hr
    have z2 := szJn_get r
    have z3 := szAg_get r
    have f1 := sFormatOp ⟨1, soGet r, jnZ, agZ⟩ (by show (soGet r).sz + (0 + 0) ≤ 1073741800; omega) z1n
    have f2 := sFormatOp ⟨2, soZ, jnGet r, agZ⟩ (by show 0 + ((jnGet r).sz + 0) ≤ 1073741800; omega) soZ_nb
    have f3 := sFormatOp ⟨3, soZ, jnZ, agGet r⟩ (by show 0 + (0 + (agGet r).sz) ≤ 1073741800; omega) soZ_nb
    have f0 := sFormatOp opZ (show opZ.sz ≤ 1073741800 by decide) soZ_nb
    simp only [Opr.e, soZ, jnZ, agZ, opZ, List.map_nil] at f0 f1 f2 f3
    simp only [pSo_eq, SoR, pJn, JnR, pAg, AgR, gn_c, gb_c, gs_c, gl_c, tk_s, tk_0, List.drop_succ_cons, List.drop_zero, List.headD_cons, List.getD_cons_zero, List.getD_cons_succ, bind_s, cond_true, f0, f1, f2, f3, eqS_S]
    unfold pOp
    rw [opGet_c, isOp_c]
    by_cases k1 : c = 115
    · rw [decide_eq_true k1, if_pos k1, if_pos k1, cond_true]
      subst k1
      have ht : txtOp ⟨1, soGet r, ⟨[], 0, 0⟩, ⟨[], 0, false⟩⟩ = pre 115 (txtSo (soGet r)) := rfl
      rw [ht]
      cases h : isSo r with
      | true => rw [(isSo_txt h).1, pre_self (isSo_txt h).2, decide_eq_true rfl]; rfl
      | false =>
        rw [isSo_not h, show txtSo soZ = [] from rfl, decide_eq_false (by unfold pre; simp)]; rfl
    · rw [decide_eq_false k1, if_neg k1, if_neg k1, cond_false]
      by_cases k2 : c = 106
      · rw [decide_eq_true k2, if_pos k2, if_pos k2, cond_true]
        subst k2
        have ht : txtOp ⟨2, ⟨[], 0, [], [], [], [], 0, 0, 0, 0⟩, jnGet r, ⟨[], 0, false⟩⟩ = pre 106 (txtJn (jnGet r)) := rfl
        rw [ht]
        cases h : isJn r with
        | true => rw [(isJn_txt h).1, pre_self (isJn_txt h).2, decide_eq_true rfl]; rfl
        | false => rw [(isJn_not h).1, decide_eq_false (pre_eq (isJn_not h).2)]; rfl
      · rw [decide_eq_false k2, if_neg k2, if_neg k2, cond_false]
        by_cases k3 : c = 103
        · rw [decide_eq_true k3, if_pos k3, if_pos k3, cond_true]
          subst k3
          have ht : txtOp ⟨3, ⟨[], 0, [], [], [], [], 0, 0, 0, 0⟩, ⟨[], 0, 0⟩, agGet r⟩ = pre 103 (txtAg (agGet r)) := rfl
          rw [ht]
          cases h : isAg r with
          | true => rw [(isAg_txt h).1, pre_self (isAg_txt h).2, decide_eq_true rfl]; rfl
          | false => rw [(isAg_not h).1, decide_eq_false (pre_eq (isAg_not h).2)]; rfl
        · rw [decide_eq_false k3, if_neg k3, if_neg k3, cond_false]
          rfl
end Go.Proofs.YtbmafhpbinjgaaaGreat.Vai
namespace Go.Proofs.YtbmafhpbinjgaaaGreat.Vai
open Go
set_option linter.unusedSimpArgs false
set_option linter.unusedVariables false
set_option linter.unnecessarySimpa false
set_option maxRecDepth 10000
theorem eq_Row (x y : Rw) : callI tE f_laws_eqRow [.int x.k, .int x.v, .int x.w, .int y.k, .int y.v, .int y.w] = some [.bool (decide (x = y))] := by
  have e : decide (x = y) = (decide (x.k = y.k) && (decide (x.v = y.v) && (decide (x.w = y.w)))) := by
    cases x; cases y
    simp only [Rw.mk.injEq, Bool.decide_and]
  simp only [gn_c, gb_c, gs_c, gl_c, tk_s, tk_0, List.drop_succ_cons, List.drop_zero, List.headD_cons, List.getD_cons_zero, List.getD_cons_succ, bind_s, eqI, eqBo, e, bif_and, Bool.and_true, c_laws_eqRow]
theorem eq_RowS (l l' : List Rw) (h : l.length ≤ 1152921504606846976) : callI tE f_laws_eqRowS [.sl (l.map Rw.e), .sl (l'.map Rw.e)] = some [.bool (decide (l = l'))] := by
  have hl : l.length ≤ 1152921504606846976 := h
  rw [c_laws_eqRowS]
  by_cases hll : l.length = l'.length
  · rw [eq_len hll, Bool.not_true, cond_false]
    have := eq_loop (L := L_laws_eqRowS_0) (e := Rw.e) (P := fun a => (fun _ => 0) a ≤ 1152921504606846976) (fun p q p' q' a b _ hpl hlt => by
      rw [L_laws_eqRowS_0_eq]
      simp only [lt_mid, in_mid, tn_c, at_mid, cond_true, cond_false, gn_c, gb_c, gs_c, gl_c, tk_s, tk_0, List.drop_succ_cons, List.drop_zero, List.headD_cons, List.getD_cons_zero, List.getD_cons_succ, bind_s, in_mid' hpl, at_mid' hpl, Rw.e, eq_Row a b, bifn]) (fun p p' hpl => by
      rw [L_laws_eqRowS_0_eq, lt_end, cond_false]) l l' [] [] rfl hll (fun a ha => Nat.zero_le _) (by simp; omega)
    simpa using this
  · rw [ne_len hll, Bool.not_false, cond_true, decide_eq_false (fun e => hll (by rw [e]))]
theorem mark_RowS (l : List Rw) (k : Int) (h0 : 0 ≤ k) (h1 : k + cntL Rw.ct l < 4611686018427387904) (h2 : l.length ≤ 1152921504606846976) : callI tE f_laws_markRowS [.sl (l.map Rw.e), .int k] = some [.int (k + cntL Rw.ct l), .sl ((mkL Rw.mkm Rw.ct l k).map Rw.e)] := by
  have hl : l.length ≤ 1152921504606846976 := h2
  rw [c_laws_markRowS]
  have := mark_loop (L := L_laws_markRowS_0) (e := Rw.e) (f := Rw.mkm) (c := Rw.ct) (g := (fun _ => 0)) (fun p q a k h0 hc hg hlt => by
    rw [show k + ((Rw.ct a : Nat) : Int) = k + 1 + 1 + 1 by simp only [Rw.ct]; omega]
    rw [L_laws_markRowS_0_eq]
    simp only [lt_mid, in_mid, tn_c, at_mid, cond_true, cond_false, gn_c, gb_c, gs_c, gl_c, tk_s, tk_0, List.drop_succ_cons, List.drop_zero, List.headD_cons, List.getD_cons_zero, List.getD_cons_succ, bind_s, upd_mid, Rw.e, Rw.mkm, w64_id (n := k + 1) (by simp only [Rw.ct] at hc; omega), w64_id (n := k + 1 + 1) (by simp only [Rw.ct] at hc; omega), w64_id (n := k + 1 + 1 + 1) (by simp only [Rw.ct] at hc; omega), setRange, List.set_cons_zero, List.set_cons_succ]) (fun p k => by
    rw [L_laws_markRowS_0_eq, lt_end, cond_false]) l [] k h0 h1 (by rw [szL_flat]; exact h2) (by simp; omega)
  simpa using this
theorem held_RowS (l : List Rw) (k : Int) (h0 : 0 ≤ k) (h1 : k + cntL Rw.ct l < 4611686018427387904) (h2 : l.length ≤ 1152921504606846976) : callI tE f_laws_heldRowS [.sl ((mkL Rw.mkm Rw.ct l k).map Rw.e), .int k] = some [.int (k + cntL Rw.ct l)] := by
  have hl : l.length ≤ 1152921504606846976 := h2
  rw [c_laws_heldRowS]
  have := held_loop (L := L_laws_heldRowS_0) (e := Rw.e) (f := Rw.mkm) (c := Rw.ct) (g := (fun _ => 0)) (fun p q a k h0 hc hg hlt => by
    rw [show k + ((Rw.ct a : Nat) : Int) = k + 1 + 1 + 1 by simp only [Rw.ct]; omega]
    rw [L_laws_heldRowS_0_eq]
    simp only [lt_mid, in_mid, tn_c, at_mid, cond_true, cond_false, gn_c, gb_c, gs_c, gl_c, tk_s, tk_0, List.drop_succ_cons, List.drop_zero, List.headD_cons, List.getD_cons_zero, List.getD_cons_succ, bind_s, Rw.e, Rw.mkm, w64_id (n := k + 1) (by simp only [Rw.ct] at hc; omega), w64_id (n := k + 1 + 1) (by simp only [Rw.ct] at hc; omega), w64_id (n := k + 1 + 1 + 1) (by simp only [Rw.ct] at hc; omega), eqI_self, eqBo_self, Bool.not_true, ltF_nn h0]) (fun p k => by
    rw [L_laws_heldRowS_0_eq, lt_end, cond_false]) l [] k h0 h1 (by rw [szL_flat]; exact h2) (by simp; omega)
  simpa using this
theorem eq_BoolS (l l' : List Bool) (h : l.length ≤ 1152921504606846976) : callI tE f_laws_eqBoolS [.sl (l.map boE), .sl (l'.map boE)] = some [.bool (decide (l = l'))] := by
  have hl : l.length ≤ 1152921504606846976 := h
  rw [c_laws_eqBoolS]
  by_cases hll : l.length = l'.length
  · rw [eq_len hll, Bool.not_true, cond_false]
    have := eq_loop (L := L_laws_eqBoolS_0) (e := boE) (P := fun a => (fun _ => 0) a ≤ 1152921504606846976) (fun p q p' q' a b _ hpl hlt => by
      rw [L_laws_eqBoolS_0_eq]
      simp only [lt_mid, in_mid, tn_c, at_mid, cond_true, cond_false, gn_c, gb_c, gs_c, gl_c, tk_s, tk_0, List.drop_succ_cons, List.drop_zero, List.headD_cons, List.getD_cons_zero, List.getD_cons_succ, bind_s, in_mid' hpl, at_mid' hpl, boE, eqBo, bifn]) (fun p p' hpl => by
      rw [L_laws_eqBoolS_0_eq, lt_end, cond_false]) l l' [] [] rfl hll (fun a ha => Nat.zero_le _) (by simp; omega)
    simpa using this
  · rw [ne_len hll, Bool.not_false, cond_true, decide_eq_false (fun e => hll (by rw [e]))]
theorem mark_BoolS (l : List Bool) (k : Int) (h0 : 0 ≤ k) (h1 : k + cntL c1 l < 4611686018427387904) (h2 : l.length ≤ 1152921504606846976) : callI tE f_laws_markBoolS [.sl (l.map boE), .int k] = some [.int (k + cntL c1 l), .sl ((mkL mkB c1 l k).map boE)] := by
  have hl : l.length ≤ 1152921504606846976 := h2
  rw [c_laws_markBoolS]
  have := mark_loop (L := L_laws_markBoolS_0) (e := boE) (f := mkB) (c := c1) (g := (fun _ => 0)) (fun p q a k h0 hc hg hlt => by
    rw [show k + ((c1 a : Nat) : Int) = k + 1 by simp only [c1]; omega]
    rw [L_laws_markBoolS_0_eq]
    simp only [lt_mid, in_mid, tn_c, at_mid, cond_true, cond_false, gn_c, gb_c, gs_c, gl_c, tk_s, tk_0, List.drop_succ_cons, List.drop_zero, List.headD_cons, List.getD_cons_zero, List.getD_cons_succ, bind_s, upd_mid, boE, mkB, w64_id (n := k + 1) (by simp only [c1] at hc; omega), setRange, List.set_cons_zero, List.set_cons_succ]) (fun p k => by
    rw [L_laws_markBoolS_0_eq, lt_end, cond_false]) l [] k h0 h1 (by rw [szL_flat]; exact h2) (by simp; omega)
  simpa using this
theorem held_BoolS (l : List Bool) (k : Int) (h0 : 0 ≤ k) (h1 : k + cntL c1 l < 4611686018427387904) (h2 : l.length ≤ 1152921504606846976) : callI tE f_laws_heldBoolS [.sl ((mkL mkB c1 l k).map boE), .int k] = some [.int (k + cntL c1 l)] := by
  have hl : l.length ≤ 1152921504606846976 := h2
  rw [c_laws_heldBoolS]
  have := held_loop (L := L_laws_heldBoolS_0) (e := boE) (f := mkB) (c := c1) (g := (fun _ => 0)) (fun p q a k h0 hc hg hlt => by
    rw [show k + ((c1 a : Nat) : Int) = k + 1 by simp only [c1]; omega]
    rw [L_laws_heldBoolS_0_eq]
    simp only [lt_mid, in_mid, tn_c, at_mid, cond_true, cond_false, gn_c, gb_c, gs_c, gl_c, tk_s, tk_0, List.drop_succ_cons, List.drop_zero, List.headD_cons, List.getD_cons_zero, List.getD_cons_succ, bind_s, boE, mkB, w64_id (n := k + 1) (by simp only [c1] at hc; omega), eqI_self, eqBo_self, Bool.not_true, ltF_nn h0]) (fun p k => by
    rw [L_laws_heldBoolS_0_eq, lt_end, cond_false]) l [] k h0 h1 (by rw [szL_flat]; exact h2) (by simp; omega)
  simpa using this
end Go.Proofs.YtbmafhpbinjgaaaGreat.Vai
namespace Go.Proofs.YtbmafhpbinjgaaaGreat.Vai
open Go
set_option linter.unusedSimpArgs false
set_option linter.unusedVariables false
set_option linter.unnecessarySimpa false
set_option maxRecDepth 10000
theorem eq_Run (x y : List Rw) (h : x.length ≤ 1152921504606846976) : callI tE f_laws_eqRun [.sl (x.map Rw.e), .sl (y.map Rw.e)] = some [.bool (decide (x = y))] := by
  simp only [c_laws_eqRun, eq_RowS x y h, gn_c, gb_c, gs_c, gl_c, tk_s, tk_0, List.drop_succ_cons, List.drop_zero, List.headD_cons, List.getD_cons_zero, List.getD_cons_succ, bind_s, bif_and, Bool.and_true]
theorem eq_RunS (l l' : List (List Rw)) (h : szL List.length l ≤ 1152921504606846976) : callI tE f_laws_eqRunS [.sl (l.map rsE), .sl (l'.map rsE)] = some [.bool (decide (l = l'))] := by
  have hl : l.length ≤ 1152921504606846976 := (Nat.le_trans (szL_len _ _) h)
  rw [c_laws_eqRunS]
  by_cases hll : l.length = l'.length
  · rw [eq_len hll, Bool.not_true, cond_false]
    have := eq_loop (L := L_laws_eqRunS_0) (e := rsE) (P := fun a => List.length a ≤ 1152921504606846976) (fun p q p' q' a b hP hpl hlt => by
      rw [L_laws_eqRunS_0_eq]
      simp only [lt_mid, in_mid, tn_c, at_mid, cond_true, cond_false, gn_c, gb_c, gs_c, gl_c, tk_s, tk_0, List.drop_succ_cons, List.drop_zero, List.headD_cons, List.getD_cons_zero, List.getD_cons_succ, bind_s, in_mid' hpl, at_mid' hpl, rsE, eq_Run a b hP, bifn]) (fun p p' hpl => by
      rw [L_laws_eqRunS_0_eq, lt_end, cond_false]) l l' [] [] rfl hll (fun a ha => Nat.le_trans (szL_mem ha) h) (by simp; omega)
    simpa using this
  · rw [ne_len hll, Bool.not_false, cond_true, decide_eq_false (fun e => hll (by rw [e]))]
theorem mark_RunS (l : List (List Rw)) (k : Int) (h0 : 0 ≤ k) (h1 : k + cntL (cntL Rw.ct) l < 4611686018427387904) (h2 : szL List.length l ≤ 1152921504606846976) : callI tE f_laws_markRunS [.sl (l.map rsE), .int k] = some [.int (k + cntL (cntL Rw.ct) l), .sl ((mkL (mkL Rw.mkm Rw.ct) (cntL Rw.ct) l k).map rsE)] := by
  have hl : l.length ≤ 1152921504606846976 := (Nat.le_trans (szL_len _ _) h2)
  rw [c_laws_markRunS]
  have := mark_loop (L := L_laws_markRunS_0) (e := rsE) (f := (mkL Rw.mkm Rw.ct)) (c := (cntL Rw.ct)) (g := List.length) (fun p q a k h0 hc hg hlt => by
    rw [L_laws_markRunS_0_eq]
    simp only [lt_mid, in_mid, tn_c, at_mid, cond_true, cond_false, gn_c, gb_c, gs_c, gl_c, tk_s, tk_0, List.drop_succ_cons, List.drop_zero, List.headD_cons, List.getD_cons_zero, List.getD_cons_succ, bind_s, upd_mid, rsE, mark_RowS a k h0 hc hg, setRange, List.set_cons_zero, List.set_cons_succ]) (fun p k => by
    rw [L_laws_markRunS_0_eq, lt_end, cond_false]) l [] k h0 h1 (by exact h2) (by simp; omega)
  simpa using this
theorem held_RunS (l : List (List Rw)) (k : Int) (h0 : 0 ≤ k) (h1 : k + cntL (cntL Rw.ct) l < 4611686018427387904) (h2 : szL List.length l ≤ 1152921504606846976) : callI tE f_laws_heldRunS [.sl ((mkL (mkL Rw.mkm Rw.ct) (cntL Rw.ct) l k).map rsE), .int k] = some [.int (k + cntL (cntL Rw.ct) l)] := by
  have hl : l.length ≤ 1152921504606846976 := (Nat.le_trans (szL_len _ _) h2)
  rw [c_laws_heldRunS]
  have := held_loop (L := L_laws_heldRunS_0) (e := rsE) (f := (mkL Rw.mkm Rw.ct)) (c := (cntL Rw.ct)) (g := List.length) (fun p q a k h0 hc hg hlt => by
    rw [L_laws_heldRunS_0_eq]
    simp only [lt_mid, in_mid, tn_c, at_mid, cond_true, cond_false, gn_c, gb_c, gs_c, gl_c, tk_s, tk_0, List.drop_succ_cons, List.drop_zero, List.headD_cons, List.getD_cons_zero, List.getD_cons_succ, bind_s, rsE, held_RowS a k h0 hc hg, eqI_self, eqBo_self, Bool.not_true, ltF_nn h0]) (fun p k => by
    rw [L_laws_heldRunS_0_eq, lt_end, cond_false]) l [] k h0 h1 (by exact h2) (by simp; omega)
  simpa using this
theorem eq_Sorter (x y : So) (h : x.sz ≤ 1152921504606846976) : callI tE f_laws_eqSorter [.sl (x.inp.map Rw.e), .int x.pos, .sl (x.heap.map Rw.e), .sl (x.dfd.map Rw.e), .sl (x.out.map Rw.e), .sl (x.runs.map rsE), .int x.lp, .int x.rp, .int x.ph, .int x.wr, .sl (y.inp.map Rw.e), .int y.pos, .sl (y.heap.map Rw.e), .sl (y.dfd.map Rw.e), .sl (y.out.map Rw.e), .sl (y.runs.map rsE), .int y.lp, .int y.rp, .int y.ph, .int y.wr] = some [.bool (decide (x = y))] := by
  have e : decide (x = y) = (decide (x.inp = y.inp) && (decide (x.pos = y.pos) && (decide (x.heap = y.heap) && (decide (x.dfd = y.dfd) && (decide (x.out = y.out) && (decide (x.runs = y.runs) && (decide (x.lp = y.lp) && (decide (x.rp = y.rp) && (decide (x.ph = y.ph) && (decide (x.wr = y.wr))))))))))) := by
    cases x; cases y
    simp only [So.mk.injEq, Bool.decide_and]
  simp only [eq_RowS x.inp y.inp (by simp only [So.sz] at h; omega), eq_RowS x.heap y.heap (by simp only [So.sz] at h; omega), eq_RowS x.dfd y.dfd (by simp only [So.sz] at h; omega), eq_RowS x.out y.out (by simp only [So.sz] at h; omega), eq_RunS x.runs y.runs (by simp only [So.sz] at h; omega), gn_c, gb_c, gs_c, gl_c, tk_s, tk_0, List.drop_succ_cons, List.drop_zero, List.headD_cons, List.getD_cons_zero, List.getD_cons_succ, bind_s, eqI, eqBo, e, bif_and, Bool.and_true, c_laws_eqSorter]
theorem mark_Sorter (x : So) (k : Int) (h0 : 0 ≤ k) (h1 : k + (cntL Rw.ct x.inp : Nat) + (cntL Rw.ct x.heap : Nat) + (cntL Rw.ct x.dfd : Nat) + (cntL Rw.ct x.out : Nat) + (cntL (cntL Rw.ct) x.runs : Nat) < 4611686018427387904) (h2 : x.sz ≤ 1152921504606846976) : callI tE f_laws_markSorter [.sl (x.inp.map Rw.e), .int x.pos, .sl (x.heap.map Rw.e), .sl (x.dfd.map Rw.e), .sl (x.out.map Rw.e), .sl (x.runs.map rsE), .int x.lp, .int x.rp, .int x.ph, .int x.wr, .int k] = some [.int (k + (cntL Rw.ct x.inp : Nat) + (cntL Rw.ct x.heap : Nat) + (cntL Rw.ct x.dfd : Nat) + (cntL Rw.ct x.out : Nat) + (cntL (cntL Rw.ct) x.runs : Nat)), .sl ((mkL Rw.mkm Rw.ct x.inp k).map Rw.e), .sl ((mkL Rw.mkm Rw.ct x.heap (k + (cntL Rw.ct x.inp : Nat))).map Rw.e), .sl ((mkL Rw.mkm Rw.ct x.dfd (k + (cntL Rw.ct x.inp : Nat) + (cntL Rw.ct x.heap : Nat))).map Rw.e), .sl ((mkL Rw.mkm Rw.ct x.out (k + (cntL Rw.ct x.inp : Nat) + (cntL Rw.ct x.heap : Nat) + (cntL Rw.ct x.dfd : Nat))).map Rw.e), .sl ((mkL (mkL Rw.mkm Rw.ct) (cntL Rw.ct) x.runs (k + (cntL Rw.ct x.inp : Nat) + (cntL Rw.ct x.heap : Nat) + (cntL Rw.ct x.dfd : Nat) + (cntL Rw.ct x.out : Nat))).map rsE)] := by
  simp only [c_laws_markSorter, mark_RowS x.inp k (by omega) (by omega) (by simp only [So.sz] at h2; omega), mark_RowS x.heap (k + (cntL Rw.ct x.inp : Nat)) (by omega) (by omega) (by simp only [So.sz] at h2; omega), mark_RowS x.dfd (k + (cntL Rw.ct x.inp : Nat) + (cntL Rw.ct x.heap : Nat)) (by omega) (by omega) (by simp only [So.sz] at h2; omega), mark_RowS x.out (k + (cntL Rw.ct x.inp : Nat) + (cntL Rw.ct x.heap : Nat) + (cntL Rw.ct x.dfd : Nat)) (by omega) (by omega) (by simp only [So.sz] at h2; omega), mark_RunS x.runs (k + (cntL Rw.ct x.inp : Nat) + (cntL Rw.ct x.heap : Nat) + (cntL Rw.ct x.dfd : Nat) + (cntL Rw.ct x.out : Nat)) (by omega) (by omega) (by simp only [So.sz] at h2; omega), gn_c, gb_c, gs_c, gl_c, tk_s, tk_0, List.drop_succ_cons, List.drop_zero, List.headD_cons, List.getD_cons_zero, List.getD_cons_succ, bind_s]
theorem held_Sorter (x : So) (k : Int) (h0 : 0 ≤ k) (h1 : k + (cntL Rw.ct x.inp : Nat) + (cntL Rw.ct x.heap : Nat) + (cntL Rw.ct x.dfd : Nat) + (cntL Rw.ct x.out : Nat) + (cntL (cntL Rw.ct) x.runs : Nat) < 4611686018427387904) (h2 : x.sz ≤ 1152921504606846976) : callI tE f_laws_heldSorter [.sl ((mkL Rw.mkm Rw.ct x.inp k).map Rw.e), .int x.pos, .sl ((mkL Rw.mkm Rw.ct x.heap (k + (cntL Rw.ct x.inp : Nat))).map Rw.e), .sl ((mkL Rw.mkm Rw.ct x.dfd (k + (cntL Rw.ct x.inp : Nat) + (cntL Rw.ct x.heap : Nat))).map Rw.e), .sl ((mkL Rw.mkm Rw.ct x.out (k + (cntL Rw.ct x.inp : Nat) + (cntL Rw.ct x.heap : Nat) + (cntL Rw.ct x.dfd : Nat))).map Rw.e), .sl ((mkL (mkL Rw.mkm Rw.ct) (cntL Rw.ct) x.runs (k + (cntL Rw.ct x.inp : Nat) + (cntL Rw.ct x.heap : Nat) + (cntL Rw.ct x.dfd : Nat) + (cntL Rw.ct x.out : Nat))).map rsE), .int x.lp, .int x.rp, .int x.ph, .int x.wr, .int k] = some [.int (k + (cntL Rw.ct x.inp : Nat) + (cntL Rw.ct x.heap : Nat) + (cntL Rw.ct x.dfd : Nat) + (cntL Rw.ct x.out : Nat) + (cntL (cntL Rw.ct) x.runs : Nat))] := by
  simp only [c_laws_heldSorter, held_RowS x.inp k (by omega) (by omega) (by simp only [So.sz] at h2; omega), held_RowS x.heap (k + (cntL Rw.ct x.inp : Nat)) (by omega) (by omega) (by simp only [So.sz] at h2; omega), held_RowS x.dfd (k + (cntL Rw.ct x.inp : Nat) + (cntL Rw.ct x.heap : Nat)) (by omega) (by omega) (by simp only [So.sz] at h2; omega), held_RowS x.out (k + (cntL Rw.ct x.inp : Nat) + (cntL Rw.ct x.heap : Nat) + (cntL Rw.ct x.dfd : Nat)) (by omega) (by omega) (by simp only [So.sz] at h2; omega), held_RunS x.runs (k + (cntL Rw.ct x.inp : Nat) + (cntL Rw.ct x.heap : Nat) + (cntL Rw.ct x.dfd : Nat) + (cntL Rw.ct x.out : Nat)) (by omega) (by omega) (by simp only [So.sz] at h2; omega), gn_c, gb_c, gs_c, gl_c, tk_s, tk_0, List.drop_succ_cons, List.drop_zero, List.headD_cons, List.getD_cons_zero, List.getD_cons_succ, bind_s, ltF (a := k + (cntL Rw.ct x.inp : Nat)) (b := 0) (by omega), ltF (a := k + (cntL Rw.ct x.inp : Nat) + (cntL Rw.ct x.heap : Nat)) (b := 0) (by omega), ltF (a := k + (cntL Rw.ct x.inp : Nat) + (cntL Rw.ct x.heap : Nat) + (cntL Rw.ct x.dfd : Nat)) (b := 0) (by omega), ltF (a := k + (cntL Rw.ct x.inp : Nat) + (cntL Rw.ct x.heap : Nat) + (cntL Rw.ct x.dfd : Nat) + (cntL Rw.ct x.out : Nat)) (b := 0) (by omega), ltF (a := k + (cntL Rw.ct x.inp : Nat) + (cntL Rw.ct x.heap : Nat) + (cntL Rw.ct x.dfd : Nat) + (cntL Rw.ct x.out : Nat) + (cntL (cntL Rw.ct) x.runs : Nat)) (b := 0) (by omega), cond_false]
end Go.Proofs.YtbmafhpbinjgaaaGreat.Vai
namespace Go.Proofs.YtbmafhpbinjgaaaGreat.Vai
open Go
set_option linter.unusedSimpArgs false
set_option linter.unusedVariables false
set_option linter.unnecessarySimpa false
set_option maxRecDepth 10000
theorem eq_Task (x y : Tk) (h : x.sz ≤ 1152921504606846976) : callI tE f_laws_eqTask [.int x.kind, .sl (x.left.map Rw.e), .sl (x.right.map Rw.e), .sl (x.mat.map boE), .int x.level, .int y.kind, .sl (y.left.map Rw.e), .sl (y.right.map Rw.e), .sl (y.mat.map boE), .int y.level] = some [.bool (decide (x = y))] := by
  have e : decide (x = y) = (decide (x.kind = y.kind) && (decide (x.left = y.left) && (decide (x.right = y.right) && (decide (x.mat = y.mat) && (decide (x.level = y.level)))))) := by
    cases x; cases y
    simp only [Tk.mk.injEq, Bool.decide_and]
  simp only [eq_RowS x.left y.left (by simp only [Tk.sz] at h; omega), eq_RowS x.right y.right (by simp only [Tk.sz] at h; omega), eq_BoolS x.mat y.mat (by simp only [Tk.sz] at h; omega), gn_c, gb_c, gs_c, gl_c, tk_s, tk_0, List.drop_succ_cons, List.drop_zero, List.headD_cons, List.getD_cons_zero, List.getD_cons_succ, bind_s, eqI, eqBo, e, bif_and, Bool.and_true, c_laws_eqTask]
theorem eq_TaskS (l l' : List Tk) (h : szL Tk.sz l ≤ 1152921504606846976) : callI tE f_laws_eqTaskS [.sl (l.map Tk.e), .sl (l'.map Tk.e)] = some [.bool (decide (l = l'))] := by
  have hl : l.length ≤ 1152921504606846976 := (Nat.le_trans (szL_len _ _) h)
  rw [c_laws_eqTaskS]
  by_cases hll : l.length = l'.length
  · rw [eq_len hll, Bool.not_true, cond_false]
    have := eq_loop (L := L_laws_eqTaskS_0) (e := Tk.e) (P := fun a => Tk.sz a ≤ 1152921504606846976) (fun p q p' q' a b hP hpl hlt => by
      rw [L_laws_eqTaskS_0_eq]
      simp only [lt_mid, in_mid, tn_c, at_mid, cond_true, cond_false, gn_c, gb_c, gs_c, gl_c, tk_s, tk_0, List.drop_succ_cons, List.drop_zero, List.headD_cons, List.getD_cons_zero, List.getD_cons_succ, bind_s, in_mid' hpl, at_mid' hpl, Tk.e, eq_Task a b hP, bifn]) (fun p p' hpl => by
      rw [L_laws_eqTaskS_0_eq, lt_end, cond_false]) l l' [] [] rfl hll (fun a ha => Nat.le_trans (szL_mem ha) h) (by simp; omega)
    simpa using this
  · rw [ne_len hll, Bool.not_false, cond_true, decide_eq_false (fun e => hll (by rw [e]))]
theorem mark_TaskS (l : List Tk) (k : Int) (h0 : 0 ≤ k) (h1 : k + cntL Tk.ct l < 4611686018427387904) (h2 : szL Tk.sz l ≤ 1152921504606846976) : callI tE f_laws_markTaskS [.sl (l.map Tk.e), .int k] = some [.int (k + cntL Tk.ct l), .sl ((mkL Tk.mkm Tk.ct l k).map Tk.e)] := by
  have hl : l.length ≤ 1152921504606846976 := (Nat.le_trans (szL_len _ _) h2)
  rw [c_laws_markTaskS]
  have := mark_loop (L := L_laws_markTaskS_0) (e := Tk.e) (f := Tk.mkm) (c := Tk.ct) (g := Tk.sz) (fun p q a k h0 hc hg hlt => by
    rw [show k + ((Tk.ct a : Nat) : Int) = k + 1 + (cntL Rw.ct a.left : Nat) + (cntL Rw.ct a.right : Nat) + (cntL c1 a.mat : Nat) + 1 by simp only [Tk.ct]; omega]
    rw [L_laws_markTaskS_0_eq]
    simp only [lt_mid, in_mid, tn_c, at_mid, cond_true, cond_false, gn_c, gb_c, gs_c, gl_c, tk_s, tk_0, List.drop_succ_cons, List.drop_zero, List.headD_cons, List.getD_cons_zero, List.getD_cons_succ, bind_s, upd_mid, Tk.e, Tk.mkm, mark_RowS a.left (k + 1) (by omega) (by simp only [Tk.ct] at hc; omega) (by simp only [Tk.sz] at hg; omega), mark_RowS a.right (k + 1 + (cntL Rw.ct a.left : Nat)) (by omega) (by simp only [Tk.ct] at hc; omega) (by simp only [Tk.sz] at hg; omega), mark_BoolS a.mat (k + 1 + (cntL Rw.ct a.left : Nat) + (cntL Rw.ct a.right : Nat)) (by omega) (by simp only [Tk.ct] at hc; omega) (by simp only [Tk.sz] at hg; omega), w64_id (n := k + 1) (by simp only [Tk.ct] at hc; omega), w64_id (n := k + 1 + (cntL Rw.ct a.left : Nat) + (cntL Rw.ct a.right : Nat) + (cntL c1 a.mat : Nat) + 1) (by simp only [Tk.ct] at hc; omega), setRange, List.set_cons_zero, List.set_cons_succ]) (fun p k => by
    rw [L_laws_markTaskS_0_eq, lt_end, cond_false]) l [] k h0 h1 (by exact h2) (by simp; omega)
  simpa using this
theorem held_TaskS (l : List Tk) (k : Int) (h0 : 0 ≤ k) (h1 : k + cntL Tk.ct l < 4611686018427387904) (h2 : szL Tk.sz l ≤ 1152921504606846976) : callI tE f_laws_heldTaskS [.sl ((mkL Tk.mkm Tk.ct l k).map Tk.e), .int k] = some [.int (k + cntL Tk.ct l)] := by
  have hl : l.length ≤ 1152921504606846976 := (Nat.le_trans (szL_len _ _) h2)
  rw [c_laws_heldTaskS]
  have := held_loop (L := L_laws_heldTaskS_0) (e := Tk.e) (f := Tk.mkm) (c := Tk.ct) (g := Tk.sz) (fun p q a k h0 hc hg hlt => by
    rw [show k + ((Tk.ct a : Nat) : Int) = k + 1 + (cntL Rw.ct a.left : Nat) + (cntL Rw.ct a.right : Nat) + (cntL c1 a.mat : Nat) + 1 by simp only [Tk.ct]; omega]
    rw [L_laws_heldTaskS_0_eq]
    simp only [lt_mid, in_mid, tn_c, at_mid, cond_true, cond_false, gn_c, gb_c, gs_c, gl_c, tk_s, tk_0, List.drop_succ_cons, List.drop_zero, List.headD_cons, List.getD_cons_zero, List.getD_cons_succ, bind_s, Tk.e, Tk.mkm, held_RowS a.left (k + 1) (by omega) (by simp only [Tk.ct] at hc; omega) (by simp only [Tk.sz] at hg; omega), ltF (a := k + 1 + (cntL Rw.ct a.left : Nat)) (b := 0) (by omega), held_RowS a.right (k + 1 + (cntL Rw.ct a.left : Nat)) (by omega) (by simp only [Tk.ct] at hc; omega) (by simp only [Tk.sz] at hg; omega), ltF (a := k + 1 + (cntL Rw.ct a.left : Nat) + (cntL Rw.ct a.right : Nat)) (b := 0) (by omega), held_BoolS a.mat (k + 1 + (cntL Rw.ct a.left : Nat) + (cntL Rw.ct a.right : Nat)) (by omega) (by simp only [Tk.ct] at hc; omega) (by simp only [Tk.sz] at hg; omega), ltF (a := k + 1 + (cntL Rw.ct a.left : Nat) + (cntL Rw.ct a.right : Nat) + (cntL c1 a.mat : Nat)) (b := 0) (by omega), w64_id (n := k + 1) (by simp only [Tk.ct] at hc; omega), w64_id (n := k + 1 + (cntL Rw.ct a.left : Nat) + (cntL Rw.ct a.right : Nat) + (cntL c1 a.mat : Nat) + 1) (by simp only [Tk.ct] at hc; omega), eqI_self, eqBo_self, Bool.not_true, ltF_nn h0]) (fun p k => by
    rw [L_laws_heldTaskS_0_eq, lt_end, cond_false]) l [] k h0 h1 (by exact h2) (by simp; omega)
  simpa using this
theorem eq_GroupTask (x y : Gt) (h : x.sz ≤ 1152921504606846976) : callI tE f_laws_eqGroupTask [.sl (x.rows.map Rw.e), .int x.level, .sl (y.rows.map Rw.e), .int y.level] = some [.bool (decide (x = y))] := by
  have e : decide (x = y) = (decide (x.rows = y.rows) && (decide (x.level = y.level))) := by
    cases x; cases y
    simp only [Gt.mk.injEq, Bool.decide_and]
  simp only [eq_RowS x.rows y.rows (by simp only [Gt.sz] at h; omega), gn_c, gb_c, gs_c, gl_c, tk_s, tk_0, List.drop_succ_cons, List.drop_zero, List.headD_cons, List.getD_cons_zero, List.getD_cons_succ, bind_s, eqI, eqBo, e, bif_and, Bool.and_true, c_laws_eqGroupTask]
theorem eq_GroupTaskS (l l' : List Gt) (h : szL Gt.sz l ≤ 1152921504606846976) : callI tE f_laws_eqGroupTaskS [.sl (l.map Gt.e), .sl (l'.map Gt.e)] = some [.bool (decide (l = l'))] := by
  have hl : l.length ≤ 1152921504606846976 := (Nat.le_trans (szL_len _ _) h)
  rw [c_laws_eqGroupTaskS]
  by_cases hll : l.length = l'.length
  · rw [eq_len hll, Bool.not_true, cond_false]
    have := eq_loop (L := L_laws_eqGroupTaskS_0) (e := Gt.e) (P := fun a => Gt.sz a ≤ 1152921504606846976) (fun p q p' q' a b hP hpl hlt => by
      rw [L_laws_eqGroupTaskS_0_eq]
      simp only [lt_mid, in_mid, tn_c, at_mid, cond_true, cond_false, gn_c, gb_c, gs_c, gl_c, tk_s, tk_0, List.drop_succ_cons, List.drop_zero, List.headD_cons, List.getD_cons_zero, List.getD_cons_succ, bind_s, in_mid' hpl, at_mid' hpl, Gt.e, eq_GroupTask a b hP, bifn]) (fun p p' hpl => by
      rw [L_laws_eqGroupTaskS_0_eq, lt_end, cond_false]) l l' [] [] rfl hll (fun a ha => Nat.le_trans (szL_mem ha) h) (by simp; omega)
    simpa using this
  · rw [ne_len hll, Bool.not_false, cond_true, decide_eq_false (fun e => hll (by rw [e]))]
theorem mark_GroupTaskS (l : List Gt) (k : Int) (h0 : 0 ≤ k) (h1 : k + cntL Gt.ct l < 4611686018427387904) (h2 : szL Gt.sz l ≤ 1152921504606846976) : callI tE f_laws_markGroupTaskS [.sl (l.map Gt.e), .int k] = some [.int (k + cntL Gt.ct l), .sl ((mkL Gt.mkm Gt.ct l k).map Gt.e)] := by
  have hl : l.length ≤ 1152921504606846976 := (Nat.le_trans (szL_len _ _) h2)
  rw [c_laws_markGroupTaskS]
  have := mark_loop (L := L_laws_markGroupTaskS_0) (e := Gt.e) (f := Gt.mkm) (c := Gt.ct) (g := Gt.sz) (fun p q a k h0 hc hg hlt => by
    rw [show k + ((Gt.ct a : Nat) : Int) = k + (cntL Rw.ct a.rows : Nat) + 1 by simp only [Gt.ct]; omega]
    rw [L_laws_markGroupTaskS_0_eq]
    simp only [lt_mid, in_mid, tn_c, at_mid, cond_true, cond_false, gn_c, gb_c, gs_c, gl_c, tk_s, tk_0, List.drop_succ_cons, List.drop_zero, List.headD_cons, List.getD_cons_zero, List.getD_cons_succ, bind_s, upd_mid, Gt.e, Gt.mkm, mark_RowS a.rows k (by omega) (by simp only [Gt.ct] at hc; omega) (by simp only [Gt.sz] at hg; omega), w64_id (n := k + (cntL Rw.ct a.rows : Nat) + 1) (by simp only [Gt.ct] at hc; omega), setRange, List.set_cons_zero, List.set_cons_succ]) (fun p k => by
    rw [L_laws_markGroupTaskS_0_eq, lt_end, cond_false]) l [] k h0 h1 (by exact h2) (by simp; omega)
  simpa using this
theorem held_GroupTaskS (l : List Gt) (k : Int) (h0 : 0 ≤ k) (h1 : k + cntL Gt.ct l < 4611686018427387904) (h2 : szL Gt.sz l ≤ 1152921504606846976) : callI tE f_laws_heldGroupTaskS [.sl ((mkL Gt.mkm Gt.ct l k).map Gt.e), .int k] = some [.int (k + cntL Gt.ct l)] := by
  have hl : l.length ≤ 1152921504606846976 := (Nat.le_trans (szL_len _ _) h2)
  rw [c_laws_heldGroupTaskS]
  have := held_loop (L := L_laws_heldGroupTaskS_0) (e := Gt.e) (f := Gt.mkm) (c := Gt.ct) (g := Gt.sz) (fun p q a k h0 hc hg hlt => by
    rw [show k + ((Gt.ct a : Nat) : Int) = k + (cntL Rw.ct a.rows : Nat) + 1 by simp only [Gt.ct]; omega]
    rw [L_laws_heldGroupTaskS_0_eq]
    simp only [lt_mid, in_mid, tn_c, at_mid, cond_true, cond_false, gn_c, gb_c, gs_c, gl_c, tk_s, tk_0, List.drop_succ_cons, List.drop_zero, List.headD_cons, List.getD_cons_zero, List.getD_cons_succ, bind_s, Gt.e, Gt.mkm, held_RowS a.rows k (by omega) (by simp only [Gt.ct] at hc; omega) (by simp only [Gt.sz] at hg; omega), ltF (a := k + (cntL Rw.ct a.rows : Nat)) (b := 0) (by omega), w64_id (n := k + (cntL Rw.ct a.rows : Nat) + 1) (by simp only [Gt.ct] at hc; omega), eqI_self, eqBo_self, Bool.not_true, ltF_nn h0]) (fun p k => by
    rw [L_laws_heldGroupTaskS_0_eq, lt_end, cond_false]) l [] k h0 h1 (by exact h2) (by simp; omega)
  simpa using this
theorem eq_Joiner (x y : Jn) (h : x.sz ≤ 1152921504606846976) : callI tE f_laws_eqJoiner [.sl (x.pend.map Tk.e), .int x.wr, .int x.parts, .sl (y.pend.map Tk.e), .int y.wr, .int y.parts] = some [.bool (decide (x = y))] := by
  have e : decide (x = y) = (decide (x.pend = y.pend) && (decide (x.wr = y.wr) && (decide (x.parts = y.parts)))) := by
    cases x; cases y
    simp only [Jn.mk.injEq, Bool.decide_and]
  simp only [eq_TaskS x.pend y.pend (by simp only [Jn.sz] at h; omega), gn_c, gb_c, gs_c, gl_c, tk_s, tk_0, List.drop_succ_cons, List.drop_zero, List.headD_cons, List.getD_cons_zero, List.getD_cons_succ, bind_s, eqI, eqBo, e, bif_and, Bool.and_true, c_laws_eqJoiner]
theorem mark_Joiner (x : Jn) (k : Int) (h0 : 0 ≤ k) (h1 : k + (cntL Tk.ct x.pend : Nat) < 4611686018427387904) (h2 : x.sz ≤ 1152921504606846976) : callI tE f_laws_markJoiner [.sl (x.pend.map Tk.e), .int x.wr, .int x.parts, .int k] = some [.int (k + (cntL Tk.ct x.pend : Nat)), .sl ((mkL Tk.mkm Tk.ct x.pend k).map Tk.e)] := by
  simp only [c_laws_markJoiner, mark_TaskS x.pend k (by omega) (by omega) (by simp only [Jn.sz] at h2; omega), gn_c, gb_c, gs_c, gl_c, tk_s, tk_0, List.drop_succ_cons, List.drop_zero, List.headD_cons, List.getD_cons_zero, List.getD_cons_succ, bind_s]
theorem held_Joiner (x : Jn) (k : Int) (h0 : 0 ≤ k) (h1 : k + (cntL Tk.ct x.pend : Nat) < 4611686018427387904) (h2 : x.sz ≤ 1152921504606846976) : callI tE f_laws_heldJoiner [.sl ((mkL Tk.mkm Tk.ct x.pend k).map Tk.e), .int x.wr, .int x.parts, .int k] = some [.int (k + (cntL Tk.ct x.pend : Nat))] := by
  simp only [c_laws_heldJoiner, held_TaskS x.pend k (by omega) (by omega) (by simp only [Jn.sz] at h2; omega), gn_c, gb_c, gs_c, gl_c, tk_s, tk_0, List.drop_succ_cons, List.drop_zero, List.headD_cons, List.getD_cons_zero, List.getD_cons_succ, bind_s, ltF (a := k + (cntL Tk.ct x.pend : Nat)) (b := 0) (by omega), cond_false]
theorem eq_Aggregator (x y : Ag) (h : x.sz ≤ 1152921504606846976) : callI tE f_laws_eqAggregator [.sl (x.pend.map Gt.e), .int x.wr, .bool x.early, .sl (y.pend.map Gt.e), .int y.wr, .bool y.early] = some [.bool (decide (x = y))] := by
  have e : decide (x = y) = (decide (x.pend = y.pend) && (decide (x.wr = y.wr) && (decide (x.early = y.early)))) := by
    cases x; cases y
    simp only [Ag.mk.injEq, Bool.decide_and]
  simp only [eq_GroupTaskS x.pend y.pend (by simp only [Ag.sz] at h; omega), gn_c, gb_c, gs_c, gl_c, tk_s, tk_0, List.drop_succ_cons, List.drop_zero, List.headD_cons, List.getD_cons_zero, List.getD_cons_succ, bind_s, eqI, eqBo, e, bif_and, Bool.and_true, c_laws_eqAggregator]
theorem mark_Aggregator (x : Ag) (k : Int) (h0 : 0 ≤ k) (h1 : k + (cntL Gt.ct x.pend : Nat) < 4611686018427387904) (h2 : x.sz ≤ 1152921504606846976) : callI tE f_laws_markAggregator [.sl (x.pend.map Gt.e), .int x.wr, .bool x.early, .int k] = some [.int (k + (cntL Gt.ct x.pend : Nat)), .sl ((mkL Gt.mkm Gt.ct x.pend k).map Gt.e)] := by
  simp only [c_laws_markAggregator, mark_GroupTaskS x.pend k (by omega) (by omega) (by simp only [Ag.sz] at h2; omega), gn_c, gb_c, gs_c, gl_c, tk_s, tk_0, List.drop_succ_cons, List.drop_zero, List.headD_cons, List.getD_cons_zero, List.getD_cons_succ, bind_s]
theorem held_Aggregator (x : Ag) (k : Int) (h0 : 0 ≤ k) (h1 : k + (cntL Gt.ct x.pend : Nat) < 4611686018427387904) (h2 : x.sz ≤ 1152921504606846976) : callI tE f_laws_heldAggregator [.sl ((mkL Gt.mkm Gt.ct x.pend k).map Gt.e), .int x.wr, .bool x.early, .int k] = some [.int (k + (cntL Gt.ct x.pend : Nat))] := by
  simp only [c_laws_heldAggregator, held_GroupTaskS x.pend k (by omega) (by omega) (by simp only [Ag.sz] at h2; omega), gn_c, gb_c, gs_c, gl_c, tk_s, tk_0, List.drop_succ_cons, List.drop_zero, List.headD_cons, List.getD_cons_zero, List.getD_cons_succ, bind_s, ltF (a := k + (cntL Gt.ct x.pend : Nat)) (b := 0) (by omega), cond_false]
theorem eq_Op (x y : Opr) (h : x.sz ≤ 1152921504606846976) : callI tE f_laws_eqOp [.int x.kind, .sl (x.so.inp.map Rw.e), .int x.so.pos, .sl (x.so.heap.map Rw.e), .sl (x.so.dfd.map Rw.e), .sl (x.so.out.map Rw.e), .sl (x.so.runs.map rsE), .int x.so.lp, .int x.so.rp, .int x.so.ph, .int x.so.wr, .sl (x.jn.pend.map Tk.e), .int x.jn.wr, .int x.jn.parts, .sl (x.ag.pend.map Gt.e), .int x.ag.wr, .bool x.ag.early, .int y.kind, .sl (y.so.inp.map Rw.e), .int y.so.pos, .sl (y.so.heap.map Rw.e), .sl (y.so.dfd.map Rw.e), .sl (y.so.out.map Rw.e), .sl (y.so.runs.map rsE), .int y.so.lp, .int y.so.rp, .int y.so.ph, .int y.so.wr, .sl (y.jn.pend.map Tk.e), .int y.jn.wr, .int y.jn.parts, .sl (y.ag.pend.map Gt.e), .int y.ag.wr, .bool y.ag.early] = some [.bool (decide (x = y))] := by
  have e : decide (x = y) = (decide (x.kind = y.kind) && (decide (x.so = y.so) && (decide (x.jn = y.jn) && (decide (x.ag = y.ag))))) := by
    cases x; cases y
    simp only [Opr.mk.injEq, Bool.decide_and]
  simp only [eq_Sorter x.so y.so (by simp only [Opr.sz] at h; omega), eq_Joiner x.jn y.jn (by simp only [Opr.sz] at h; omega), eq_Aggregator x.ag y.ag (by simp only [Opr.sz] at h; omega), gn_c, gb_c, gs_c, gl_c, tk_s, tk_0, List.drop_succ_cons, List.drop_zero, List.headD_cons, List.getD_cons_zero, List.getD_cons_succ, bind_s, eqI, eqBo, e, bif_and, Bool.and_true, c_laws_eqOp]
theorem mark_Op (x : Opr) (k : Int) (h0 : 0 ≤ k) (h1 : k + (cntL Rw.ct x.so.inp : Nat) + (cntL Rw.ct x.so.heap : Nat) + (cntL Rw.ct x.so.dfd : Nat) + (cntL Rw.ct x.so.out : Nat) + (cntL (cntL Rw.ct) x.so.runs : Nat) + (cntL Tk.ct x.jn.pend : Nat) + (cntL Gt.ct x.ag.pend : Nat) < 4611686018427387904) (h2 : x.sz ≤ 1152921504606846976) : callI tE f_laws_markOp [.int x.kind, .sl (x.so.inp.map Rw.e), .int x.so.pos, .sl (x.so.heap.map Rw.e), .sl (x.so.dfd.map Rw.e), .sl (x.so.out.map Rw.e), .sl (x.so.runs.map rsE), .int x.so.lp, .int x.so.rp, .int x.so.ph, .int x.so.wr, .sl (x.jn.pend.map Tk.e), .int x.jn.wr, .int x.jn.parts, .sl (x.ag.pend.map Gt.e), .int x.ag.wr, .bool x.ag.early, .int k] = some [.int (k + (cntL Rw.ct x.so.inp : Nat) + (cntL Rw.ct x.so.heap : Nat) + (cntL Rw.ct x.so.dfd : Nat) + (cntL Rw.ct x.so.out : Nat) + (cntL (cntL Rw.ct) x.so.runs : Nat) + (cntL Tk.ct x.jn.pend : Nat) + (cntL Gt.ct x.ag.pend : Nat)), .sl ((mkL Rw.mkm Rw.ct x.so.inp k).map Rw.e), .sl ((mkL Rw.mkm Rw.ct x.so.heap (k + (cntL Rw.ct x.so.inp : Nat))).map Rw.e), .sl ((mkL Rw.mkm Rw.ct x.so.dfd (k + (cntL Rw.ct x.so.inp : Nat) + (cntL Rw.ct x.so.heap : Nat))).map Rw.e), .sl ((mkL Rw.mkm Rw.ct x.so.out (k + (cntL Rw.ct x.so.inp : Nat) + (cntL Rw.ct x.so.heap : Nat) + (cntL Rw.ct x.so.dfd : Nat))).map Rw.e), .sl ((mkL (mkL Rw.mkm Rw.ct) (cntL Rw.ct) x.so.runs (k + (cntL Rw.ct x.so.inp : Nat) + (cntL Rw.ct x.so.heap : Nat) + (cntL Rw.ct x.so.dfd : Nat) + (cntL Rw.ct x.so.out : Nat))).map rsE), .sl ((mkL Tk.mkm Tk.ct x.jn.pend (k + (cntL Rw.ct x.so.inp : Nat) + (cntL Rw.ct x.so.heap : Nat) + (cntL Rw.ct x.so.dfd : Nat) + (cntL Rw.ct x.so.out : Nat) + (cntL (cntL Rw.ct) x.so.runs : Nat))).map Tk.e), .sl ((mkL Gt.mkm Gt.ct x.ag.pend (k + (cntL Rw.ct x.so.inp : Nat) + (cntL Rw.ct x.so.heap : Nat) + (cntL Rw.ct x.so.dfd : Nat) + (cntL Rw.ct x.so.out : Nat) + (cntL (cntL Rw.ct) x.so.runs : Nat) + (cntL Tk.ct x.jn.pend : Nat))).map Gt.e)] := by
  simp only [c_laws_markOp, mark_Sorter x.so k (by omega) (by omega) (by simp only [Opr.sz] at h2; omega), mark_Joiner x.jn (k + (cntL Rw.ct x.so.inp : Nat) + (cntL Rw.ct x.so.heap : Nat) + (cntL Rw.ct x.so.dfd : Nat) + (cntL Rw.ct x.so.out : Nat) + (cntL (cntL Rw.ct) x.so.runs : Nat)) (by omega) (by omega) (by simp only [Opr.sz] at h2; omega), mark_Aggregator x.ag (k + (cntL Rw.ct x.so.inp : Nat) + (cntL Rw.ct x.so.heap : Nat) + (cntL Rw.ct x.so.dfd : Nat) + (cntL Rw.ct x.so.out : Nat) + (cntL (cntL Rw.ct) x.so.runs : Nat) + (cntL Tk.ct x.jn.pend : Nat)) (by omega) (by omega) (by simp only [Opr.sz] at h2; omega), gn_c, gb_c, gs_c, gl_c, tk_s, tk_0, List.drop_succ_cons, List.drop_zero, List.headD_cons, List.getD_cons_zero, List.getD_cons_succ, bind_s]
theorem held_Op (x : Opr) (k : Int) (h0 : 0 ≤ k) (h1 : k + (cntL Rw.ct x.so.inp : Nat) + (cntL Rw.ct x.so.heap : Nat) + (cntL Rw.ct x.so.dfd : Nat) + (cntL Rw.ct x.so.out : Nat) + (cntL (cntL Rw.ct) x.so.runs : Nat) + (cntL Tk.ct x.jn.pend : Nat) + (cntL Gt.ct x.ag.pend : Nat) < 4611686018427387904) (h2 : x.sz ≤ 1152921504606846976) : callI tE f_laws_heldOp [.int x.kind, .sl ((mkL Rw.mkm Rw.ct x.so.inp k).map Rw.e), .int x.so.pos, .sl ((mkL Rw.mkm Rw.ct x.so.heap (k + (cntL Rw.ct x.so.inp : Nat))).map Rw.e), .sl ((mkL Rw.mkm Rw.ct x.so.dfd (k + (cntL Rw.ct x.so.inp : Nat) + (cntL Rw.ct x.so.heap : Nat))).map Rw.e), .sl ((mkL Rw.mkm Rw.ct x.so.out (k + (cntL Rw.ct x.so.inp : Nat) + (cntL Rw.ct x.so.heap : Nat) + (cntL Rw.ct x.so.dfd : Nat))).map Rw.e), .sl ((mkL (mkL Rw.mkm Rw.ct) (cntL Rw.ct) x.so.runs (k + (cntL Rw.ct x.so.inp : Nat) + (cntL Rw.ct x.so.heap : Nat) + (cntL Rw.ct x.so.dfd : Nat) + (cntL Rw.ct x.so.out : Nat))).map rsE), .int x.so.lp, .int x.so.rp, .int x.so.ph, .int x.so.wr, .sl ((mkL Tk.mkm Tk.ct x.jn.pend (k + (cntL Rw.ct x.so.inp : Nat) + (cntL Rw.ct x.so.heap : Nat) + (cntL Rw.ct x.so.dfd : Nat) + (cntL Rw.ct x.so.out : Nat) + (cntL (cntL Rw.ct) x.so.runs : Nat))).map Tk.e), .int x.jn.wr, .int x.jn.parts, .sl ((mkL Gt.mkm Gt.ct x.ag.pend (k + (cntL Rw.ct x.so.inp : Nat) + (cntL Rw.ct x.so.heap : Nat) + (cntL Rw.ct x.so.dfd : Nat) + (cntL Rw.ct x.so.out : Nat) + (cntL (cntL Rw.ct) x.so.runs : Nat) + (cntL Tk.ct x.jn.pend : Nat))).map Gt.e), .int x.ag.wr, .bool x.ag.early, .int k] = some [.int (k + (cntL Rw.ct x.so.inp : Nat) + (cntL Rw.ct x.so.heap : Nat) + (cntL Rw.ct x.so.dfd : Nat) + (cntL Rw.ct x.so.out : Nat) + (cntL (cntL Rw.ct) x.so.runs : Nat) + (cntL Tk.ct x.jn.pend : Nat) + (cntL Gt.ct x.ag.pend : Nat))] := by
  simp only [c_laws_heldOp, held_Sorter x.so k (by omega) (by omega) (by simp only [Opr.sz] at h2; omega), held_Joiner x.jn (k + (cntL Rw.ct x.so.inp : Nat) + (cntL Rw.ct x.so.heap : Nat) + (cntL Rw.ct x.so.dfd : Nat) + (cntL Rw.ct x.so.out : Nat) + (cntL (cntL Rw.ct) x.so.runs : Nat)) (by omega) (by omega) (by simp only [Opr.sz] at h2; omega), held_Aggregator x.ag (k + (cntL Rw.ct x.so.inp : Nat) + (cntL Rw.ct x.so.heap : Nat) + (cntL Rw.ct x.so.dfd : Nat) + (cntL Rw.ct x.so.out : Nat) + (cntL (cntL Rw.ct) x.so.runs : Nat) + (cntL Tk.ct x.jn.pend : Nat)) (by omega) (by omega) (by simp only [Opr.sz] at h2; omega), gn_c, gb_c, gs_c, gl_c, tk_s, tk_0, List.drop_succ_cons, List.drop_zero, List.headD_cons, List.getD_cons_zero, List.getD_cons_succ, bind_s, ltF (a := k + (cntL Rw.ct x.so.inp : Nat) + (cntL Rw.ct x.so.heap : Nat) + (cntL Rw.ct x.so.dfd : Nat) + (cntL Rw.ct x.so.out : Nat) + (cntL (cntL Rw.ct) x.so.runs : Nat)) (b := 0) (by omega), ltF (a := k + (cntL Rw.ct x.so.inp : Nat) + (cntL Rw.ct x.so.heap : Nat) + (cntL Rw.ct x.so.dfd : Nat) + (cntL Rw.ct x.so.out : Nat) + (cntL (cntL Rw.ct) x.so.runs : Nat) + (cntL Tk.ct x.jn.pend : Nat)) (b := 0) (by omega), ltF (a := k + (cntL Rw.ct x.so.inp : Nat) + (cntL Rw.ct x.so.heap : Nat) + (cntL Rw.ct x.so.dfd : Nat) + (cntL Rw.ct x.so.out : Nat) + (cntL (cntL Rw.ct) x.so.runs : Nat) + (cntL Tk.ct x.jn.pend : Nat) + (cntL Gt.ct x.ag.pend : Nat)) (b := 0) (by omega), cond_false]
end Go.Proofs.YtbmafhpbinjgaaaGreat.Vai
namespace Go.Proofs.YtbmafhpbinjgaaaGreat.Vai
open Go
set_option linter.unusedSimpArgs false
set_option linter.unusedVariables false
set_option linter.unnecessarySimpa false
theorem cnt_Rw : ∀ l : List Rw, cntL Rw.ct l = 3 * l.length
  | [] => rfl
  | a :: l => by simp only [cntL, cnt_Rw l, Rw.ct, List.length_cons]; omega
theorem cnt_c1 {α : Type} : ∀ l : List α, cntL c1 l = l.length
  | [] => rfl
  | a :: l => by simp only [cntL, c1, cnt_c1 l, List.length_cons]; omega
theorem cnt_RwS : ∀ l : List (List Rw), cntL (cntL Rw.ct) l ≤ 3 * szL List.length l
  | [] => Nat.zero_le _
  | a :: l => by have := cnt_RwS l; simp only [cntL, cnt_Rw a, szL]; omega
theorem cnt_Tk : ∀ l : List Tk, cntL Tk.ct l ≤ 5 * szL Tk.sz l
  | [] => Nat.zero_le _
  | a :: l => by
    have := cnt_Tk l
    have h1 := cnt_Rw a.left
    have h2 := cnt_Rw a.right
    have h3 := cnt_c1 a.mat
    simp only [cntL, szL, Tk.ct, Tk.sz, h1, h2, h3]; omega
theorem cnt_Gt : ∀ l : List Gt, cntL Gt.ct l ≤ 5 * szL Gt.sz l
  | [] => Nat.zero_le _
  | a :: l => by
    have := cnt_Gt l
    have h1 := cnt_Rw a.rows
    simp only [cntL, szL, Gt.ct, Gt.sz, h1]; omega
theorem So.cnt_le (y : So) : cntL Rw.ct y.inp + cntL Rw.ct y.heap + cntL Rw.ct y.dfd + cntL Rw.ct y.out + cntL (cntL Rw.ct) y.runs ≤ 5 * y.sz := by
  have := cnt_RwS y.runs
  simp only [cnt_Rw, So.sz]; omega
theorem Opr.cnt_le (y : Opr) : cntL Rw.ct y.so.inp + cntL Rw.ct y.so.heap + cntL Rw.ct y.so.dfd + cntL Rw.ct y.so.out + cntL (cntL Rw.ct) y.so.runs + cntL Tk.ct y.jn.pend + cntL Gt.ct y.ag.pend ≤ 5 * y.sz := by
  have h1 := y.so.cnt_le
  have h2 := cnt_Tk y.jn.pend
  have h3 := cnt_Gt y.ag.pend
  simp only [Opr.sz, Jn.sz, Ag.sz]; omega
theorem Xc.cnt_le (x : Xc) : cntL (cntL Rw.ct) x.pend + cntL (cntL Rw.ct) x.que + cntL (cntL Rw.ct) x.got ≤ 3 * x.sz := by
  have h1 := cnt_RwS x.pend
  have h2 := cnt_RwS x.que
  have h3 := cnt_RwS x.got
  simp only [Xc.sz]; omega
end Go.Proofs.YtbmafhpbinjgaaaGreat.Vai
namespace Go.Proofs.YtbmafhpbinjgaaaGreat.Vai
open Go
set_option linter.unusedSimpArgs false
set_option linter.unusedVariables false
set_option linter.unnecessarySimpa false
set_option maxRecDepth 100000
theorem c_laws_FnExactParseOp (a0 : ByteArray) : callI tE f_laws_FnExactParseOp [.str a0] = (bif (ltI 1048576 (szI a0)) then (some [(.bool Bool.true)]) else (((callI tE f_spec_ParseOp [(.str a0)])).bind (fun r0 => (((callI tE f_impl_ParseOp [(.str a0)])).bind (fun r1 => (((callI tE f_laws_eqOp [(.int (gn r1)), (.sl (gl (tk 1 r1))), (.int (gn (tk 2 r1))), (.sl (gl (tk 3 r1))), (.sl (gl (tk 4 r1))), (.sl (gl (tk 5 r1))), (.sl (gl (tk 6 r1))), (.int (gn (tk 7 r1))), (.int (gn (tk 8 r1))), (.int (gn (tk 9 r1))), (.int (gn (tk 10 r1))), (.sl (gl (tk 11 r1))), (.int (gn (tk 12 r1))), (.int (gn (tk 13 r1))), (.sl (gl (tk 14 r1))), (.int (gn (tk 15 r1))), (.bool (gb (tk 16 r1))), (.int (gn r0)), (.sl (gl (tk 1 r0))), (.int (gn (tk 2 r0))), (.sl (gl (tk 3 r0))), (.sl (gl (tk 4 r0))), (.sl (gl (tk 5 r0))), (.sl (gl (tk 6 r0))), (.int (gn (tk 7 r0))), (.int (gn (tk 8 r0))), (.int (gn (tk 9 r0))), (.int (gn (tk 10 r0))), (.sl (gl (tk 11 r0))), (.int (gn (tk 12 r0))), (.int (gn (tk 13 r0))), (.sl (gl (tk 14 r0))), (.int (gn (tk 15 r0))), (.bool (gb (tk 16 r0)))])).bind (fun r2 => (bif (!(gb r2)) then (some [(.bool Bool.false)]) else (bif (!(eqBo (gb (tk 17 r1)) (gb (tk 17 r0)))) then (some [(.bool Bool.false)]) else (((callI tE f_laws_markOp [(.int (gn r1)), (.sl (gl (tk 1 r1))), (.int (gn (tk 2 r1))), (.sl (gl (tk 3 r1))), (.sl (gl (tk 4 r1))), (.sl (gl (tk 5 r1))), (.sl (gl (tk 6 r1))), (.int (gn (tk 7 r1))), (.int (gn (tk 8 r1))), (.int (gn (tk 9 r1))), (.int (gn (tk 10 r1))), (.sl (gl (tk 11 r1))), (.int (gn (tk 12 r1))), (.int (gn (tk 13 r1))), (.sl (gl (tk 14 r1))), (.int (gn (tk 15 r1))), (.bool (gb (tk 16 r1))), (.int 1)])).bind (fun r3 => (((callI tE f_laws_heldOp [(.int (gn r1)), (.sl (gl (List.drop 1 r3))), (.int (gn (tk 2 r1))), (.sl (gl (tk 1 (List.drop 1 r3)))), (.sl (gl (tk 2 (List.drop 1 r3)))), (.sl (gl (tk 3 (List.drop 1 r3)))), (.sl (gl (tk 4 (List.drop 1 r3)))), (.int (gn (tk 7 r1))), (.int (gn (tk 8 r1))), (.int (gn (tk 9 r1))), (.int (gn (tk 10 r1))), (.sl (gl (tk 5 (List.drop 1 r3)))), (.int (gn (tk 12 r1))), (.int (gn (tk 13 r1))), (.sl (gl (tk 6 (List.drop 1 r3)))), (.int (gn (tk 15 r1))), (.bool (gb (tk 16 r1))), (.int 1)])).bind (fun r4 => (bif (ltI (gn r4) 0) then (some [(.bool Bool.false)]) else (bif (!(eqI (gn r4) (gn r3))) then (some [(.bool Bool.false)]) else (((callI tE f_impl_ParseOp [(.str a0)])).bind (fun r5 => (((callI tE f_laws_eqOp [(.int (gn r5)), (.sl (gl (tk 1 r5))), (.int (gn (tk 2 r5))), (.sl (gl (tk 3 r5))), (.sl (gl (tk 4 r5))), (.sl (gl (tk 5 r5))), (.sl (gl (tk 6 r5))), (.int (gn (tk 7 r5))), (.int (gn (tk 8 r5))), (.int (gn (tk 9 r5))), (.int (gn (tk 10 r5))), (.sl (gl (tk 11 r5))), (.int (gn (tk 12 r5))), (.int (gn (tk 13 r5))), (.sl (gl (tk 14 r5))), (.int (gn (tk 15 r5))), (.bool (gb (tk 16 r5))), (.int (gn r0)), (.sl (gl (tk 1 r0))), (.int (gn (tk 2 r0))), (.sl (gl (tk 3 r0))), (.sl (gl (tk 4 r0))), (.sl (gl (tk 5 r0))), (.sl (gl (tk 6 r0))), (.int (gn (tk 7 r0))), (.int (gn (tk 8 r0))), (.int (gn (tk 9 r0))), (.int (gn (tk 10 r0))), (.sl (gl (tk 11 r0))), (.int (gn (tk 12 r0))), (.int (gn (tk 13 r0))), (.sl (gl (tk 14 r0))), (.int (gn (tk 15 r0))), (.bool (gb (tk 16 r0)))])).bind (fun r6 => (bif (!(gb r6)) then (some [(.bool Bool.false)]) else (bif (!(eqBo (gb (tk 17 r5)) (gb (tk 17 r0)))) then (some [(.bool Bool.false)]) else (((callI tE f_laws_heldOp [(.int (gn r1)), (.sl (gl (List.drop 1 r3))), (.int (gn (tk 2 r1))), (.sl (gl (tk 1 (List.drop 1 r3)))), (.sl (gl (tk 2 (List.drop 1 r3)))), (.sl (gl (tk 3 (List.drop 1 r3)))), (.sl (gl (tk 4 (List.drop 1 r3)))), (.int (gn (tk 7 r1))), (.int (gn (tk 8 r1))), (.int (gn (tk 9 r1))), (.int (gn (tk 10 r1))), (.sl (gl (tk 5 (List.drop 1 r3)))), (.int (gn (tk 12 r1))), (.int (gn (tk 13 r1))), (.sl (gl (tk 6 (List.drop 1 r3)))), (.int (gn (tk 15 r1))), (.bool (gb (tk 16 r1))), (.int 1)])).bind (fun r7 => (bif (ltI (gn r7) 0) then (some [(.bool Bool.false)]) else (bif (!(eqI (gn r7) (gn r3))) then (some [(.bool Bool.false)]) else (some [(.bool Bool.true)])))))))))))))))))))))))))) := (callI_run rfl (by kernel_rfl)).trans (by kernel_rfl)
end Go.Proofs.YtbmafhpbinjgaaaGreat.Vai
namespace Go.Proofs.YtbmafhpbinjgaaaGreat.Vai
open Go
set_option linter.unusedSimpArgs false
set_option linter.unusedVariables false
set_option linter.unnecessarySimpa false
set_option maxRecDepth 10000
theorem markOpp (y : Opr) (h : y.sz ≤ 1073741824) : ∃ (m : Int) (a b c d e f g : Rows), callI tE f_laws_markOp [.int y.kind, .sl (y.so.inp.map Rw.e), .int y.so.pos, .sl (y.so.heap.map Rw.e), .sl (y.so.dfd.map Rw.e), .sl (y.so.out.map Rw.e), .sl (y.so.runs.map rsE), .int y.so.lp, .int y.so.rp, .int y.so.ph, .int y.so.wr, .sl (y.jn.pend.map Tk.e), .int y.jn.wr, .int y.jn.parts, .sl (y.ag.pend.map Gt.e), .int y.ag.wr, .bool y.ag.early, .int 1] = some [.int m, .sl a, .sl b, .sl c, .sl d, .sl e, .sl f, .sl g] ∧
    callI tE f_laws_heldOp [.int y.kind, .sl a, .int y.so.pos, .sl b, .sl c, .sl d, .sl e, .int y.so.lp, .int y.so.rp, .int y.so.ph, .int y.so.wr, .sl f, .int y.jn.wr, .int y.jn.parts, .sl g, .int y.ag.wr, .bool y.ag.early, .int 1] = some [.int m] ∧ 0 ≤ m := by
  have hc := y.cnt_le
  exact ⟨_, _, _, _, _, _, _, _, mark_Op y 1 (by omega) (by omega) (by omega), held_Op y 1 (by omega) (by omega) (by omega), by omega⟩
theorem pure_FnExactParseOp : ∀ ds, OkDs tE [.str] ds → callI tE f_laws_FnExactParseOp ds = some [.bool true] := by
  intro ds h0
  obtain ⟨_, _, rfl, i0, h1⟩ := h0.inv
  obtain ⟨b0, rfl, hb0⟩ := i0.str'
  obtain ⟨s0, rfl⟩ := of_S b0
  rw [S_size] at hb0
  obtain rfl := h1.nil_inv
  rw [c_laws_FnExactParseOp, szI_S]
  by_cases hs : s0.length ≤ 1048576
  · rw [ltF (by omega), cond_false, sParseOp s0 (by omega), iParseOp s0 (by omega)]
    have hz := opGet_sz s0 (by omega)
    unfold pOp
    generalize opGet s0 = y at *
    generalize isOp s0 = b at *
    obtain ⟨m, a1, a2, a3, a4, a5, a6, a7, e1, e2, e3⟩ := markOpp y (by omega)
    have e4 := eq_Op y y (by omega)
    simp only [OpR, gn_c, gb_c, gs_c, gl_c, tk_s, tk_0, List.drop_succ_cons, List.drop_zero, List.headD_cons, List.getD_cons_zero, List.getD_cons_succ, bind_s, e4, decide_true, eqBo_self, eqI_self, Bool.not_true, cond_false, e1, List.drop_succ_cons, List.drop_zero, e2, ltF e3]
  · rw [ltT (by omega)]; rfl
end Go.Proofs.YtbmafhpbinjgaaaGreat.Vai
