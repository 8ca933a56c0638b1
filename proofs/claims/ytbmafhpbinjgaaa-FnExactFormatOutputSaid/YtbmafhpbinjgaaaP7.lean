/- Pairs, groups and outputs as text; no condition. -/
import Derived.Test.YtbmafhpbinjgaaaEqD
import Derived.Test.YtbmafhpbinjgaaaP3
namespace Go.Proofs.Ytbmafhpbinjgaaa.Vai
open Go
set_option linter.unusedSimpArgs false
set_option linter.unusedVariables false
set_option linter.unnecessarySimpa false
set_option maxRecDepth 10000
theorem joinL_le {b : UInt8} {c : Nat} : ∀ {l : List (List UInt8)}, (∀ x ∈ l, x.length ≤ c) → (l.map fun x => x.length + [b].length).sum ≤ (c + 1) * l.length
  | [], _ => by simp
  | x :: l, h => by
    have h1 := h x (by simp)
    have ih := joinL_le (b := b) (l := l) (fun y hy => h y (by simp [hy]))
    simp only [List.map_cons, List.sum_cons, List.length_cons, List.length_nil] at ih ⊢
    rw [Nat.mul_add]; omega
theorem joinL_le' {b : UInt8} {c : Nat} {l : List (List UInt8)} (h : ∀ x ∈ l, x.length ≤ c) : (joinL [b] l).length ≤ (c + 1) * l.length := Nat.le_trans (joinL_len _ _) (joinL_le h)
def fmtP (p : Pr) : List UInt8 := if p.m then fmtR p.l ++ ([45] ++ fmtR p.r) else fmtR p.l
theorem fmtP_len (p : Pr) : (fmtP p).length ≤ 125 := by
  have h1 := fmtR_len p.l
  have h2 := fmtR_len p.r
  unfold fmtP
  split <;> simp <;> omega
def fmtPs (l : List Pr) : List UInt8 := joinL [32] (l.map fmtP)
theorem mapP_le (l : List Pr) : ∀ x ∈ l.map fmtP, x.length ≤ 125 := fun x hx => by obtain ⟨p, _, rfl⟩ := List.mem_map.mp hx; exact fmtP_len p
theorem fmtPs_len (l : List Pr) : (fmtPs l).length ≤ 126 * l.length := by have := joinL_le' (b := 32) (mapP_le l); simpa [fmtPs] using this
def fmtG (g : Gr) : List UInt8 := fmt g.key ++ [58] ++ fmt g.cnt ++ [44] ++ fmt g.sum ++ [44] ++ fmt g.lo ++ [44] ++ fmt g.hi
theorem fmtG_len (g : Gr) (h : g.bd) : (fmtG g).length ≤ 104 := by
  obtain ⟨h1, h2, h3, h4, h5⟩ := h
  have a1 := fmt_len h1
  have a2 := fmt_len h2
  have a3 := fmt_len h3
  have a4 := fmt_len h4
  have a5 := fmt_len h5
  simp only [fmtG, List.length_append, List.length_cons, List.length_nil]
  omega
def fmtGs (l : List Gr) : List UInt8 := joinL [32] (l.map fmtG)
theorem mapG_le {l : List Gr} (h : ∀ g ∈ l, g.bd) : ∀ x ∈ l.map fmtG, x.length ≤ 104 := fun x hx => by obtain ⟨p, hp, rfl⟩ := List.mem_map.mp hx; exact fmtG_len p (h p hp)
theorem fmtGs_len {l : List Gr} (h : ∀ g ∈ l, g.bd) : (fmtGs l).length ≤ 105 * l.length := by have := joinL_le' (b := 32) (mapG_le h); simpa [fmtGs] using this
theorem St_app (u : List (List UInt8)) (x : List UInt8) : List.append (u.map StE) [[Dat.str (S x)]] = (u ++ [x]).map StE := by simp [StE]
theorem iFormatPairs (l : List Pr) (h : l.length < 1073741824) : callI tE f_impl_FormatPairs [.sl (l.map Pr.e)] = some [.str (S (fmtPs l))] := by
  rw [c_impl_FormatPairs]
  have hj := joinL_le (b := 32) (mapP_le l)
  rw [List.length_map] at hj
  have := zip_loop (l := l) (L := fun (s : List (List UInt8)) i => L_impl_FormatPairs_0 (l.map Pr.e) (lenI (l.map Pr.e)) i (s.map StE)) (F := fun _ _ => some [.str (S (fmtPs l))]) (I := fun s u _ => s = u.map fmtP) (by omega) (fun u p v s e hI => by
    have hul : u.length < 1099511627776 := by rw [e] at h; simp at h; omega
    have l1 := fmtR_len p.l
    have l2 := fmtR_len p.r
    refine .inl ⟨(u ++ [p]).map fmtP, ?_, rfl, rfl⟩
    show L_impl_FormatPairs_0 _ _ _ _ = L_impl_FormatPairs_0 _ _ _ _
    have hf : fitM (Nat.succ (u.map fmtP).length) 16 = true := fitT (by simp; omega)
    subst e
    rw [L_impl_FormatPairs_0_eq, hI]
    simp only [lt_m, in_m, tn_c, at_m, cond_true, Pr.e, gn_c, gb_c, gs_c, gl_c, tk_s, tk_0, List.drop_succ_cons, List.drop_zero, List.headD_cons, List.getD_cons_zero, List.getD_cons_succ, bind_s, iFormatRow p.l, iFormatRow p.r, len_map]
    rw [List.length_map] at hf
    rw [List.length_map, hf, fitS_S (by simp; omega), S_app, fitS_S (by simp; omega), S_app]
    simp only [cond_true, St_app]
    cases hm : p.m <;> simp [fmtP, hm]) (fun s hs => by
    show L_impl_FormatPairs_0 _ _ _ _ = _
    rw [L_impl_FormatPairs_0_eq, lt_e, cond_false, hs, iJoined [32] (l.map fmtP) (by simp; omega) (by omega)]; rfl) [] rfl
  exact this
theorem sFormatPairs (l : List Pr) (h : l.length < 1073741824) : callI tE f_spec_FormatPairs [.sl (l.map Pr.e)] = some [.str (S (fmtPs l))] := by
  rw [c_spec_FormatPairs]
  have := zip_loop (l := l) (L := fun s i => L_spec_FormatPairs_0 (l.map Pr.e) (S s) i) (F := fun _ _ => some [.str (S (fmtPs l))]) (I := fun s u _ => s = fmtPs u) (by omega) (fun u p v s e hI => by
    have hul : u.length < 1073741824 := by rw [e] at h; simp at h; omega
    have l0 := fmtPs_len u
    have l1 := fmtR_len p.l
    have l2 := fmtR_len p.r
    refine .inl ⟨fmtPs (u ++ [p]), ?_, rfl, rfl⟩
    show L_spec_FormatPairs_0 _ _ _ = L_spec_FormatPairs_0 _ _ _
    have ej : fmtPs (u ++ [p]) = if u = [] then fmtP p else fmtPs u ++ [32] ++ fmtP p := by
      unfold fmtPs
      rw [List.map_append, List.map_cons, List.map_nil, jl_snoc]
      simp
    subst e
    rw [L_spec_FormatPairs_0_eq, hI, ej]
    simp only [lt_m, in_m, tn_c, at_m, cond_true, Pr.e, gn_c, gb_c, gs_c, gl_c, tk_s, tk_0, List.drop_succ_cons, List.drop_zero, List.headD_cons, List.getD_cons_zero, List.getD_cons_succ, bind_s, sFormatRow p.l, sFormatRow p.r]
    by_cases hu : u = []
    · have e0 : fmtPs u = [] := by rw [hu]; rfl
      rw [if_pos hu, ltF (by simp [hu]), e0, cond_false, fitS_S (by simp; omega), S_app, fitS_S (by simp; omega), S_app, fitS_S (by simp; omega), S_app]
      simp only [cond_true]
      cases hm : p.m <;> simp [fmtP, hm]
    · have hul : 0 < u.length := List.length_pos_iff.mpr hu
      rw [if_neg hu, ltT (by omega), cond_true, fitS_S (by simp; omega), S_app, fitS_S (by simp; omega), S_app, fitS_S (by simp; omega), S_app, fitS_S (by simp; omega), S_app]
      simp only [cond_true]
      cases hm : p.m <;> simp [fmtP, hm]) (fun s hs => by
    show L_spec_FormatPairs_0 _ _ _ = _
    rw [L_spec_FormatPairs_0_eq, lt_e, cond_false, hs]) [] rfl
  exact this
theorem iGroupText (g : Gr) (h : g.bd) : callI tE f_impl_groupText [.int g.key, .int g.cnt, .int g.sum, .int g.lo, .int g.hi] = some [.str (S (fmtG g))] := by
  obtain ⟨h1, h2, h3, h4, h5⟩ := h
  have a1 := fmt_len h1
  have a2 := fmt_len h2
  have a3 := fmt_len h3
  have a4 := fmt_len h4
  have a5 := fmt_len h5
  simp only [c_impl_groupText, iFormatInt_ok h1, iFormatInt_ok h2, iFormatInt_ok h3, iFormatInt_ok h4, iFormatInt_ok h5, gn_c, gb_c, gs_c, gl_c, tk_s, tk_0, List.drop_succ_cons, List.drop_zero, List.headD_cons, List.getD_cons_zero, List.getD_cons_succ, bind_s]
  rw [fitS_S (by simp; omega), S_app, fitS_S (by simp; omega), S_app, fitS_S (by simp; omega), S_app, fitS_S (by simp; omega), S_app, fitS_S (by simp; omega), S_app, fitS_S (by simp; omega), S_app, fitS_S (by simp; omega), S_app, fitS_S (by simp; omega), S_app]
  rfl
theorem iFormatGroups (l : List Gr) (h : l.length < 1073741824) (hb : ∀ g ∈ l, g.bd) : callI tE f_impl_FormatGroups [.sl (l.map Gr.e)] = some [.str (S (fmtGs l))] := by
  rw [c_impl_FormatGroups]
  have hj := joinL_le (b := 32) (mapG_le hb)
  rw [List.length_map] at hj
  have := zip_loop (l := l) (L := fun (s : List (List UInt8)) i => L_impl_FormatGroups_0 (l.map Gr.e) (lenI (l.map Gr.e)) i (s.map StE)) (F := fun _ _ => some [.str (S (fmtGs l))]) (I := fun s u _ => s = u.map fmtG) (by omega) (fun u g v s e hI => by
    have hul : u.length < 1099511627776 := by rw [e] at h; simp at h; omega
    have hg := hb g (by rw [e]; simp)
    refine .inl ⟨(u ++ [g]).map fmtG, ?_, rfl, rfl⟩
    show L_impl_FormatGroups_0 _ _ _ _ = L_impl_FormatGroups_0 _ _ _ _
    have hf : fitM (Nat.succ u.length) 16 = true := fitT (by omega)
    subst e
    rw [L_impl_FormatGroups_0_eq, hI]
    simp only [lt_m, in_m, tn_c, at_m, cond_true, Gr.e, gn_c, gb_c, gs_c, gl_c, tk_s, tk_0, List.drop_succ_cons, List.drop_zero, List.headD_cons, List.getD_cons_zero, List.getD_cons_succ, bind_s, iGroupText g hg, len_map]
    rw [List.length_map, hf, cond_true, St_app]
    simp) (fun s hs => by
    show L_impl_FormatGroups_0 _ _ _ _ = _
    rw [L_impl_FormatGroups_0_eq, lt_e, cond_false, hs, iJoined [32] (l.map fmtG) (by simp; omega) (by omega)]; rfl) [] rfl
  exact this
theorem sFormatGroups (l : List Gr) (h : l.length < 1073741824) (hb : ∀ g ∈ l, g.bd) : callI tE f_spec_FormatGroups [.sl (l.map Gr.e)] = some [.str (S (fmtGs l))] := by
  rw [c_spec_FormatGroups]
  have := zip_loop (l := l) (L := fun s i => L_spec_FormatGroups_0 (l.map Gr.e) (S s) i) (F := fun _ _ => some [.str (S (fmtGs l))]) (I := fun s u _ => s = fmtGs u) (by omega) (fun u g v s e hI => by
    have hul : u.length < 1073741824 := by rw [e] at h; simp at h; omega
    have l0 := fmtGs_len (l := u) (fun x hx => hb x (by rw [e]; simp [hx]))
    obtain ⟨h1, h2, h3, h4, h5⟩ := hb g (by rw [e]; simp)
    have a1 := fmt_len h1
    have a2 := fmt_len h2
    have a3 := fmt_len h3
    have a4 := fmt_len h4
    have a5 := fmt_len h5
    refine .inl ⟨fmtGs (u ++ [g]), ?_, rfl, rfl⟩
    show L_spec_FormatGroups_0 _ _ _ = L_spec_FormatGroups_0 _ _ _
    have ej : fmtGs (u ++ [g]) = if u = [] then fmtG g else fmtGs u ++ [32] ++ fmtG g := by
      unfold fmtGs
      rw [List.map_append, List.map_cons, List.map_nil, jl_snoc]
      simp
    subst e
    rw [L_spec_FormatGroups_0_eq, hI, ej]
    simp only [lt_m, in_m, tn_c, at_m, cond_true, Gr.e, gn_c, gb_c, gs_c, gl_c, tk_s, tk_0, List.drop_succ_cons, List.drop_zero, List.headD_cons, List.getD_cons_zero, List.getD_cons_succ, bind_s, List.drop_succ_cons, List.drop_zero, sFormatInt_ok h1, sFormatInt_ok h2, sFormatInt_ok h3, sFormatInt_ok h4, sFormatInt_ok h5]
    by_cases hu : u = []
    · have e0 : fmtGs u = [] := by rw [hu]; rfl
      rw [if_pos hu, ltF (by simp [hu]), e0, cond_false, fitS_S (by simp; omega), S_app, fitS_S (by simp; omega), S_app, fitS_S (by simp; omega), S_app, fitS_S (by simp; omega), S_app, fitS_S (by simp; omega), S_app, fitS_S (by simp; omega), S_app, fitS_S (by simp; omega), S_app, fitS_S (by simp; omega), S_app, fitS_S (by simp; omega), S_app]
      simp only [cond_true, List.nil_append]
      rfl
    · have hul : 0 < u.length := List.length_pos_iff.mpr hu
      rw [if_neg hu, ltT (by omega), cond_true, fitS_S (by simp; omega), S_app, fitS_S (by simp; omega), S_app, fitS_S (by simp; omega), S_app, fitS_S (by simp; omega), S_app, fitS_S (by simp; omega), S_app, fitS_S (by simp; omega), S_app, fitS_S (by simp; omega), S_app, fitS_S (by simp; omega), S_app, fitS_S (by simp; omega), S_app, fitS_S (by simp; omega), S_app]
      simp only [cond_true, fmtG, List.append_assoc]) (fun s hs => by
    show L_spec_FormatGroups_0 _ _ _ = _
    rw [L_spec_FormatGroups_0_eq, lt_e, cond_false, hs]) [] rfl
  exact this
def fmtO (o : Ou) : List UInt8 := [40] ++ fmtRs o.rows ++ [41, 40] ++ fmtPs o.pairs ++ [41, 40] ++ fmtGs o.groups ++ [41]
theorem iFormatOutput (o : Ou) (h : o.sz ≤ 1073741823) (hb : ∀ g ∈ o.groups, g.bd) : callI tE f_impl_FormatOutput [.sl (o.rows.map Rw.e), .sl (o.pairs.map Pr.e), .sl (o.groups.map Gr.e)] = some [.str (S (fmtO o))] := by
  simp only [Ou.sz] at h
  have l1 := fmtRs_len o.rows
  have l2 := fmtPs_len o.pairs
  have l3 := fmtGs_len hb
  simp only [c_impl_FormatOutput, iFormatRows, iFormatPairs o.pairs (by omega), iFormatGroups o.groups (by omega) hb, gn_c, gb_c, gs_c, gl_c, tk_s, tk_0, List.drop_succ_cons, List.drop_zero, List.headD_cons, List.getD_cons_zero, List.getD_cons_succ, bind_s]
  rw [fitS_S (by simp; omega), S_app, fitS_S (by simp; omega), S_app, fitS_S (by simp; omega), S_app, fitS_S (by simp; omega), S_app, fitS_S (by simp; omega), S_app, fitS_S (by simp; omega), S_app]
  rfl
theorem sFormatOutput (o : Ou) (h : o.sz ≤ 1073741823) (hb : ∀ g ∈ o.groups, g.bd) : callI tE f_spec_FormatOutput [.sl (o.rows.map Rw.e), .sl (o.pairs.map Pr.e), .sl (o.groups.map Gr.e)] = some [.str (S (fmtO o))] := by
  simp only [Ou.sz] at h
  have l1 := fmtRs_len o.rows
  have l2 := fmtPs_len o.pairs
  have l3 := fmtGs_len hb
  simp only [c_spec_FormatOutput, sFormatRows o.rows (by omega), sFormatPairs o.pairs (by omega), sFormatGroups o.groups (by omega) hb, gn_c, gb_c, gs_c, gl_c, tk_s, tk_0, List.drop_succ_cons, List.drop_zero, List.headD_cons, List.getD_cons_zero, List.getD_cons_succ, bind_s]
  rw [fitS_S (by simp; omega), S_app, fitS_S (by simp; omega), S_app, fitS_S (by simp; omega), S_app, fitS_S (by simp; omega), S_app, fitS_S (by simp; omega), S_app, fitS_S (by simp; omega), S_app]
  rfl
end Go.Proofs.Ytbmafhpbinjgaaa.Vai
