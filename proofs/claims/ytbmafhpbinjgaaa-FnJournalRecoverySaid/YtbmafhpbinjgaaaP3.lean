/- Rows as text; no condition. -/
import Derived.Test.YtbmafhpbinjgaaaP2
import Derived.Test.YtbmafhpbinjgaaaPU
namespace Go.Proofs.Ytbmafhpbinjgaaa.Vai
open Go
set_option linter.unusedSimpArgs false
set_option linter.unusedVariables false
set_option linter.unnecessarySimpa false
set_option maxRecDepth 10000
/-! one row -/
def fmtR (r : Rw) : List UInt8 := if r.ok then joinL [46] [fmt r.k, fmt r.v, fmt r.w] else []
theorem fmtR_ok {r : Rw} (h : r.ok = true) : fmtR r = joinL [46] [fmt r.k, fmt r.v, fmt r.w] := if_pos h
theorem fmtR_bad {r : Rw} (h : r.ok = false) : fmtR r = [] := if_neg (by simp [h])
theorem ok_i64 {r : Rw} (h : r.ok = true) : I64 r.k ∧ I64 r.v ∧ I64 r.w ∧ r.k.natAbs < 1000000000 ∧ r.v.natAbs < 1000000000 ∧ r.w.natAbs < 1000000000 := by
  have := Rw.ok_iff.mp h
  exact ⟨⟨by omega, by omega⟩, ⟨by omega, by omega⟩, ⟨by omega, by omega⟩, by omega, by omega, by omega⟩
theorem joinL_3 (b x y z : List UInt8) : joinL b [x, y, z] = x ++ b ++ y ++ b ++ z := by simp [joinL]
theorem fmtR_len (r : Rw) : (fmtR r).length ≤ 62 := by
  unfold fmtR
  split
  · rename_i h
    obtain ⟨h1, h2, h3, _⟩ := ok_i64 h
    have a1 := fmt_len h1
    have a2 := fmt_len h2
    have a3 := fmt_len h3
    rw [joinL_3]; simp; omega
  · simp
theorem fmtR_cut {r : Rw} (h : r.ok = true) : cutL 46 (fmtR r) = [fmt r.k, fmt r.v, fmt r.w] := by
  rw [fmtR_ok h]
  refine cut_join 46 _ (by simp) fun x hx => ?_
  simp only [List.mem_cons, List.not_mem_nil, or_false] at hx
  rcases hx with rfl | rfl | rfl <;> exact fmt_nosep (by decide) (by decide) _
theorem fmtR_inj (a b : Rw) (ha : a.ok = true) (hb : b.ok = true) (h : fmtR a = fmtR b) : a = b := by
  have e1 := fmtR_cut ha
  rw [h, fmtR_cut hb] at e1
  simp only [List.cons.injEq, and_true] at e1
  exact Rw.eq_of (fmt_inj e1.1).symm (fmt_inj e1.2.1).symm (fmt_inj e1.2.2).symm
theorem fmtR_ne {r : Rw} (h : r.ok = true) : fmtR r ≠ [] := by
  rw [fmtR_ok h, joinL_3]; simp
theorem fmtR_nosep {b : UInt8} (hb : isDig b = false) (h45 : b ≠ 45) (h46 : b ≠ 46) (r : Rw) : b ∉ fmtR r := by
  unfold fmtR
  split
  · rw [joinL_3]
    simp only [List.mem_append, List.mem_singleton, not_or]
    exact ⟨⟨⟨⟨fmt_nosep hb h45 _, h46⟩, fmt_nosep hb h45 _⟩, h46⟩, fmt_nosep hb h45 _⟩
  · simp
theorem iFormatRow (r : Rw) : callI tE f_impl_FormatRow [.int r.k, .int r.v, .int r.w] = some [.str (S (fmtR r))] := by
  simp only [c_impl_FormatRow, iValidRow, gn_c, gb_c, gs_c, gl_c, tk_s, tk_0, List.drop_succ_cons, List.drop_zero, List.headD_cons, List.getD_cons_zero, List.getD_cons_succ, bind_s]
  cases h : r.ok
  · rw [fmtR_bad h]; rfl
  · obtain ⟨h1, h2, h3, _⟩ := ok_i64 h
    have a1 := fmt_len h1
    have a2 := fmt_len h2
    have a3 := fmt_len h3
    simp only [Bool.not_true, cond_false, iFormatInt_ok h1, iFormatInt_ok h2, iFormatInt_ok h3, gn_c, gb_c, gs_c, gl_c, tk_s, tk_0, List.drop_succ_cons, List.drop_zero, List.headD_cons, List.getD_cons_zero, List.getD_cons_succ, bind_s]
    rw [fitS_S (by simp; omega), S_app, fitS_S (by simp; omega), S_app, fitS_S (by simp; omega), S_app, fitS_S (by simp; omega), S_app, fmtR_ok h, joinL_3]
    rfl
theorem sFormatRow (r : Rw) : callI tE f_spec_FormatRow [.int r.k, .int r.v, .int r.w] = some [.str (S (fmtR r))] := by
  simp only [c_spec_FormatRow, sValidRow, gn_c, gb_c, gs_c, gl_c, tk_s, tk_0, List.drop_succ_cons, List.drop_zero, List.headD_cons, List.getD_cons_zero, List.getD_cons_succ, bind_s]
  cases h : r.ok
  · rw [fmtR_bad h]; rfl
  · obtain ⟨h1, h2, h3, _⟩ := ok_i64 h
    have a1 := fmt_len h1
    have a2 := fmt_len h2
    have a3 := fmt_len h3
    simp only [Bool.not_true, cond_false, sFormatInt_ok h1, sFormatInt_ok h2, sFormatInt_ok h3, gn_c, gb_c, gs_c, gl_c, tk_s, tk_0, List.drop_succ_cons, List.drop_zero, List.headD_cons, List.getD_cons_zero, List.getD_cons_succ, bind_s]
    rw [fitS_S (by simp; omega), S_app, fitS_S (by simp; omega), S_app, fitS_S (by simp; omega), S_app, fitS_S (by simp; omega), S_app, fmtR_ok h, joinL_3]
    rfl
noncomputable def parseR (s : List UInt8) : Option Rw := unf (fun r : Rw => r.ok = true) fmtR s
theorem parseR_some {s : List UInt8} {r : Rw} : parseR s = some r ↔ r.ok = true ∧ fmtR r = s := unf_some fmtR_inj
theorem parseR_none {s : List UInt8} : parseR s = none ↔ ∀ r : Rw, r.ok = true → fmtR r ≠ s := unf_none
noncomputable def pR (s : List UInt8) : List Dat := match parseR s with
  | some r => [.int r.k, .int r.v, .int r.w, .bool true]
  | none => [.int 0, .int 0, .int 0, .bool false]
theorem pR_n3 {s : List UInt8} (h : (cutL 46 s).length ≠ 3) : pR s = [.int 0, .int 0, .int 0, .bool false] := by
  unfold pR
  rw [parseR_none.mpr fun r hr e => h (by rw [← e, fmtR_cut hr]; rfl)]
theorem pR_3 {s a b c : List UInt8} (h : cutL 46 s = [a, b, c]) : pR s = bif isN a && (isN b && (isN c && (⟨num a, num b, num c⟩ : Rw).ok)) then [.int (num a), .int (num b), .int (num c), .bool true] else [.int 0, .int 0, .int 0, .bool false] := by
  have hs : joinL [46] [a, b, c] = s := by rw [← h]; exact join_cut 46 s
  unfold pR
  cases hb : isN a && (isN b && (isN c && (⟨num a, num b, num c⟩ : Rw).ok))
  · rw [parseR_none.mpr fun r hr e => ?_]
    · rfl
    · have e2 := fmtR_cut hr
      rw [e, h] at e2
      simp only [List.cons.injEq, and_true] at e2
      obtain ⟨rfl, rfl, rfl⟩ := e2
      obtain ⟨_, _, _, q1, q2, q3⟩ := ok_i64 hr
      obtain ⟨u1, u2⟩ := num_fmt q1
      obtain ⟨u3, u4⟩ := num_fmt q2
      obtain ⟨u5, u6⟩ := num_fmt q3
      rw [u1, u2, u3, u4, u5, u6] at hb
      have : (⟨r.k, r.v, r.w⟩ : Rw) = r := rfl
      rw [this, hr] at hb
      cases hb
  · simp only [Bool.and_eq_true] at hb
    obtain ⟨h1, h2, h3, h4⟩ := hb
    rw [parseR_some.mpr ⟨h4, by rw [fmtR_ok h4]; simp only [(isN_num h1).1, (isN_num h2).1, (isN_num h3).1]; exact hs⟩]
    rfl
theorem iParseRow (s : List UInt8) (hs : s.length < 1099511627776) : callI tE f_impl_ParseRow [.str (S s)] = some (pR s) := by
  rw [c_impl_ParseRow]
  have hc := iCut 46 s hs
  rw [show ((46 : UInt8).toNat : Int) = 46 from rfl] at hc
  simp only [hc, gn_c, gb_c, gs_c, gl_c, tk_s, tk_0, List.drop_succ_cons, List.drop_zero, List.headD_cons, List.getD_cons_zero, List.getD_cons_succ, bind_s]
  rw [show eqI (lenI ((cutL 46 s).map StE)) 3 = decide ((cutL 46 s).length = 3) from eqI_len StE _ 3]
  by_cases h3 : (cutL 46 s).length = 3
  · rw [decide_eq_true h3]
    obtain ⟨a, b, c, hl⟩ := list3 h3
    have la : a.length < 4611686018427387904 := by have := cutL_sub (b := 46) (s := s) (x := a) (by rw [hl]; simp); omega
    have lb : b.length < 4611686018427387904 := by have := cutL_sub (b := 46) (s := s) (x := b) (by rw [hl]; simp); omega
    have lc : c.length < 4611686018427387904 := by have := cutL_sub (b := 46) (s := s) (x := c) (by rw [hl]; simp); omega
    rw [pR_3 hl, hl]
    simp only [List.map_cons, List.map_nil, StE, tn_0, tn_1, tn_2, gn_c, gb_c, gs_c, gl_c, tk_s, tk_0, List.drop_succ_cons, List.drop_zero, List.headD_cons, List.getD_cons_zero, List.getD_cons_succ, bind_s, iParseInt a la, iParseInt b lb, iParseInt c lc, pI_eq, iValidRow ⟨num a, num b, num c⟩, Bool.not_true, cond_false, bifn]
    cases isN a <;> cases isN b <;> cases isN c <;> cases (⟨num a, num b, num c⟩ : Rw).ok <;> rfl
  · rw [decide_eq_false h3, pR_n3 h3]; rfl
theorem sParseRow (s : List UInt8) (hs : s.length < 1099511627776) : callI tE f_spec_ParseRow [.str (S s)] = some (pR s) := by
  rw [c_spec_ParseRow]
  have hc := sCut 46 s hs
  rw [show ((46 : UInt8).toNat : Int) = 46 from rfl] at hc
  simp only [hc, gn_c, gb_c, gs_c, gl_c, tk_s, tk_0, List.drop_succ_cons, List.drop_zero, List.headD_cons, List.getD_cons_zero, List.getD_cons_succ, bind_s]
  rw [show eqI (lenI ((cutL 46 s).map StE)) 3 = decide ((cutL 46 s).length = 3) from eqI_len StE _ 3]
  by_cases h3 : (cutL 46 s).length = 3
  · rw [decide_eq_true h3]
    obtain ⟨a, b, c, hl⟩ := list3 h3
    have la : a.length < 4611686018427387904 := by have := cutL_sub (b := 46) (s := s) (x := a) (by rw [hl]; simp); omega
    have lb : b.length < 4611686018427387904 := by have := cutL_sub (b := 46) (s := s) (x := b) (by rw [hl]; simp); omega
    have lc : c.length < 4611686018427387904 := by have := cutL_sub (b := 46) (s := s) (x := c) (by rw [hl]; simp); omega
    have hsj : joinL [46] [a, b, c] = s := by rw [← hl]; exact join_cut 46 s
    have hne : s ≠ [] := by rw [← hsj, joinL_3]; simp
    rw [hl]
    simp only [List.map_cons, List.map_nil, StE, tn_0, tn_1, tn_2, gn_c, gb_c, gs_c, gl_c, tk_s, tk_0, List.drop_succ_cons, List.drop_zero, List.headD_cons, List.getD_cons_zero, List.getD_cons_succ, bind_s, sParseInt a la, sParseInt b lb, sParseInt c lc, pI_eq, sFormatRow ⟨num a, num b, num c⟩, Bool.not_true, cond_false, bifn, eqS_S]
    show (bif decide (fmtR ⟨num a, num b, num c⟩ = s) then some [Dat.int (num a), .int (num b), .int (num c), .bool true] else some [.int 0, .int 0, .int 0, .bool false]) = some (pR s)
    unfold pR
    by_cases he : fmtR ⟨num a, num b, num c⟩ = s
    · rw [decide_eq_true he]
      have hok : (⟨num a, num b, num c⟩ : Rw).ok = true := by
        cases h : (⟨num a, num b, num c⟩ : Rw).ok with
        | true => rfl
        | false => rw [fmtR_bad h] at he; exact absurd he.symm hne
      rw [parseR_some.mpr ⟨hok, he⟩]; rfl
    · rw [decide_eq_false he, parseR_none.mpr fun r hr e => he ?_]
      · rfl
      · have e2 := fmtR_cut hr
        rw [e, hl] at e2
        simp only [List.cons.injEq, and_true] at e2
        obtain ⟨rfl, rfl, rfl⟩ := e2
        obtain ⟨_, _, _, q1, q2, q3⟩ := ok_i64 hr
        rw [(num_fmt q1).1, (num_fmt q2).1, (num_fmt q3).1]
        exact e
  · rw [decide_eq_false h3, pR_n3 h3]; rfl
/-! rows -/
/-- the rows' texts with spaces between -/
def txtRs (l : List Rw) : List UInt8 := joinL [32] (l.map fmtR)
def fmtRs (l : List Rw) : List UInt8 := if aok l then txtRs l else []
theorem fmtRs_ok {l : List Rw} (h : aok l = true) : fmtRs l = txtRs l := if_pos h
theorem fmtRs_bad {l : List Rw} (h : aok l = false) : fmtRs l = [] := if_neg (by simp [h])
theorem txt_sum (l : List Rw) : ((l.map fmtR).map fun x => x.length + [(32 : UInt8)].length).sum ≤ 63 * l.length := by
  induction l with
  | nil => simp
  | cons a l ih =>
    have := fmtR_len a
    simp only [List.map_cons, List.sum_cons, List.length_cons, List.length_nil] at ih ⊢
    omega
theorem txtRs_len (l : List Rw) : (txtRs l).length ≤ 63 * l.length := Nat.le_trans (joinL_len _ _) (txt_sum l)
theorem fmtRs_len (l : List Rw) : (fmtRs l).length ≤ 1512 := by
  unfold fmtRs
  split
  · rename_i h; have := aok_len h; have := txtRs_len l; omega
  · simp
theorem txtRs_cut {l : List Rw} (h : l ≠ []) : cutL 32 (txtRs l) = l.map fmtR := by
  refine cut_join 32 _ (by simpa using h) fun x hx => ?_
  obtain ⟨r, _, rfl⟩ := List.mem_map.mp hx
  exact fmtR_nosep (by decide) (by decide) (by decide) r
theorem map_fmtR_inj : ∀ {l m : List Rw}, (∀ r ∈ l, r.ok = true) → (∀ r ∈ m, r.ok = true) → l.map fmtR = m.map fmtR → l = m
  | [], [], _, _, _ => rfl
  | [], _ :: _, _, _, h => by simp at h
  | _ :: _, [], _, _, h => by simp at h
  | a :: l, b :: m, h1, h2, h => by
    simp only [List.map_cons, List.cons.injEq] at h
    rw [fmtR_inj a b (h1 a (by simp)) (h2 b (by simp)) h.1, map_fmtR_inj (fun r hr => h1 r (by simp [hr])) (fun r hr => h2 r (by simp [hr])) h.2]
theorem txtRs_nil {l : List Rw} (ha : ∀ r ∈ l, r.ok = true) (h : txtRs l = []) : l = [] := by
  cases l with
  | nil => rfl
  | cons a l =>
    have h1 := fmtR_ne (ha a (by simp))
    cases l with
    | nil => exact absurd h h1
    | cons b l =>
      have : txtRs (a :: b :: l) = fmtR a ++ [32] ++ txtRs (b :: l) := joinL_cons (by simp)
      rw [this] at h
      simp at h
theorem txtRs_inj {l m : List Rw} (h1 : ∀ r ∈ l, r.ok = true) (h2 : ∀ r ∈ m, r.ok = true) (h : txtRs l = txtRs m) : l = m := by
  by_cases hl : l = []
  · subst hl
    exact (txtRs_nil h2 h.symm).symm
  · by_cases hm : m = []
    · subst hm; exact txtRs_nil h1 h
    · have e := txtRs_cut hl
      rw [h, txtRs_cut hm] at e
      exact (map_fmtR_inj h2 h1 e).symm
theorem fmtRs_inj (l m : List Rw) (h1 : aok l = true) (h2 : aok m = true) (h : fmtRs l = fmtRs m) : l = m := by
  rw [fmtRs_ok h1, fmtRs_ok h2] at h
  exact txtRs_inj (aok_all h1) (aok_all h2) h
noncomputable def parseRs (s : List UInt8) : Option (List Rw) := unf (fun l => aok l = true) fmtRs s
theorem parseRs_some {s : List UInt8} {l : List Rw} : parseRs s = some l ↔ aok l = true ∧ fmtRs l = s := unf_some fmtRs_inj
theorem parseRs_none {s : List UInt8} : parseRs s = none ↔ ∀ l : List Rw, aok l = true → fmtRs l ≠ s := unf_none
noncomputable def pRs (s : List UInt8) : List Dat := match parseRs s with
  | some l => [.sl (l.map Rw.e), .bool true]
  | none => [.sl [], .bool false]
theorem pRs_nil : pRs [] = [.sl [], .bool true] := by
  unfold pRs
  rw [show parseRs [] = some [] from parseRs_some.mpr ⟨rfl, rfl⟩]; rfl
theorem StE_app (u : List (List UInt8)) (r : Rw) : List.append (u.map StE) [[Dat.str (S (fmtR r))]] = (u ++ [fmtR r]).map StE := by simp [StE]
theorem sumR_lt {l : List Rw} (h : l.length < 1099511627776) : ((l.map fmtR).map fun x => x.length + [(32 : UInt8)].length).sum < 4611686018427387904 := by
  have := txt_sum l; omega
theorem iRowTexts (l : List Rw) (h : l.length < 1099511627776) : callI tE f_impl_rowTexts [.sl (l.map Rw.e)] = some [.str (S (txtRs l))] := by
  rw [c_impl_rowTexts]
  have := zip_loop (l := l) (L := fun (s : List (List UInt8)) i => L_impl_rowTexts_0 (l.map Rw.e) (lenI (l.map Rw.e)) i (s.map StE)) (F := fun _ _ => some [.str (S (txtRs l))]) (I := fun s u _ => s = u.map fmtR) (by omega) (fun u r v s e hI => by
    have hul : u.length < 1099511627776 := by rw [e] at h; simp at h; omega
    refine .inl ⟨(u ++ [r]).map fmtR, ?_, rfl, rfl⟩
    show L_impl_rowTexts_0 _ _ _ _ = L_impl_rowTexts_0 _ _ _ _
    subst e
    rw [L_impl_rowTexts_0_eq, hI]
    simp only [lt_m, in_m, tn_c, at_m, cond_true, Rw.e, gn_c, gb_c, gs_c, gl_c, tk_s, tk_0, List.drop_succ_cons, List.drop_zero, List.headD_cons, List.getD_cons_zero, List.getD_cons_succ, bind_s, iFormatRow, len_map]
    rw [show fitM (Nat.succ (u.map fmtR).length) 16 = true from fitT (by simp; omega), StE_app]
    simp) (fun s hs => by
    show L_impl_rowTexts_0 _ _ _ _ = _
    rw [L_impl_rowTexts_0_eq, lt_e, cond_false, hs, iJoined [32] (l.map fmtR) (by simp; omega) (sumR_lt h)]; rfl) [] rfl
  exact this
theorem iFormatRows (l : List Rw) : callI tE f_impl_FormatRows [.sl (l.map Rw.e)] = some [.str (S (fmtRs l))] := by
  simp only [c_impl_FormatRows, iAreValid, gn_c, gb_c, gs_c, gl_c, tk_s, tk_0, List.drop_succ_cons, List.drop_zero, List.headD_cons, List.getD_cons_zero, List.getD_cons_succ, bind_s]
  cases h : aok l
  · rw [fmtRs_bad h]; rfl
  · have := aok_len h
    rw [Bool.not_true, cond_false, iRowTexts l (by omega), fmtRs_ok h]; rfl
theorem sFormatRows (l : List Rw) (h : l.length < 1099511627776) : callI tE f_spec_FormatRows [.sl (l.map Rw.e)] = some [.str (S (fmtRs l))] := by
  rw [c_spec_FormatRows]
  cases hok : aok l
  · rw [fmtRs_bad hok, L_spec_FormatRows_0_eq, sAreValid l (by omega), hok]
    cases ltI 0 (lenI (l.map Rw.e)) <;> rfl
  · rw [fmtRs_ok hok]
    have := zip_loop (l := l) (L := fun s i => L_spec_FormatRows_0 (l.map Rw.e) (S s) i) (F := fun _ _ => some [.str (S (txtRs l))]) (I := fun s u _ => s = txtRs u) (by omega) (fun u r v s e hI => by
      refine .inl ⟨txtRs (u ++ [r]), ?_, rfl, rfl⟩
      show L_spec_FormatRows_0 _ _ _ = L_spec_FormatRows_0 _ _ _
      have hul : u.length < 1099511627776 := by rw [e] at h; simp at h; omega
      have l1 := txtRs_len u
      have l2 := fmtR_len r
      rw [L_spec_FormatRows_0_eq, sAreValid l (by omega), hok]
      subst e
      simp only [lt_m, in_m, tn_c, at_m, cond_true, Rw.e, gn_c, gb_c, gs_c, gl_c, tk_s, tk_0, List.drop_succ_cons, List.drop_zero, List.headD_cons, List.getD_cons_zero, List.getD_cons_succ, bind_s, sFormatRow, hI]
      unfold txtRs at *
      have e1 : (u ++ [r]).map fmtR = u.map fmtR ++ [fmtR r] := by simp
      rw [e1, jl_snoc]
      by_cases hu : u = []
      · subst hu
        rw [if_pos (by rfl), ltF (by simp), cond_false, fitS_S (by simp [joinL]; omega), S_app]; rfl
      · have hul : 0 < u.length := List.length_pos_iff.mpr hu
        rw [if_neg (by simpa using hu), ltT (by omega), fitS_S (by simp; omega), S_app, fitS_S (by simp; omega), S_app]; rfl) (fun s hs => by
      show L_spec_FormatRows_0 _ _ _ = _
      rw [L_spec_FormatRows_0_eq, lt_e, cond_false, hs]) [] rfl
    exact this
/-- the pieces read so far -/
theorem pRs_step {s x : List UInt8} {u v : List (List UInt8)} (hne : s ≠ []) (e : cutL 32 s = u ++ x :: v) (h : parseR x = none) : pRs s = [.sl [], .bool false] := by
  unfold pRs
  rw [parseRs_none.mpr fun l hl he => ?_]
  rw [fmtRs_ok hl] at he
  have hl0 : l ≠ [] := by rintro rfl; exact hne he.symm
  have e2 := txtRs_cut hl0
  rw [he, e] at e2
  have hx : x ∈ l.map fmtR := by rw [← e2]; simp
  obtain ⟨r, hr, rfl⟩ := List.mem_map.mp hx
  exact parseR_none.mp h r (aok_all hl r hr) rfl
theorem pRs_end {s : List UInt8} {out : List Rw} (hne : s ≠ []) (e : cutL 32 s = out.map fmtR) (ha : ∀ r ∈ out, r.ok = true) : (bif aok out then some [Dat.sl (out.map Rw.e), .bool true] else some [.sl [], .bool false]) = some (pRs s) := by
  have hs : txtRs out = s := by unfold txtRs; rw [← e]; exact join_cut 32 s
  unfold pRs
  cases h : aok out
  · rw [parseRs_none.mpr fun l hl he => ?_]
    · rfl
    · rw [fmtRs_ok hl, ← hs] at he
      rw [txtRs_inj (aok_all hl) ha he, h] at hl
      cases hl
  · rw [parseRs_some.mpr ⟨h, by rw [fmtRs_ok h]; exact hs⟩]; rfl
theorem pR_some {x : List UInt8} {r : Rw} (h : parseR x = some r) : pR x = [.int r.k, .int r.v, .int r.w, .bool true] := by unfold pR; rw [h]
theorem pR_none {x : List UInt8} (h : parseR x = none) : pR x = [.int 0, .int 0, .int 0, .bool false] := by unfold pR; rw [h]
theorem Rw_app (u : List Rw) (r : Rw) : List.append (u.map Rw.e) [[Dat.int r.k, .int r.v, .int r.w]] = (u ++ [r]).map Rw.e := by simp [Rw.e]
theorem iParseRows (s : List UInt8) (hs : s.length < 1073741824) : callI tE f_impl_ParseRows [.str (S s)] = some (pRs s) := by
  rw [c_impl_ParseRows]
  by_cases hne : s = []
  · subst hne; rw [pRs_nil, show eqS (S []) (S []) = true from (eqS_S _ _).trans (decide_eq_true rfl)]; rfl
  · rw [show eqS (S s) (S []) = false from (eqS_S _ _).trans (decide_eq_false hne), cond_false]
    have hc := iCut 32 s (by omega)
    rw [show ((32 : UInt8).toNat : Int) = 32 from rfl] at hc
    have hcl := cutL_len 32 s
    simp only [hc, gn_c, gb_c, gs_c, gl_c, tk_s, tk_0, List.drop_succ_cons, List.drop_zero, List.headD_cons, List.getD_cons_zero, List.getD_cons_succ, bind_s]
    have := zip_loop (l := cutL 32 s) (L := fun (o : List Rw) i => L_impl_ParseRows_0 (lenI ((cutL 32 s).map StE)) i (o.map Rw.e) ((cutL 32 s).map StE)) (F := fun _ _ => some (pRs s)) (I := fun o u _ => u = o.map fmtR ∧ ∀ r ∈ o, r.ok = true) (by omega) (fun u x v o e hI => by
      have hx : x.length ≤ s.length := cutL_sub (b := 32) (by rw [e]; simp)
      have hul : u.length < 1099511627776 := by rw [e] at hcl; simp at hcl; omega
      have hol : o.length = u.length := by rw [hI.1]; simp
      have step : L_impl_ParseRows_0 (lenI ((cutL 32 s).map StE)) u.length (o.map Rw.e) ((cutL 32 s).map StE) = match parseR x with
          | some r => L_impl_ParseRows_0 (lenI ((cutL 32 s).map StE)) (w64 (u.length + 1)) ((o ++ [r]).map Rw.e) ((cutL 32 s).map StE)
          | none => some [.sl [], .bool false] := by
        rw [L_impl_ParseRows_0_eq, e]
        simp only [lt_m, in_m, tn_c, at_m, cond_true, StE, gn_c, gb_c, gs_c, gl_c, tk_s, tk_0, List.drop_succ_cons, List.drop_zero, List.headD_cons, List.getD_cons_zero, List.getD_cons_succ, bind_s, iParseRow x (by omega)]
        cases hp : parseR x with
        | none => rw [pR_none hp]; rfl
        | some r =>
          rw [pR_some hp, len_map, show fitM (Nat.succ o.length) 24 = true from fitT (by omega)]
          simp only [gn_c, gb_c, gs_c, gl_c, tk_s, tk_0, List.drop_succ_cons, List.drop_zero, List.headD_cons, List.getD_cons_zero, List.getD_cons_succ, bind_s, Rw_app]
          rfl
      cases hp : parseR x with
      | none =>
        refine .inr ?_
        show L_impl_ParseRows_0 _ _ _ _ = _
        rw [step, hp, pRs_step hne e hp]
      | some r =>
        obtain ⟨q1, q2⟩ := parseR_some.mp hp
        refine .inl ⟨o ++ [r], ?_, ⟨by rw [hI.1]; simp [q2], fun z hz => ?_⟩, rfl⟩
        · show L_impl_ParseRows_0 _ _ _ _ = _
          rw [step, hp]
        · rcases List.mem_append.mp hz with hz | hz
          · exact hI.2 z hz
          · simp at hz; subst hz; exact q1) (fun o hI => by
      show L_impl_ParseRows_0 _ _ _ _ = _
      rw [L_impl_ParseRows_0_eq, lt_e, cond_false, iAreValid]
      simp only [gn_c, gb_c, gs_c, gl_c, tk_s, tk_0, List.drop_succ_cons, List.drop_zero, List.headD_cons, List.getD_cons_zero, List.getD_cons_succ, bind_s, bifn]
      exact pRs_end hne hI.1 hI.2) [] ⟨rfl, by simp⟩
    exact this
theorem sParseRows (s : List UInt8) (hs : s.length < 1073741824) : callI tE f_spec_ParseRows [.str (S s)] = some (pRs s) := by
  rw [c_spec_ParseRows]
  have hc := sCut 32 s (by omega)
  rw [show ((32 : UInt8).toNat : Int) = 32 from rfl] at hc
  have hcl := cutL_len 32 s
  simp only [hc, gn_c, gb_c, gs_c, gl_c, tk_s, tk_0, List.drop_succ_cons, List.drop_zero, List.headD_cons, List.getD_cons_zero, List.getD_cons_succ, bind_s]
  by_cases hne : s = []
  · subst hne
    rw [L_spec_ParseRows_0_eq, pRs_nil, show eqS (S []) (S []) = true from (eqS_S _ _).trans (decide_eq_true rfl)]
    have := sAreValid [] (by simp)
    simp only [List.map_nil] at this
    rw [this]
    cases ltI 0 (lenI ((cutL 32 []).map StE)) <;> rfl
  · have := zip_loop (l := cutL 32 s) (L := fun (o : List Rw) i => L_spec_ParseRows_0 (S s) i (o.map Rw.e) ((cutL 32 s).map StE)) (F := fun _ _ => some (pRs s)) (I := fun o u _ => u = o.map fmtR ∧ ∀ r ∈ o, r.ok = true) (by omega) (fun u x v o e hI => by
      have hx : x.length ≤ s.length := cutL_sub (b := 32) (by rw [e]; simp)
      have hul : u.length < 1099511627776 := by rw [e] at hcl; simp at hcl; omega
      have hol : o.length = u.length := by rw [hI.1]; simp
      have step : L_spec_ParseRows_0 (S s) u.length (o.map Rw.e) ((cutL 32 s).map StE) = match parseR x with
          | some r => L_spec_ParseRows_0 (S s) (w64 (u.length + 1)) ((o ++ [r]).map Rw.e) ((cutL 32 s).map StE)
          | none => some [.sl [], .bool false] := by
        rw [L_spec_ParseRows_0_eq, e, show eqS (S s) (S []) = false from (eqS_S _ _).trans (decide_eq_false hne)]
        simp only [lt_m, in_m, tn_c, at_m, cond_true, Bool.not_false, StE, gn_c, gb_c, gs_c, gl_c, tk_s, tk_0, List.drop_succ_cons, List.drop_zero, List.headD_cons, List.getD_cons_zero, List.getD_cons_succ, bind_s, sParseRow x (by omega)]
        cases hp : parseR x with
        | none => rw [pR_none hp]; rfl
        | some r =>
          rw [pR_some hp, len_map, show fitM (Nat.succ o.length) 24 = true from fitT (by omega)]
          simp only [gn_c, gb_c, gs_c, gl_c, tk_s, tk_0, List.drop_succ_cons, List.drop_zero, List.headD_cons, List.getD_cons_zero, List.getD_cons_succ, bind_s, Rw_app]
          rfl
      cases hp : parseR x with
      | none =>
        refine .inr ?_
        show L_spec_ParseRows_0 _ _ _ _ = _
        rw [step, hp, pRs_step hne e hp]
      | some r =>
        obtain ⟨q1, q2⟩ := parseR_some.mp hp
        refine .inl ⟨o ++ [r], ?_, ⟨by rw [hI.1]; simp [q2], fun z hz => ?_⟩, rfl⟩
        · show L_spec_ParseRows_0 _ _ _ _ = _
          rw [step, hp]
        · rcases List.mem_append.mp hz with hz | hz
          · exact hI.2 z hz
          · simp at hz; subst hz; exact q1) (fun o hI => by
      show L_spec_ParseRows_0 _ _ _ _ = _
      have hol : o.length = (cutL 32 s).length := by rw [hI.1]; simp
      rw [L_spec_ParseRows_0_eq, lt_e, cond_false, sAreValid o (by omega)]
      simp only [gn_c, gb_c, gs_c, gl_c, tk_s, tk_0, List.drop_succ_cons, List.drop_zero, List.headD_cons, List.getD_cons_zero, List.getD_cons_succ, bind_s, bifn]
      exact pRs_end hne hI.1 hI.2) [] ⟨rfl, by simp⟩
    exact this
end Go.Proofs.Ytbmafhpbinjgaaa.Vai
