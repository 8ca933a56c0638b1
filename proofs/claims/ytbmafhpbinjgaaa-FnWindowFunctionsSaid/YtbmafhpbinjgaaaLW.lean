/- FnWindowFunctions: the law answers true; no condition. -/
import Derived.Test.YtbmafhpbinjgaaaD1
import Derived.Test.YtbmafhpbinjgaaaQ8
import Derived.Test.YtbmafhpbinjgaaaP5
import Derived.Test.YtbmafhpbinjgaaaEqLFnWindowFunctions
namespace Go.Proofs.Ytbmafhpbinjgaaa.Vai
open Go
set_option linter.unusedSimpArgs false
set_option linter.unusedVariables false
set_option linter.unnecessarySimpa false
set_option maxRecDepth 10000
/-! sums -/
def sumTo (l : List Rw) (i : Nat) : Int := ((l.take i).map Rw.v).sum
theorem sumTo_0 (l : List Rw) : sumTo l 0 = 0 := by simp [sumTo]
theorem sumTo_s (l : List Rw) (i : Nat) (h : i < l.length) : sumTo l (i + 1) = sumTo l i + (nth l i).v := by
  unfold sumTo
  rw [List.take_add_one, List.map_append, List.sum_append]
  simp [nth, List.getD_eq_getElem?_getD, h]
/-- values that are not large -/
def Mod (l : List Rw) : Prop := l.length ≤ 1000 ∧ ∀ r ∈ l, -1099511627776 ≤ r.v ∧ r.v ≤ 1099511627776
theorem sumTo_b {l : List Rw} (h : Mod l) : ∀ i : Nat, i ≤ l.length → -(1099511627776 * (i : Int)) ≤ sumTo l i ∧ sumTo l i ≤ 1099511627776 * (i : Int)
  | 0, _ => by rw [sumTo_0]; omega
  | i + 1, hi => by
    have h1 := sumTo_b h i (by omega)
    have h2 := h.2 _ (nth_mem (show i < l.length by omega))
    rw [sumTo_s l i (by omega)]
    omega
/-- the sum of the window that ends at a place -/
def win1 (l : List Rw) (w : Int) (i : Nat) : Int := sumTo l (i + 1) - sumTo l (((i : Int) + 1 - w).toNat)
def sums (l : List Rw) (w : Int) : List Int := if w < 1 then [] else (List.range l.length).map (win1 l w)
theorem win1_b {l : List Rw} (h : Mod l) (w : Int) (hw : 1 ≤ w) (i : Nat) (hi : i < l.length) : -2199023255552000 ≤ win1 l w i ∧ win1 l w i ≤ 2199023255552000 := by
  have h1 := sumTo_b h (i + 1) (by omega)
  have h2 := sumTo_b h (((i : Int) + 1 - w).toNat) (by omega)
  have := h.1
  unfold win1
  omega
theorem int_app (l : List Int) (n : Int) : List.append (l.map intE) [[Dat.int n]] = (l ++ [n]).map intE := by simp [intE]
theorem range_s (f : Nat → Int) (i : Nat) : (List.range (i + 1)).map f = (List.range i).map f ++ [f i] := by rw [List.range_succ]; simp
theorem iSums_loop {l : List Rw} (h : Mod l) (w : Int) (hw : 1 ≤ w) : ∀ (m i : Nat), i + m = l.length → ∀ s : Int, s = (if i = 0 then 0 else win1 l w (i - 1)) →
    L_impl_SlidingSums_0 (l.map Rw.e) w s (l.map Rw.e) (l.length : Nat) (i : Nat) (((List.range i).map (win1 l w)).map intE) = some [.sl (((List.range l.length).map (win1 l w)).map intE)]
  | 0, i, hi, s, hs => by
    rw [L_impl_SlidingSums_0_eq, ltF (by omega), cond_false]
    rw [show i = l.length by omega]
  | m + 1, i, hi, s, hs => by
    have hl := h.1
    have hil : i < l.length := by omega
    have hb := h.2 _ (nth_mem hil)
    have hsb : -2199023255552000 ≤ s ∧ s ≤ 2199023255552000 := by
      rw [hs]
      split
      · omega
      · exact win1_b h w hw (i - 1) (by omega)
    have g1 : gn (tk 1 (at' (l.map Rw.e) i)) = (nth l i).v := by rw [at_nth hil]; rfl
    have hstep : win1 l w i = s + (nth l i).v - (if w ≤ i then (nth l (i - w.toNat)).v else 0) := by
      have e1 := sumTo_s l i hil
      rw [hs]
      unfold win1
      by_cases hwi : w ≤ i
      · have e2 := sumTo_s l (i - w.toNat) (by omega)
        rw [if_pos hwi, if_neg (by omega), e1, show ((i : Int) + 1 - w).toNat = i - w.toNat + 1 by omega, e2, show i - 1 + 1 = i by omega, show (((i - 1 : Nat) : Int) + 1 - w).toNat = i - w.toNat by omega]
        omega
      · rw [if_neg hwi, e1, show ((i : Int) + 1 - w).toNat = 0 by omega, sumTo_0]
        by_cases h0 : i = 0
        · subst h0
          rw [if_pos rfl, sumTo_0]
          try omega
        · rw [if_neg h0, show i - 1 + 1 = i by omega, show (((i - 1 : Nat) : Int) + 1 - w).toNat = 0 by omega, sumTo_0]
          omega
    have ih := iSums_loop h w hw m (i + 1) (by omega) (win1 l w i) (by rw [if_neg (by omega)]; rfl)
    rw [range_s] at ih
    have f1 : fitM (Nat.succ (len (((List.range i).map (win1 l w)).map intE))) 8 = true := by rw [len_map, List.length_map, List.length_range]; exact fitT (by omega)
    rw [L_impl_SlidingSums_0_eq, ltT (by omega), cond_true, in_i hil, cond_true, tn_c, g1, f1]
    simp only [cond_true]
    have e3 : w64 (s + (nth l i).v) = s + (nth l i).v := w64_id ⟨by omega, by omega⟩
    rw [e3]
    by_cases hwi : w ≤ i
    · rw [if_pos hwi] at hstep
      have hiw : i - w.toNat < l.length := by omega
      have e4 : w64 ((i : Int) - w) = ((i - w.toNat : Nat) : Int) := by rw [w64_id ⟨by omega, by omega⟩]; omega
      have g2 : gn (List.drop 1 (at' (l.map Rw.e) (i - w.toNat))) = (nth l (i - w.toNat)).v := by rw [at_nth hiw]; rfl
      have hb2 := h.2 _ (nth_mem hiw)
      rw [leT hwi, cond_true, e4, in_i hiw, cond_true, tn_c, g2, w64_id (n := s + (nth l i).v - (nth l (i - w.toNat)).v) ⟨by omega, by omega⟩, ← hstep, w64_s (by omega), int_app]
      exact ih
    · rw [if_neg hwi] at hstep
      rw [leF (by omega), cond_false, show s + (nth l i).v = win1 l w i by omega, w64_s (by omega), int_app]
      exact ih
theorem iSums {l : List Rw} (h : Mod l) (w : Int) : callI tE f_impl_SlidingSums [.sl (l.map Rw.e), .int w] = some [.sl ((sums l w).map intE)] := by
  rw [c_impl_SlidingSums]
  unfold sums
  by_cases hw : w < 1
  · rw [ltT hw, cond_true, if_pos hw]; rfl
  · rw [ltF (by omega), cond_false, if_neg hw, lenI_map]
    exact iSums_loop h w (by omega) l.length 0 (by omega) 0 (by simp)
theorem sSums_in {l : List Rw} (h : Mod l) (w : Int) (hw : 1 ≤ w) (i : Nat) (hi : i < l.length) (acc : List Int) (ha : acc.length ≤ 1000) : ∀ (m k : Nat), k + m = i + 1 → (k : Int) ≤ w → ∀ n : Int, n = sumTo l (i + 1) - sumTo l (i + 1 - k) →
    L_spec_SlidingSums_1 (l.map Rw.e) w (i : Nat) n (k : Nat) (acc.map intE) = L_spec_SlidingSums_0 (l.map Rw.e) w ((i + 1 : Nat) : Int) ((acc ++ [win1 l w i]).map intE)
  | 0, k, hk, hkw, n, hn => by
    have hl := h.1
    have e : n = win1 l w i := by
      rw [hn]; unfold win1
      rw [show i + 1 - k = 0 by omega, show ((i : Int) + 1 - w).toNat = 0 by omega]
    rw [L_spec_SlidingSums_1_eq, leF (by omega), cond_false, len_map, show fitM (Nat.succ acc.length) 8 = true from fitT (by omega), cond_true, w64_s (by omega), int_app, e]
  | m + 1, k, hk, hkw, n, hn => by
    have hl := h.1
    rw [L_spec_SlidingSums_1_eq, leT (by omega), cond_true]
    by_cases hkw2 : (k : Int) < w
    · have hik : i - k < l.length := by omega
      have e4 : w64 ((i : Int) - (k : Int)) = ((i - k : Nat) : Int) := by rw [w64_id ⟨by omega, by omega⟩]; omega
      have g2 : gn (List.drop 1 (at' (l.map Rw.e) (i - k))) = (nth l (i - k)).v := by rw [at_nth hik]; rfl
      have e5 := sumTo_s l (i - k) hik
      have hb := h.2 _ (nth_mem hik)
      have h1 := sumTo_b h (i + 1) (by omega)
      have h2 := sumTo_b h (i + 1 - k) (by omega)
      rw [ltT hkw2, cond_true, e4, in_i hik, cond_true, tn_c, g2, w64_s (by omega)]
      have e6 : n + (nth l (i - k)).v = sumTo l (i + 1) - sumTo l (i + 1 - (k + 1)) := by
        rw [hn, show i + 1 - k = i - k + 1 by omega, e5, show i + 1 - (k + 1) = i - k by omega]; omega
      rw [w64_id (n := n + (nth l (i - k)).v) ⟨by omega, by omega⟩]
      exact sSums_in h w hw i hi acc ha m (k + 1) (by omega) (by omega) _ e6
    · have e : n = win1 l w i := by
        rw [hn]; unfold win1
        rw [show i + 1 - k = ((i : Int) + 1 - w).toNat by omega]
      rw [ltF (by omega), cond_false, len_map, show fitM (Nat.succ acc.length) 8 = true from fitT (by omega), cond_true, w64_s (by omega), int_app, e]
theorem sSums_loop {l : List Rw} (h : Mod l) (w : Int) (hw : 1 ≤ w) : ∀ (m i : Nat), i + m = l.length →
    L_spec_SlidingSums_0 (l.map Rw.e) w (i : Nat) (((List.range i).map (win1 l w)).map intE) = some [.sl (((List.range l.length).map (win1 l w)).map intE)]
  | 0, i, hi => by
    rw [L_spec_SlidingSums_0_eq, lenI_map, ltF (by omega), cond_false]
    rw [show i = l.length by omega]
  | m + 1, i, hi => by
    have hl := h.1
    have ih := sSums_loop h w hw m (i + 1) (by omega)
    rw [range_s] at ih
    rw [L_spec_SlidingSums_0_eq, lenI_map, ltT (by omega), cond_true, ltT (by omega), cond_true]
    have := sSums_in h w hw i (by omega) ((List.range i).map (win1 l w)) (by simp; omega) (i + 1) 0 (by omega) (by omega) 0 (by simp)
    exact this.trans ih
theorem sSums {l : List Rw} (h : Mod l) (w : Int) : callI tE f_spec_SlidingSums [.sl (l.map Rw.e), .int w] = some [.sl ((sums l w).map intE)] := by
  rw [c_spec_SlidingSums]
  unfold sums
  by_cases hw : w < 1
  · rw [if_pos hw, L_spec_SlidingSums_0_eq, ltF (show w ≤ 0 by omega)]
    cases ltI 0 (lenI (l.map Rw.e)) <;> rfl
  · rw [if_neg hw]
    exact sSums_loop h w (by omega) l.length 0 (by omega)
/-! ranks -/
def rank (l : List Rw) (a : Rw) : Nat := (l.filter fun b => decide (Rw.lt b a)).length
def ranks (l : List Rw) : List Int := l.map fun a => (rank l a : Int)
theorem rank_s (u : List Rw) (b a : Rw) : rank (u ++ [b]) a = rank u a + (if Rw.lt b a then 1 else 0) := by
  unfold rank
  rw [List.filter_append, List.length_append]
  by_cases h : Rw.lt b a <;> simp [h]
theorem rank_le (l : List Rw) (a : Rw) : rank l a ≤ l.length := List.length_filter_le _ _
theorem iRank_in (l : List Rw) (hl : l.length ≤ 1000) (a : Rw) (p n : Int) (j : Nat) (acc : List Int) (ha : acc.length ≤ 1000) (hj : j ≤ 1000) :
    L_impl_RowRanks_1 (l.map Rw.e) p 0 (l.map Rw.e) n (j : Int) (l.map Rw.e) (l.length : Nat) 0 (acc.map intE) a.k a.v a.w = L_impl_RowRanks_0 (l.map Rw.e) (l.map Rw.e) n ((j + 1 : Nat) : Int) ((acc ++ [(rank l a : Int)]).map intE) := by
  have := zip_loop (l := l) (L := fun (s : Int) i => L_impl_RowRanks_1 (l.map Rw.e) p s (l.map Rw.e) n (j : Int) (l.map Rw.e) (l.length : Nat) i (acc.map intE) a.k a.v a.w) (F := fun _ _ => L_impl_RowRanks_0 (l.map Rw.e) (l.map Rw.e) n ((j + 1 : Nat) : Int) ((acc ++ [(rank l a : Int)]).map intE)) (I := fun s u _ => s = (rank u a : Int)) (by omega) (fun u b v s e hI => by
    refine .inl ⟨(rank (u ++ [b]) a : Int), ?_, rfl, rfl⟩
    have hu : u.length < l.length := by rw [e]; simp
    have hr := rank_le u a
    show L_impl_RowRanks_1 _ _ _ _ _ _ _ _ _ _ _ _ _ = L_impl_RowRanks_1 _ _ _ _ _ _ _ _ _ _ _ _ _
    rw [L_impl_RowRanks_1_eq, ltT (by omega), cond_true, in_i hu, cond_true]
    have hb : at' (l.map Rw.e) u.length = b.e := at_i e rfl
    simp only [tn_c, hb, gk, gv, gw, iCompare, gn_c, gb_c, gs_c, gl_c, tk_s, tk_0, List.drop_succ_cons, List.drop_zero, List.headD_cons, List.getD_cons_zero, List.getD_cons_succ, bind_s, lt_cmp0]
    rw [rank_s]
    by_cases hba : Rw.lt b a
    · rw [decide_eq_true hba, cond_true, if_pos hba, hI, w64_s (by omega)]
    · rw [decide_eq_false hba, cond_false, if_neg hba, hI]; rfl) (fun s hs => by
    show L_impl_RowRanks_1 _ _ _ _ _ _ _ _ _ _ _ _ _ = _
    rw [L_impl_RowRanks_1_eq, ltF (Int.le_refl _), cond_false, len_map, show fitM (Nat.succ acc.length) 8 = true from fitT (by omega), cond_true, w64_s (by omega), int_app, hs]) 0 rfl
  exact this
theorem iRanks (l : List Rw) (hl : l.length ≤ 1000) : callI tE f_impl_RowRanks [.sl (l.map Rw.e)] = some [.sl ((ranks l).map intE)] := by
  rw [c_impl_RowRanks, lenI_map]
  have := zip_loop (l := l) (L := fun (s : List Int) i => L_impl_RowRanks_0 (l.map Rw.e) (l.map Rw.e) (l.length : Nat) i (s.map intE)) (F := fun _ _ => some [.sl ((ranks l).map intE)]) (I := fun s u _ => s = u.map fun a => (rank l a : Int)) (by omega) (fun u a v s e hI => by
    refine .inl ⟨s ++ [(rank l a : Int)], ?_, by rw [hI]; simp, rfl⟩
    have hu : u.length < l.length := by rw [e]; simp
    show L_impl_RowRanks_0 _ _ _ _ _ = L_impl_RowRanks_0 _ _ _ _ _
    rw [L_impl_RowRanks_0_eq, ltT (by omega), cond_true, in_i hu, cond_true]
    have ha : at' (l.map Rw.e) u.length = a.e := at_i e rfl
    simp only [tn_c, ha, gk, gv, gw, lenI_map]
    rw [iRank_in l hl a 0 (l.length : Nat) u.length s (by rw [hI]; simp; omega) (by omega), w64_s (by omega)]) (fun s hs => by
    show L_impl_RowRanks_0 _ _ _ _ _ = _
    rw [L_impl_RowRanks_0_eq, ltF (Int.le_refl _), cond_false, hs]; rfl) [] rfl
  exact this
theorem sRank_in (l : List Rw) (hl : l.length ≤ 1000) (u v : List Rw) (a : Rw) (he : l = u ++ a :: v) (acc : List Int) (ha : acc.length ≤ 1000) :
    L_spec_RowRanks_1 (l.map Rw.e) (u.length : Nat) 0 0 (acc.map intE) = L_spec_RowRanks_0 (l.map Rw.e) ((u.length + 1 : Nat) : Int) ((acc ++ [(rank l a : Int)]).map intE) := by
  have hu : u.length < l.length := by rw [he]; simp
  have haa : at' (l.map Rw.e) u.length = a.e := at_i he rfl
  have := zip_loop (l := l) (L := fun (s : Int) i => L_spec_RowRanks_1 (l.map Rw.e) (u.length : Nat) s i (acc.map intE)) (F := fun _ _ => L_spec_RowRanks_0 (l.map Rw.e) ((u.length + 1 : Nat) : Int) ((acc ++ [(rank l a : Int)]).map intE)) (I := fun s u _ => s = (rank u a : Int)) (by omega) (fun u' b v s e hI => by
    refine .inl ⟨(rank (u' ++ [b]) a : Int), ?_, rfl, rfl⟩
    have hu' : u'.length < l.length := by rw [e]; simp
    have hr := rank_le u' a
    show L_spec_RowRanks_1 _ _ _ _ _ = L_spec_RowRanks_1 _ _ _ _ _
    rw [L_spec_RowRanks_1_eq, lenI_map, ltT (by omega), cond_true, inRT (by omega) (by omega), cond_true, inRT (by omega) (by omega), cond_true]
    have hb : at' (l.map Rw.e) u'.length = b.e := at_i e rfl
    simp only [tn_c, hb, haa, gk, gv, gw, sCompare, gn_c, gb_c, gs_c, gl_c, tk_s, tk_0, List.drop_succ_cons, List.drop_zero, List.headD_cons, List.getD_cons_zero, List.getD_cons_succ, bind_s, lt_cmp0]
    rw [rank_s]
    by_cases hba : Rw.lt b a
    · rw [decide_eq_true hba, cond_true, if_pos hba, hI, w64_s (by omega)]
    · rw [decide_eq_false hba, cond_false, if_neg hba, hI]; rfl) (fun s hs => by
    show L_spec_RowRanks_1 _ _ _ _ _ = _
    rw [L_spec_RowRanks_1_eq, lenI_map, ltF (Int.le_refl _), cond_false, len_map, show fitM (Nat.succ acc.length) 8 = true from fitT (by omega), cond_true, w64_s (by omega), int_app, hs]) 0 rfl
  exact this
theorem sRanks (l : List Rw) (hl : l.length ≤ 1000) : callI tE f_spec_RowRanks [.sl (l.map Rw.e)] = some [.sl ((ranks l).map intE)] := by
  rw [c_spec_RowRanks]
  have := zip_loop (l := l) (L := fun (s : List Int) i => L_spec_RowRanks_0 (l.map Rw.e) i (s.map intE)) (F := fun _ _ => some [.sl ((ranks l).map intE)]) (I := fun s u _ => s = u.map fun a => (rank l a : Int)) (by omega) (fun u a v s e hI => by
    refine .inl ⟨s ++ [(rank l a : Int)], ?_, by rw [hI]; simp, rfl⟩
    have hu : u.length < l.length := by rw [e]; simp
    show L_spec_RowRanks_0 _ _ _ = L_spec_RowRanks_0 _ _ _
    rw [L_spec_RowRanks_0_eq, lenI_map, ltT (by omega), cond_true, sRank_in l hl u v a e s (by rw [hI]; simp; omega), w64_s (by omega)]) (fun s hs => by
    show L_spec_RowRanks_0 _ _ _ = _
    rw [L_spec_RowRanks_0_eq, lenI_map, ltF (Int.le_refl _), cond_false, hs]; rfl) [] rfl
  exact this
/-- rows less than one come first -/
theorem srt_parts (a : Rw) : ∀ {o : List Rw}, Srt o → o = o.filter (fun b => decide (Rw.lt b a)) ++ o.filter (fun b => !decide (Rw.lt b a))
  | [], _ => rfl
  | x :: o, h => by
    obtain ⟨h1, h2⟩ := List.pairwise_cons.mp h
    by_cases hx : Rw.lt x a
    · have ih := srt_parts a h2
      rw [List.filter_cons_of_pos (by simpa using hx), List.filter_cons_of_neg (by simpa using hx), List.cons_append, ← ih]
    · have hn : ∀ y ∈ o, ¬ Rw.lt y a := fun y hy hya => by
        rcases Rw.lt_or (a := x) (b := y) with q | q | q
        · exact hx (Rw.lt_tr q hya)
        · exact hx (q ▸ hya)
        · exact h1 y hy q
      have e1 : o.filter (fun b => decide (Rw.lt b a)) = [] := List.filter_eq_nil_iff.mpr (fun y hy => by simpa using hn y hy)
      have e2 : o.filter (fun b => !decide (Rw.lt b a)) = o := List.filter_eq_self.mpr (fun y hy => by simpa using hn y hy)
      rw [List.filter_cons_of_neg (by simpa using hx), List.filter_cons_of_pos (by simpa using hx), e1, e2]; rfl
theorem rank_at {l : List Rw} {a : Rw} (h : a ∈ l) : rank l a < l.length ∧ nth (isort l) (rank l a) = a := by
  have hp := isort_perm l
  have hs := isort_srt l
  have e := srt_parts a hs
  have hr : rank l a = ((isort l).filter fun b => decide (Rw.lt b a)).length := ((hp.filter _).length_eq).symm
  have ha : a ∈ (isort l).filter (fun b => !decide (Rw.lt b a)) := List.mem_filter.mpr ⟨hp.mem_iff.mpr h, by simpa using Rw.lt_irr a⟩
  generalize he1 : (isort l).filter (fun b => decide (Rw.lt b a)) = u at *
  generalize he2 : (isort l).filter (fun b => !decide (Rw.lt b a)) = v at *
  cases v with
  | nil => cases ha
  | cons x v =>
    have hlen := isort_len l
    rw [e, List.length_append, List.length_cons] at hlen
    refine ⟨by omega, ?_⟩
    rw [e, nth_app2 u _ (by omega), hr, Nat.sub_self]
    show x = a
    have hx : ¬ Rw.lt x a := by
      have : x ∈ (isort l).filter (fun b => !decide (Rw.lt b a)) := by rw [he2]; simp
      simpa using (List.mem_filter.mp this).2
    have hsx : Srt (x :: v) := by
      have := hs.filter (fun b => !decide (Rw.lt b a))
      rw [he2] at this
      exact this
    rcases List.mem_cons.mp ha with q | q
    · exact q.symm
    · exact Rw.le_antisymm ((List.pairwise_cons.mp hsx).1 a q) hx
theorem sameInts_ok (l l' : List Int) (h : l.length ≤ 1000) : callI tE f_laws_sameInts [.sl (l.map intE), .sl (l'.map intE)] = some [.bool (decide (l = l'))] := by
  rw [c_laws_sameInts]
  by_cases hll : l.length = l'.length
  · rw [eq_len hll, Bool.not_true, cond_false]
    have := eq_loop (L := fun x y i => L_laws_sameInts_0 x y i) (e := intE) (P := fun _ => True) (fun p q p' q' a b _ hpl hlt => by
      rw [L_laws_sameInts_0_eq]
      simp only [lt_mid, in_mid, tn_c, at_mid, cond_true, cond_false, gn_c, gb_c, gs_c, gl_c, tk_s, tk_0, List.drop_succ_cons, List.drop_zero, List.headD_cons, List.getD_cons_zero, List.getD_cons_succ, bind_s, in_mid' hpl, at_mid' hpl, intE, bifn]
      rfl) (fun p p' hpl => by
      rw [L_laws_sameInts_0_eq, lt_end, cond_false]) l l' [] [] rfl hll (fun a ha => trivial) (by simp; omega)
    simpa using this
  · rw [ne_len hll, Bool.not_false, cond_true, decide_eq_false (fun e => hll (by rw [e]))]
/-! draws -/
theorem dDrawSums (x : Rows) (hx : x.length ≤ 1048576) : ∃ (l : List Rw) (w : Int), callI tE f_spec_DrawSlidingSums [.sl x] = some [.sl (l.map Rw.e), .int w] ∧ Mod l := by
  obtain ⟨h0, e0, c0⟩ := dNew x hx
  obtain ⟨l, i1, h1, e1, c1, p1, q1⟩ := dBent (h := h0) 8 c0 (by omega) (by omega)
  obtain ⟨t, i2, h2, e2, c2⟩ := dOnce (h := h1) 10 c1
  obtain ⟨w, i3, h3, e3, c3, _⟩ := dPickInt (h := h2) [[.int 0], [.int 1], [.int 2], [.int 3], [.int 100], [.int (-1)], [.int 9223372036854775807]] (fun _ => true) (by decide) rfl c2
  obtain ⟨w', i4, h4, e4, c4, _⟩ := dPickInt (h := h1) [[.int 0], [.int 1], [.int 2], [.int 3], [.int 100], [.int (-1)], [.int 9223372036854775807]] (fun _ => true) (by decide) rfl c1
  have hm : Mod l := ⟨by omega, fun r hr => by have := p1 r hr; unfold Rw.sm at this; omega⟩
  rw [c_spec_DrawSlidingSums]
  simp only [e0, e1, gn_c, gb_c, gs_c, gl_c, tk_s, tk_0, List.drop_succ_cons, List.drop_zero, List.headD_cons, List.getD_cons_zero, List.getD_cons_succ, bind_s, lenI_map]
  by_cases hl : 0 < l.length
  · rw [ltT (by omega), cond_true]
    simp only [e2, e3, gn_c, gb_c, gs_c, gl_c, tk_s, tk_0, List.drop_succ_cons, List.drop_zero, List.headD_cons, List.getD_cons_zero, List.getD_cons_succ, bind_s]
    cases t
    · exact ⟨l, w, rfl, hm⟩
    · rw [cond_true, inRT (by omega) (by omega), cond_true]
      cases l with
      | nil => simp at hl
      | cons r l =>
        refine ⟨⟨r.k, 1099511627776, r.w⟩ :: l, w, rfl, hm.1, fun y hy => ?_⟩
        rcases List.mem_cons.mp hy with rfl | hy
        · exact ⟨show (-1099511627776 : Int) ≤ 1099511627776 by decide, show (1099511627776 : Int) ≤ 1099511627776 by decide⟩
        · exact hm.2 y (by simp [hy])
  · rw [ltF (by omega), cond_false]
    simp only [e4, gn_c, gb_c, gs_c, gl_c, tk_s, tk_0, List.drop_succ_cons, List.drop_zero, List.headD_cons, List.getD_cons_zero, List.getD_cons_succ, bind_s]
    exact ⟨l, w', rfl, hm⟩
theorem dDrawRanks (x : Rows) (hx : x.length ≤ 1048576) : ∃ (l : List Rw), callI tE f_spec_DrawRowRanks [.sl x] = some [.sl (l.map Rw.e)] ∧ l.length ≤ 1000 := by
  obtain ⟨h0, e0, c0⟩ := dNew x hx
  obtain ⟨l, i1, h1, e1, c1, p1, q1⟩ := dBent (h := h0) 8 c0 (by omega) (by omega)
  rw [c_spec_DrawRowRanks]
  simp only [e0, e1, gn_c, gb_c, gs_c, gl_c, tk_s, tk_0, List.drop_succ_cons, List.drop_zero, List.headD_cons, List.getD_cons_zero, List.getD_cons_succ, bind_s]
  exact ⟨l, rfl, by omega⟩
/-! the law -/
theorem at_int {l : List Int} {i : Nat} (h : i < l.length) : gn (at' (l.map intE) i) = l.getD i 0 := by
  obtain ⟨u, a, v, rfl, rfl⟩ := split_at h
  rw [at_m, getD_m]; rfl
theorem law1 {w : Int} {A B : Rows} {m : List Rw} (hm : m.length ≤ 1000) (fin : Option (List Dat)) (hf : (bif ltI w 1 then some [Dat.bool true] else some [.bool (eqI (lenI B) (lenI A))]) = fin) : ∀ (n i : Nat), i + n = m.length →
    L_laws_FnWindowFunctions_1 w (i : Nat) A B (m.map Rw.e) ((ranks m).map intE) ((isort m).map Rw.e) = fin
  | 0, i, hi => by
    rw [L_laws_FnWindowFunctions_1_eq, lenI_map, show (ranks m).length = m.length by simp [ranks], ltF (by omega), cond_false]
    exact hf
  | n + 1, i, hi => by
    have hl : (ranks m).length = m.length := by simp [ranks]
    have him : i < m.length := by omega
    have hr : (ranks m).getD i 0 = (rank m (nth m i) : Int) := by
      obtain ⟨u, a, v, rfl, rfl⟩ := split_at him
      simp [ranks, nth, List.getD_eq_getElem?_getD]
    obtain ⟨r1, r2⟩ := rank_at (nth_mem him)
    have g1 : gn (at' ((ranks m).map intE) i) = (rank m (nth m i) : Int) := by rw [at_int (by omega), hr]
    have g2 : at' ((isort m).map Rw.e) (rank m (nth m i)) = (nth m i).e := by rw [at_nth (by rw [isort_len]; omega), r2]
    have g3 : at' (m.map Rw.e) i = (nth m i).e := at_nth him
    rw [L_laws_FnWindowFunctions_1_eq]
    simp only [tn_c, g1, g2, g3, gk, gv, gw]
    rw [in_i (by omega : i < (ranks m).length), lenI_map, hl, ltT (by omega), lenI_map, isort_len, leF (by omega), in_i him, inRT (by omega) (by omega)]
    simp only [cond_true, cond_false, eqI_self, Bool.and_self, Bool.not_true]
    rw [w64_s (by omega)]
    exact law1 hm fin hf n (i + 1) (by omega)
theorem law0 {w : Int} {l m : List Rw} (h : Mod l) (hm : m.length ≤ 1000) : ∀ (n i : Nat), i + n = (sums l w).length →
    L_laws_FnWindowFunctions_0 w (i : Nat) (l.map Rw.e) ((sums l w).map intE) (m.map Rw.e) ((ranks m).map intE) = some [.bool true]
  | 0, i, hi => by
    rw [L_laws_FnWindowFunctions_0_eq, lenI_map, ltF (by omega), cond_false, sSort m (by omega)]
    simp only [gn_c, gb_c, gs_c, gl_c, tk_s, tk_0, List.drop_succ_cons, List.drop_zero, List.headD_cons, List.getD_cons_zero, List.getD_cons_succ, bind_s]
    refine law1 hm _ ?_ m.length 0 (by omega)
    by_cases hw : w < 1
    · rw [ltT hw]; rfl
    · rw [ltF (by omega), cond_false, lenI_map, lenI_map, eqT (by unfold sums; rw [if_neg hw]; simp)]
  | n + 1, i, hi => by
    have ih := law0 (w := w) h hm n (i + 1) (by omega)
    have hw : ¬ w < 1 := fun hw => by unfold sums at hi; rw [if_pos hw] at hi; simp at hi
    have hlen : (sums l w).length = l.length := by unfold sums; rw [if_neg hw]; simp
    have hll := h.1
    have hil : i < l.length := by omega
    have hS : ∀ j, j < l.length → (sums l w).getD j 0 = win1 l w j := fun j hj => by
      unfold sums
      rw [if_neg hw]
      simp [List.getD_eq_getElem?_getD, hj]
    have g1 : gn (at' ((sums l w).map intE) i) = win1 l w i := by rw [at_int (by omega), hS i hil]
    have g2 : gn (List.drop 1 (at' (l.map Rw.e) i)) = (nth l i).v := by rw [at_nth hil]; rfl
    have i1 : inR (i : Int) (lenI ((sums l w).map intE)) = true := in_i (by omega)
    have i2 : inR (i : Int) (lenI (l.map Rw.e)) = true := in_i hil
    have e1 := sumTo_s l i hil
    rw [L_laws_FnWindowFunctions_0_eq]
    rw [show ltI (i : Int) (lenI ((sums l w).map intE)) = true by rw [lenI_map]; exact ltT (by omega)]
    simp only [tn_c, g1, g2, i1, i2, cond_true, w64_s (show i < 9223372036854775807 by omega)]
    have rest : (bif ltI (lenI (l.map Rw.e)) w then (bif ltI 0 (i : Int) then (bif inR (w64 ((i : Int) - 1)) (lenI ((sums l w).map intE)) then (bif !(eqI (win1 l w i) (w64 (gn (at' ((sums l w).map intE) (tn (w64 ((i : Int) - 1)))) + (nth l i).v))) then some [Dat.bool false] else
        L_laws_FnWindowFunctions_0 w ((i + 1 : Nat) : Int) (l.map Rw.e) ((sums l w).map intE) (m.map Rw.e) ((ranks m).map intE)) else none) else L_laws_FnWindowFunctions_0 w ((i + 1 : Nat) : Int) (l.map Rw.e) ((sums l w).map intE) (m.map Rw.e) ((ranks m).map intE))
        else L_laws_FnWindowFunctions_0 w ((i + 1 : Nat) : Int) (l.map Rw.e) ((sums l w).map intE) (m.map Rw.e) ((ranks m).map intE)) = some [.bool true] := by
      rw [lenI_map, ih]
      by_cases h1 : (l.length : Int) < w
      · rw [ltT h1, cond_true]
        by_cases h2 : 0 < i
        · rw [ltT (by omega), cond_true]
          have e2 : w64 ((i : Int) - 1) = ((i - 1 : Nat) : Int) := by rw [w64_id ⟨by omega, by omega⟩]; omega
          have hb := win1_b h w (by omega) (i - 1) (by omega)
          have hv := h.2 _ (nth_mem hil)
          rw [e2, in_i (by omega), cond_true, tn_c, at_int (by omega), hS (i - 1) (by omega), w64_id ⟨by omega, by omega⟩, eqT (by
            unfold win1
            rw [e1, show ((i : Int) + 1 - w).toNat = 0 by omega, show (((i - 1 : Nat) : Int) + 1 - w).toNat = 0 by omega, show i - 1 + 1 = i by omega]
            omega)]
          rfl
        · rw [ltF (by omega)]; rfl
      · rw [ltF (by omega)]; rfl
    by_cases h1 : w = 1
    · subst h1
      rw [eqT rfl, cond_true, eqT (by
        unfold win1
        rw [e1, show ((i : Int) + 1 - 1).toNat = i by omega]
        omega), Bool.not_true, cond_false]
      exact rest
    · rw [eqF h1, cond_false]
      exact rest
theorem pure_FnWindowFunctions : ∀ ds, OkDs tE [.sl 5] ds → callI tE f_laws_FnWindowFunctions ds = some [.bool true] := by
  intro ds h0
  obtain ⟨_, _, rfl, i0, h1⟩ := h0.inv
  obtain ⟨l0, rfl⟩ := of_rows i0
  obtain rfl := h1.nil_inv
  rw [c_laws_FnWindowFunctions, c_laws_big]
  simp only [gn_c, gb_c, gs_c, gl_c, tk_s, tk_0, List.drop_succ_cons, List.drop_zero, List.headD_cons, List.getD_cons_zero, List.getD_cons_succ, bind_s]
  by_cases hs : l0.length ≤ 1048576
  · rw [ltF (show lenI l0 ≤ 1048576 by show (l0.length : Int) ≤ 1048576; omega), cond_false]
    obtain ⟨l, w, e1, q1⟩ := dDrawSums l0 hs
    obtain ⟨m, e2, q2⟩ := dDrawRanks l0 hs
    have e3 := iSums q1 w
    have e4 := sSums q1 w
    have e5 := iRanks m q2
    have e6 := sRanks m q2
    have z : (sums l w).length ≤ 1000 := by
      have := q1.1
      unfold sums
      split
      · simp
      · simp; omega
    have e7 := sameInts_ok (sums l w) (sums l w) z
    have e8 := sameInts_ok (ranks m) (ranks m) (by simpa [ranks] using q2)
    simp only [e1, e2, e3, e4, e5, e6, e7, e8, gn_c, gb_c, gs_c, gl_c, tk_s, tk_0, List.drop_succ_cons, List.drop_zero, List.headD_cons, List.getD_cons_zero, List.getD_cons_succ, bind_s, decide_true, Bool.not_true, cond_false]
    exact law0 q1 q2 (sums l w).length 0 (by omega)
  · rw [ltT (show 1048576 < lenI l0 by show (1048576 : Int) < (l0.length : Int); omega)]
    rfl
end Go.Proofs.Ytbmafhpbinjgaaa.Vai
