/- FnJournalRecovery: the law answers true; no condition. -/
import Derived.Test.YtbmafhpbinjgaaaD1
import Derived.Test.YtbmafhpbinjgaaaP4
import Derived.Test.YtbmafhpbinjgaaaP3
import Derived.Test.YtbmafhpbinjgaaaEqLFnJournalRecovery
namespace Go.Proofs.Ytbmafhpbinjgaaa.Vai
open Go
set_option linter.unusedSimpArgs false
set_option linter.unusedVariables false
set_option linter.unnecessarySimpa false
set_option maxRecDepth 10000
/-! texts drawn -/
theorem dTextL {b : Rows} (z st : Int) : ∀ (n : Nat) (i h : Int) (acc : Rows), Cu b i → acc.length + n ≤ 100000 →
    ∃ (l : Rows) (i' h' : Int), L_spec_l1Text_0 z st n b i h acc = some [.str (strOf l), .sl b, .int i', .int h'] ∧ Cu b i' ∧ l.length = acc.length + n
  | 0, i, h, acc, c, _ => by
    rw [L_spec_l1Text_0_eq, ltF (by omega), cond_false]
    exact ⟨acc, i, h, rfl, c, rfl⟩
  | n + 1, i, h, acc, c, hl => by
    obtain ⟨r, i1, h1, e1, c1, _⟩ := dByte (h := h) c
    have hf : fitM (Nat.succ (len acc)) 1 = true := fitT (show Nat.succ acc.length * 1 ≤ 70368744177664 by omega)
    have hw : w64 (((n + 1 : Nat) : Int) - 1) = (n : Int) := by rw [w64_id ⟨by omega, by omega⟩]; omega
    rw [L_spec_l1Text_0_eq, ltT (by omega), cond_true, e1]
    simp only [gn_c, gb_c, gs_c, gl_c, tk_s, tk_0, List.drop_succ_cons, List.drop_zero, List.headD_cons, List.getD_cons_zero, List.getD_cons_succ, bind_s, hf, hw, cond_true]
    have go : ∀ x : List Dat, ∃ (l : Rows) (i' h' : Int), L_spec_l1Text_0 z st n b i1 h1 (List.append acc [x]) = some [.str (strOf l), .sl b, .int i', .int h'] ∧ Cu b i' ∧ l.length = acc.length + (n + 1) := fun x => by
      have ha : (List.append acc [x]).length = acc.length + 1 := by simp
      obtain ⟨l, i', h', e2, c2, hl2⟩ := dTextL z st n i1 h1 (List.append acc [x]) c1 (by rw [ha]; omega)
      exact ⟨l, i', h', e2, c2, by rw [hl2, ha]; omega⟩
    cases eqI st 1
    · cases eqI st 2
      · exact go _
      · exact go _
    · cases eqI st 2
      · exact go _
      · exact go _
theorem strOf_len (l : Rows) : ∃ s : List UInt8, strOf l = S s ∧ s.length = l.length := ⟨_, rfl, by simp⟩
theorem dText {b : Rows} {i h : Int} (most : Int) (c : Cu b i) (hm : 0 ≤ most) (hm2 : most ≤ 1000) : ∃ (s : List UInt8) (i' h' : Int), callI tE f_spec_l1Text [.sl b, .int i, .int h, .int most] = some [.str (S s), .sl b, .int i', .int h'] ∧ Cu b i' ∧ (s.length : Int) ≤ most := by
  obtain ⟨k, i1, h1, e1, c1, _⟩ := dBelow (h := h) 4 c
  obtain ⟨n, i2, h2, e2, c2, p2, q2, _⟩ := dBelow (h := h1) (most + 1) c1
  rw [c_spec_l1Text, show w64 (most + 1) = most + 1 from w64_id ⟨by omega, by omega⟩]
  simp only [e1, e2, gn_c, gb_c, gs_c, gl_c, tk_s, tk_0, List.drop_succ_cons, List.drop_zero, List.headD_cons, List.getD_cons_zero, List.getD_cons_succ, bind_s]
  obtain ⟨m, rfl⟩ : ∃ m : Nat, n = m := ⟨n.toNat, by omega⟩
  have := q2 (by omega)
  obtain ⟨l, i', h', e3, c3, hl⟩ := dTextL 0 k m i2 h2 [] c2 (by simp; omega)
  obtain ⟨s, hs1, hs2⟩ := strOf_len l
  rw [hs1] at e3
  exact ⟨s, i', h', e3, c3, by rw [hs2, hl]; simp; omega⟩
theorem ext_any (s : List UInt8) (i j : Nat) : ∃ t : List UInt8, ext (S s) i j = S t ∧ t.length ≤ s.length := ⟨_, ext_S s i j, by simp; omega⟩
theorem dSpoil {b : Rows} {i h : Int} (s : List UInt8) (c : Cu b i) (hs : s.length ≤ 1000000) : ∃ (t : List UInt8) (i' h' : Int), callI tE f_spec_l1Spoil [.sl b, .int i, .int h, .str (S s)] = some [.str (S t), .sl b, .int i', .int h'] ∧ Cu b i' ∧ t.length ≤ 2 * s.length + 3 := by
  rw [c_spec_l1Spoil, szI_S]
  by_cases h0 : s.length = 0
  · rw [eqT (by omega), cond_true]
    obtain ⟨t, i1, h1, e1, c1, q1⟩ := dText (h := h) 3 c (by omega) (by omega)
    simp only [e1, gn_c, gb_c, gs_c, gl_c, tk_s, tk_0, List.drop_succ_cons, List.drop_zero, List.headD_cons, List.getD_cons_zero, List.getD_cons_succ, bind_s]
    exact ⟨t, _, _, rfl, c1, by omega⟩
  · rw [eqF (by omega), cond_false]
    obtain ⟨k, i1, h1, e1, c1, k1, k2, _⟩ := dBelow (h := h) (s.length : Int) c
    obtain ⟨w, i2, h2, e2, c2, _⟩ := dBelow (h := h1) 4 c1
    obtain ⟨y, i3, h3, e3, c3, _⟩ := dByte (h := h2) c2
    obtain ⟨v, i4, h4, e4, c4, v1, v2, _⟩ := dBelow (h := h2) 255 c2
    have := k2 (by omega)
    have w1 : w64 (k + 1) = k + 1 := w64_id ⟨by omega, by omega⟩
    have l1 : leI 0 k = true := leT k1
    have l2 : leI k (s.length : Int) = true := leT (by omega)
    have l3 : leI 0 (k + 1) = true := leT (by omega)
    have l4 : leI (k + 1) (s.length : Int) = true := leT (by omega)
    have l5 : inR k (s.length : Int) = true := inRT k1 (by omega)
    obtain ⟨a, a1, a2⟩ := ext_any s 0 (tn k)
    obtain ⟨d, d1, d2⟩ := ext_any s (tn (k + 1)) (ByteArray.size (S s))
    obtain ⟨e, e5, e6⟩ := ext_any s (tn k) (ByteArray.size (S s))
    have one : ∀ n : Int, ∃ t : List UInt8, strOf [[.int n]] = S t ∧ t.length = 1 := fun n => ⟨_, strOf1 n, rfl⟩
    simp only [e1, e2, e3, e4, gn_c, gb_c, gs_c, gl_c, tk_s, tk_0, List.drop_succ_cons, List.drop_zero, List.headD_cons, List.getD_cons_zero, List.getD_cons_succ, bind_s, w1, l1, l2, l3, l4, l5, a1, d1, e5, Bool.and_self, cond_true]
    cases eqI w 0
    · cases eqI w 1
      · cases eqI w 2
        · obtain ⟨f, f1, f2⟩ := one (Go.IntKind.wrap .u8 (Go.bits Go.BinOp.xor .i64 (w64 (byteAt (S s) k)) (w64 (1 + v))))
          simp only [f1, cond_false]
          rw [fitS_S (by omega), S_app, fitS_S (by simp; omega), S_app]
          exact ⟨_, _, _, rfl, c4, by simp; omega⟩
        · exact ⟨a, _, _, rfl, c2, by omega⟩
      · obtain ⟨f, f1, f2⟩ := one (Go.IntKind.wrap .u8 y)
        simp only [f1, cond_true, cond_false]
        rw [fitS_S (by omega), S_app, fitS_S (by simp; omega), S_app]
        exact ⟨_, _, _, rfl, c3, by simp; omega⟩
    · simp only [cond_true]
      rw [fitS_S (by omega), S_app]
      exact ⟨_, _, _, rfl, c2, by simp; omega⟩
/-! cut off -/
theorem maxI' (k : Int) : (bif ltI 0 k then k else 0) = ((k.toNat : Nat) : Int) := by
  by_cases h : 0 < k
  · rw [ltT h, cond_true]; omega
  · rw [ltF (by omega), cond_false]; omega
theorem minI' (n : Nat) (k : Int) : (bif ltI 0 (bif ltI (n : Int) k then (n : Int) else k) then (bif ltI (n : Int) k then (n : Int) else k) else 0) = ((min n k.toNat : Nat) : Int) := by
  by_cases h : (n : Int) < k
  · rw [ltT h, cond_true, maxI']; omega
  · rw [ltF (show k ≤ (n : Int) by omega), cond_false, maxI']; omega
theorem iTrunc (s : List UInt8) (n : Int) : callI tE f_impl_Truncate [.str (S s), .int n] = some [.str (S (s.take n.toNat))] := by
  rw [c_impl_Truncate]
  simp only [szI_S, minI', tn_c, ext_S, List.drop_zero]
  rw [leT (by omega), leT (by omega)]
  simp only [Bool.and_self, cond_true]
  congr 3
  by_cases h : n.toNat ≤ s.length
  · rw [Nat.min_eq_right h]
  · rw [Nat.min_eq_left (by omega), List.take_length, List.take_of_length_le (by omega)]
theorem sTrunc (s : List UInt8) (n : Int) : callI tE f_spec_Truncate [.str (S s), .int n] = some [.str (S (s.take n.toNat))] := by
  rw [c_spec_Truncate]
  simp only [szI_S, minI', tn_c, ext_S, List.drop_zero]
  rw [leT (by omega), leT (by omega)]
  simp only [Bool.and_self, cond_true]
  congr 3
  by_cases h : n.toNat ≤ s.length
  · rw [Nat.min_eq_right h]
  · rw [Nat.min_eq_left (by omega), List.take_length, List.take_of_length_le (by omega)]
/-! journals drawn -/
theorem appJ_p (j t : List UInt8) (hj : j.length ≤ 20000) : ∃ (j' : List UInt8) (b : Bool), appJ j t = [.str (S j'), .bool b] ∧ j'.length ≤ 20000 := by
  unfold appJ
  cases h : (readJ j).2 && leN (j ++ recT t).length 20000
  · exact ⟨j, false, rfl, hj⟩
  · have : leN (j ++ recT t).length 20000 = true := (Bool.and_eq_true _ _ ▸ h).2
    exact ⟨_, true, rfl, of_decide_eq_true this⟩
theorem dJourL {b : Rows} (z : Int) : ∀ (n : Nat) (i h : Int) (j : List UInt8), Cu b i → n ≤ 1000 → j.length ≤ 20000 →
    ∃ (t : List UInt8) (i' h' : Int), L_spec_l27Journal_0 z (S j) n b i h = some [.str (S t), .sl b, .int i', .int h'] ∧ Cu b i' ∧ t.length ≤ 50000
  | 0, i, h, j, c, _, hj => by
    obtain ⟨k, i1, h1, e1, c1, _⟩ := dBelow (h := h) 4 c
    obtain ⟨m, i2, h2, e2, c2, _⟩ := dBelow (h := h1) (((j.length + 1 : Nat) : Int)) c1
    obtain ⟨t, i3, h3, e3, c3, q3⟩ := dSpoil (h := h1) j c1 (by omega)
    have w1 : w64 ((j.length : Int) + 1) = ((j.length + 1 : Nat) : Int) := w64_s (by omega)
    rw [L_spec_l27Journal_0_eq, ltF (by omega), cond_false]
    simp only [szI_S, w1, e1, e2, e3, sTrunc, gn_c, gb_c, gs_c, gl_c, tk_s, tk_0, List.drop_succ_cons, List.drop_zero, List.headD_cons, List.getD_cons_zero, List.getD_cons_succ, bind_s]
    cases eqI k 0
    · cases eqI k 1
      · exact ⟨j, _, _, rfl, c1, by omega⟩
      · exact ⟨t, _, _, rfl, c3, by omega⟩
    · exact ⟨j.take m.toNat, _, _, rfl, c2, by simp; omega⟩
  | n + 1, i, h, j, c, hn, hj => by
    obtain ⟨l, i1, h1, e1, c1, _, hl⟩ := dRows (h := h) 3 c (by omega) (by omega)
    have e2 := sFormatRows l (by omega)
    have hfl := fmtRs_len l
    obtain ⟨r, i3, h3, e3, c3, t, rfl, ht⟩ := dPick (h := h1) [[.str (S [])], [.str (S [97])], [.str (S [58])], [.str (S [51, 58, 97, 98, 99, 44, 49, 59])], [.str (S [48, 49, 50, 51, 52, 53, 54, 55, 56, 57, 97, 98])], [.str (S (fmtRs l))]] (fun r => ∃ t : List UInt8, r = S t ∧ t.length ≤ 2000) (by simp) (by
      intro r hr
      simp only [List.mem_cons, List.not_mem_nil, or_false] at hr
      rcases hr with rfl | rfl | rfl | rfl | rfl | rfl
      · exact ⟨_, rfl, by simp⟩
      · exact ⟨_, rfl, by simp⟩
      · exact ⟨_, rfl, by simp⟩
      · exact ⟨_, rfl, by simp⟩
      · exact ⟨_, rfl, by simp⟩
      · exact ⟨_, rfl, by omega⟩) c1
    have e4 := sAppendRecord j t (by omega) (by omega)
    obtain ⟨j', b', e5, hj'⟩ := appJ_p j t hj
    rw [e5] at e4
    rw [L_spec_l27Journal_0_eq, ltT (by omega), cond_true, show w64 (((n + 1 : Nat) : Int) - 1) = (n : Int) by rw [w64_id ⟨by omega, by omega⟩]; omega]
    simp only [e1, e2, e3, e4, gn_c, gb_c, gs_c, gl_c, tk_s, tk_0, List.drop_succ_cons, List.drop_zero, List.headD_cons, List.getD_cons_zero, List.getD_cons_succ, bind_s]
    exact dJourL z n i3 h3 j' c3 (by omega) hj'
theorem dJour {b : Rows} {i h : Int} (c : Cu b i) : ∃ (t : List UInt8) (i' h' : Int), callI tE f_spec_l27Journal [.sl b, .int i, .int h] = some [.str (S t), .sl b, .int i', .int h'] ∧ Cu b i' ∧ t.length ≤ 50000 := by
  obtain ⟨n, i1, h1, e1, c1, n1, n2, _⟩ := dBelow (h := h) 5 c
  have := n2 (by omega)
  obtain ⟨m, rfl⟩ : ∃ m : Nat, n = m := ⟨n.toNat, by omega⟩
  rw [c_spec_l27Journal, e1]
  simp only [gn_c, gb_c, gs_c, gl_c, tk_s, tk_0, List.drop_succ_cons, List.drop_zero, List.headD_cons, List.getD_cons_zero, List.getD_cons_succ, bind_s]
  exact dJourL 0 m i1 h1 [] c1 (by omega) (by simp)
theorem dDrawApp (x : Rows) (hx : x.length ≤ 1048576) : ∃ (j r : List UInt8), callI tE f_spec_DrawAppendRecord [.sl x] = some [.str (S j), .str (S r)] ∧ j.length ≤ 50000 ∧ r.length ≤ 2000 := by
  obtain ⟨h0, e0, c0⟩ := dNew x hx
  obtain ⟨j, i1, h1, e1, c1, hj⟩ := dJour (h := h0) c0
  obtain ⟨r, i3, h3, e3, c3, t, rfl, ht⟩ := dPick (h := h1) [[.str (S [])], [.str (S [120])], [.str (S [49, 58, 120, 44, 49, 59])]] (fun r => ∃ t : List UInt8, r = S t ∧ t.length ≤ 2000) (by simp) (by
      intro r hr
      simp only [List.mem_cons, List.not_mem_nil, or_false] at hr
      rcases hr with rfl | rfl | rfl
      · exact ⟨_, rfl, by simp⟩
      · exact ⟨_, rfl, by simp⟩
      · exact ⟨_, rfl, by simp⟩) c1
  rw [c_spec_DrawAppendRecord]
  simp only [e0, e1, e3, gn_c, gb_c, gs_c, gl_c, tk_s, tk_0, List.drop_succ_cons, List.drop_zero, List.headD_cons, List.getD_cons_zero, List.getD_cons_succ, bind_s]
  exact ⟨j, t, rfl, hj, ht⟩
theorem dDrawRead (x : Rows) (hx : x.length ≤ 1048576) : ∃ (j : List UInt8), callI tE f_spec_DrawReadRecords [.sl x] = some [.str (S j)] ∧ j.length ≤ 50000 := by
  obtain ⟨h0, e0, c0⟩ := dNew x hx
  obtain ⟨t, i1, h1, e1, c1⟩ := dOnce (h := h0) 4 c0
  obtain ⟨j, i2, h2, e2, c2, hj⟩ := dJour (h := h1) c1
  obtain ⟨r, i3, h3, e3, c3, w, rfl, hw⟩ := dPick (h := h1) [[.str (S [])], [.str (S [58])], [.str (S [48, 58])], [.str (S [48, 58, 44, 49, 49])], [.str (S [48, 58, 44, 49, 49, 59])], [.str (S [57, 58, 97, 44, 49, 59])], [.str (S [58, 59])], [.str (S [49, 58, 97, 44, 49, 59])]] (fun r => ∃ t : List UInt8, r = S t ∧ t.length ≤ 2000) (by simp) (by
      intro r hr
      simp only [List.mem_cons, List.not_mem_nil, or_false] at hr
      rcases hr with rfl | rfl | rfl | rfl | rfl | rfl | rfl | rfl <;> exact ⟨_, rfl, by simp⟩) c1
  rw [c_spec_DrawReadRecords]
  simp only [e0, e1, e2, e3, gn_c, gb_c, gs_c, gl_c, tk_s, tk_0, List.drop_succ_cons, List.drop_zero, List.headD_cons, List.getD_cons_zero, List.getD_cons_succ, bind_s]
  cases t
  · exact ⟨j, rfl, hj⟩
  · exact ⟨w, rfl, by omega⟩
theorem dDrawTrunc (x : Rows) (hx : x.length ≤ 1048576) : ∃ (j : List UInt8) (n : Int), callI tE f_spec_DrawTruncate [.sl x] = some [.str (S j), .int n] := by
  obtain ⟨h0, e0, c0⟩ := dNew x hx
  obtain ⟨j, i1, h1, e1, c1, hj⟩ := dJour (h := h0) c0
  obtain ⟨n, i2, h2, e2, c2, _⟩ := dPickInt (h := h1) [[.int (-1)], [.int 0], [.int 3], [.int 10], [.int 1000]] (fun _ => true) (by decide) rfl c1
  rw [c_spec_DrawTruncate]
  simp only [e0, e1, e2, gn_c, gb_c, gs_c, gl_c, tk_s, tk_0, List.drop_succ_cons, List.drop_zero, List.headD_cons, List.getD_cons_zero, List.getD_cons_succ, bind_s]
  exact ⟨j, n, rfl⟩
/-! journals cut off -/
theorem recT_pos (r : List UInt8) : 0 < (recT r).length := by unfold recT; (first | omega | (simp only [List.length_append, List.length_cons, List.length_nil, List.length_map, List.length_take, List.length_drop, List.length_replicate, szI_S] at * <;> omega))
theorem readJ_app : ∀ (n : Nat) (j t : List UInt8), j.length ≤ n → (readJ j).2 = true → readJ (j ++ t) = ((readJ j).1 ++ (readJ t).1, (readJ t).2) := by
  intro n
  induction n with
  | zero =>
    intro j t hn h
    have : j = [] := List.length_eq_zero_iff.mp (by omega)
    subst this
    rw [readJ_nil]; simp
  | succ n ih =>
    intro j t hn h
    by_cases h0 : j = []
    · subst h0; rw [readJ_nil]; simp
    · cases hf : front j with
      | none => rw [readJ_bad h0 hf] at h; cases h
      | some r =>
        obtain ⟨y, rfl⟩ := front_some.mp hf
        have hr := recT_pos r
        rw [readJ_ok] at h ⊢
        rw [List.append_assoc, readJ_ok, ih y t (by simp at hn; omega) h]
        simp
theorem readJ_pre : ∀ (n : Nat) (s : List UInt8) (k : Nat), s.length ≤ n → ∃ m, (readJ (s.take k)).1 = (readJ s).1.take m := by
  intro n
  induction n with
  | zero =>
    intro s k hn
    have : s = [] := List.length_eq_zero_iff.mp (by omega)
    subst this
    exact ⟨0, by rw [List.take_nil, readJ_nil]; rfl⟩
  | succ n ih =>
    intro s k hn
    by_cases h0 : s.take k = []
    · exact ⟨0, by rw [h0, readJ_nil]; simp⟩
    · cases hf : front (s.take k) with
      | none => exact ⟨0, by rw [readJ_bad h0 hf]; simp⟩
      | some r =>
        obtain ⟨y, hy⟩ := front_some.mp hf
        have hr := recT_pos r
        have hs : s = recT r ++ (y ++ s.drop k) := by rw [← List.append_assoc, ← hy, List.take_append_drop]
        have hk : (y ++ s.drop k).take y.length = y := List.take_left
        obtain ⟨m, hm⟩ := ih (y ++ s.drop k) y.length (by have := congrArg List.length hs; simp only [List.length_append] at this ⊢; omega)
        rw [hk] at hm
        refine ⟨m + 1, ?_⟩
        rw [hy, readJ_ok]
        conv => rhs; rw [hs]
        rw [readJ_ok, List.take_succ_cons, hm]
theorem front_short (r : List UInt8) (m : Nat) (h : m < (recT r).length) : (readJ ((recT r).take m)).1 = [] := by
  by_cases h0 : (recT r).take m = []
  · rw [h0, readJ_nil]
  · rw [readJ_bad h0 (front_none.mpr fun r' y e => by
      have e2 : recT r ++ [] = recT r' ++ (y ++ (recT r).drop m) := by rw [← List.append_assoc, ← e, List.take_append_drop, List.append_nil]
      have e3 := recT_inj e2
      rw [e3] at h
      rw [e3] at e
      have := congrArg List.length e
      simp only [List.length_take, List.length_append] at this
      omega)]
theorem sameTexts_ok (l l' : List (List UInt8)) (h : l.length ≤ 1152921504606846976) : callI tE f_laws_sameTexts [.sl (l.map StE), .sl (l'.map StE)] = some [.bool (decide (l = l'))] := by
  rw [c_laws_sameTexts]
  by_cases hll : l.length = l'.length
  · rw [eq_len hll, Bool.not_true, cond_false]
    have := eq_loop (L := fun x y i => L_laws_sameTexts_0 x y i) (e := StE) (P := fun _ => True) (fun p q p' q' a b _ hpl hlt => by
      rw [L_laws_sameTexts_0_eq]
      simp only [lt_mid, in_mid, tn_c, at_mid, cond_true, cond_false, gn_c, gb_c, gs_c, gl_c, tk_s, tk_0, List.drop_succ_cons, List.drop_zero, List.headD_cons, List.getD_cons_zero, List.getD_cons_succ, bind_s, in_mid' hpl, at_mid' hpl, StE, eqS_S, bifn]) (fun p p' hpl => by
      rw [L_laws_sameTexts_0_eq, lt_end, cond_false]) l l' [] [] rfl hll (fun a ha => trivial) (by simp; omega)
    simpa using this
  · rw [ne_len hll, Bool.not_false, cond_true, decide_eq_false (fun e => hll (by rw [e]))]
theorem readJ_n (s : List UInt8) : (readJ s).1.length ≤ s.length := readJ_len s.length s (Nat.le_refl _)
theorem take_t (l : List (List UInt8)) (n : Nat) : List.take (tn ((n : Int) - 0)) (List.drop (tn 0) (l.map StE)) = (l.take n).map StE := by
  show List.take ((n : Int) - 0).toNat (List.drop 0 (l.map StE)) = _
  rw [show ((n : Int) - 0).toNat = n by omega, List.drop_zero, List.map_take]
theorem recL (j r : List UInt8) (hw : (readJ j).2 = true) (hl : (j ++ recT r).length < 100000000) : ∀ (n k : Nat), k + n = (j ++ recT r).length →
    L_laws_FnJournalRecovery_0 (S j) (S (j ++ recT r)) k ((readJ j).1.map StE) (((readJ j).1 ++ [r]).map StE) = some [.bool true]
  | 0, k, hk => by
    rw [L_laws_FnJournalRecovery_0_eq, szI_S, ltF (by omega), cond_false]
  | n + 1, k, hk => by
    have ih := recL j r hw hl n (k + 1) (by omega)
    have hjn := readJ_n j
    have hjl : j.length ≤ (j ++ recT r).length := by simp
    have hrec : ∃ m, (readJ ((j ++ recT r).take k)).1 = ((readJ j).1 ++ [r]).take m ∧ m ≤ (readJ j).1.length ∧ (j.length ≤ k → m = (readJ j).1.length) := by
      by_cases hkj : k < j.length
      · obtain ⟨m, hm⟩ := readJ_pre j.length j k (Nat.le_refl _)
        have e1 : (j ++ recT r).take k = j.take k := List.take_append_of_le_length (by omega)
        by_cases hml : m ≤ (readJ j).1.length
        · exact ⟨m, by rw [e1, hm, List.take_append_of_le_length hml], hml, fun h => by omega⟩
        · refine ⟨(readJ j).1.length, ?_, Nat.le_refl _, fun _ => rfl⟩
          rw [e1, hm, List.take_of_length_le (by omega), List.take_left]
      · refine ⟨(readJ j).1.length, ?_, Nat.le_refl _, fun _ => rfl⟩
        have e1 : (j ++ recT r).take k = j ++ (recT r).take (k - j.length) := by
          rw [List.take_append, List.take_of_length_le (by omega)]
        rw [e1, readJ_app j.length j _ (Nat.le_refl _) hw, front_short r _ (by simp at hk; omega)]
        simp
    obtain ⟨m, hm, hml, hmk⟩ := hrec
    have htl : (readJ ((j ++ recT r).take k)).1.length = m := by rw [hm, List.length_take]; simp; omega
    have f1 := iTrunc (j ++ recT r) (k : Int)
    rw [Int.toNat_natCast] at f1
    have f2 := iReadRecords ((j ++ recT r).take k) (by simp only [List.length_take]; omega)
    have f3 := sameTexts_ok (readJ ((j ++ recT r).take k)).1 (((readJ j).1 ++ [r]).take m) (by omega)
    have f4 : ((readJ j).1 ++ [r]).length = (readJ j).1.length + 1 := by simp
    rw [L_laws_FnJournalRecovery_0_eq, szI_S, ltT (by omega), cond_true, f1]
    simp only [gn_c, gb_c, gs_c, gl_c, tk_s, tk_0, List.drop_succ_cons, List.drop_zero, List.headD_cons, List.getD_cons_zero, List.getD_cons_succ, bind_s, f2, lenI_map, List.length_map, htl, f4, take_t, szI_S]
    rw [ltF (by omega), cond_false, leT (by omega), leT (by omega), f3, hm, decide_eq_true rfl, w64_s (by omega)]
    simp only [gn_c, gb_c, gs_c, gl_c, tk_s, tk_0, List.drop_succ_cons, List.drop_zero, List.headD_cons, List.getD_cons_zero, List.getD_cons_succ, bind_s, Bool.and_self, cond_true, Bool.not_true, cond_false]
    by_cases hkj : k < j.length
    · rw [ltT (by omega), cond_true, ltF (by omega), cond_false, leF (by omega), cond_false]
      exact ih
    · rw [ltF (by omega), cond_false, leT (by omega), cond_true, eqT (by rw [hmk (by omega)]), Bool.not_true, cond_false]
      exact ih
theorem pure_FnJournalRecovery : ∀ ds, OkDs tE [.sl 5] ds → callI tE f_laws_FnJournalRecovery ds = some [.bool true] := by
  intro ds h0
  obtain ⟨_, _, rfl, i0, h1⟩ := h0.inv
  obtain ⟨l0, rfl⟩ := of_rows i0
  obtain rfl := h1.nil_inv
  rw [c_laws_FnJournalRecovery, c_laws_big]
  simp only [gn_c, gb_c, gs_c, gl_c, tk_s, tk_0, List.drop_succ_cons, List.drop_zero, List.headD_cons, List.getD_cons_zero, List.getD_cons_succ, bind_s]
  by_cases hs : l0.length ≤ 1048576
  · rw [ltF (show lenI l0 ≤ 1048576 by show (l0.length : Int) ≤ 1048576; omega), cond_false]
    obtain ⟨j, r, e1, q1, q2⟩ := dDrawApp l0 hs
    obtain ⟨b, e2, q3⟩ := dDrawRead l0 hs
    obtain ⟨c, n, e3⟩ := dDrawTrunc l0 hs
    have f1 := iAppendRecord j r (by omega) (by omega)
    have f2 := sAppendRecord j r (by omega) (by omega)
    have f3 := iReadRecords j (by omega)
    have f4 := sReadRecords j (by omega)
    have f5 := iReadRecords b (by omega)
    have f6 := sReadRecords b (by omega)
    have f7 := iTrunc c n
    have f8 := sTrunc c n
    have f9 := iLastRecord j (by omega)
    have f10 := sLastRecord j (by omega)
    have hjn := readJ_n j
    have hbn := readJ_n b
    have f11 := sameTexts_ok (readJ j).1 (readJ j).1 (by omega)
    have f12 := sameTexts_ok (readJ b).1 (readJ b).1 (by omega)
    obtain ⟨rl1, rl2⟩ := recT_len (r := r) (by omega)
    have hlast : ∃ (x : List UInt8) (h : Bool), lastJ j = [.str (S x), .bool h] ∧ h = decide (0 < (readJ j).1.length) ∧ (h = true → inR (w64 (((readJ j).1.length : Int) - 1)) (((readJ j).1.length : Nat) : Int) = true ∧ at' ((readJ j).1.map StE) (tn (w64 (((readJ j).1.length : Int) - 1))) = [.str (S x)]) := by
      unfold lastJ
      rcases split_last (readJ j).1 with e | ⟨u, a, e⟩
      · rw [e]; exact ⟨[], false, rfl, rfl, fun h => by cases h⟩
      · rw [e] at hjn ⊢
        simp only [List.length_append, List.length_cons, List.length_nil] at hjn
        have hw : w64 (((u ++ [a]).length : Int) - 1) = (u.length : Int) := by rw [w64_id ⟨by (first | omega | (simp only [List.length_append, List.length_cons, List.length_nil, List.length_map, List.length_take, List.length_drop, List.length_replicate, szI_S] at * <;> omega)), by (first | omega | (simp only [List.length_append, List.length_cons, List.length_nil, List.length_map, List.length_take, List.length_drop, List.length_replicate, szI_S] at * <;> omega))⟩]; simp
        refine ⟨a, true, by simp only [List.getLast?_append, List.getLast?_singleton, Option.some_or], (decide_eq_true (by (first | omega | (simp only [List.length_append, List.length_cons, List.length_nil, List.length_map, List.length_take, List.length_drop, List.length_replicate, szI_S] at * <;> omega)))).symm, fun _ => ⟨?_, ?_⟩⟩
        · rw [hw]; exact inRT (by omega) (by simp; omega)
        · rw [hw, tn_c]; exact at_m u [] a
    obtain ⟨x, hb, e4, e5, e6⟩ := hlast
    rw [e4] at f9 f10
    by_cases hap : ((readJ j).2 && leN (j ++ recT r).length 20000) = true
    · have hap' := hap
      rw [Bool.and_eq_true] at hap'
      have hle : (j ++ recT r).length ≤ 20000 := of_decide_eq_true hap'.2
      have ha : appJ j r = [.str (S (j ++ recT r)), .bool true] := by unfold appJ; rw [hap]; rfl
      have hx : readJ (j ++ recT r) = ((readJ j).1 ++ [r], true) := by
        have h1 := readJ_ok r []
        rw [List.append_nil, readJ_nil] at h1
        rw [readJ_app j.length j _ (Nat.le_refl _) hap'.1, h1]
      have f13 := iReadRecords (j ++ recT r) (by omega)
      rw [hx] at f13
      simp only at f13
      rw [ha] at f1 f2
      have hat : at' (((readJ j).1 ++ [r]).map StE) (readJ j).1.length = [.str (S r)] := at_m (readJ j).1 [] r
      have f14 : ((readJ j).1 ++ [r]).length = (readJ j).1.length + 1 := by simp
      have main := recL j r hap'.1 (by omega) (j ++ recT r).length 0 (by omega)
      have rest : (bif !(eqI (((readJ j).1.length + 1 : Nat) : Int) (w64 (((readJ j).1.length : Int) + 1))) then some [Dat.bool false] else (bif inR ((readJ j).1.length : Int) (((readJ j).1.length + 1 : Nat) : Int) then (bif !(eqS (gs (at' (((readJ j).1 ++ [r]).map StE) (tn ((readJ j).1.length : Int)))) (S r)) then some [.bool false] else
          L_laws_FnJournalRecovery_0 (S j) (S (j ++ recT r)) 0 ((readJ j).1.map StE) (((readJ j).1 ++ [r]).map StE)) else none)) = some [.bool true] := by
        rw [w64_s (by omega), eqI_self, inRT (by omega) (by omega), tn_c, hat, gs_c, eqS_self]
        exact main
      simp only [e1, e2, e3, f1, f2, f3, f4, f5, f6, f7, f8, f9, f10, f11, f12, f13, gn_c, gb_c, gs_c, gl_c, tk_s, tk_0, List.drop_succ_cons, List.drop_zero, List.headD_cons, List.getD_cons_zero, List.getD_cons_succ, bind_s, decide_true, eqBo_self, eqS_self, Bool.not_true, cond_false, lenI_map, f14]
      cases hb with
      | false =>
        rw [show ltI 0 (((readJ j).1.length : Nat) : Int) = false by
          have := of_decide_eq_false e5.symm
          exact ltF (by omega)]
        simp only [eqBo_self, Bool.not_true, cond_false]
        exact rest
      | true =>
        obtain ⟨g1, g2⟩ := e6 rfl
        rw [show ltI 0 (((readJ j).1.length : Nat) : Int) = true by
          have := of_decide_eq_true e5.symm
          exact ltT (by omega)]
        simp only [eqBo_self, Bool.not_true, cond_false, cond_true, g1, g2, gs_c, eqS_self]
        exact rest
    · have ha : appJ j r = [.str (S j), .bool false] := by unfold appJ; rw [(Bool.not_eq_true _).mp hap]; rfl
      rw [ha] at f1 f2
      simp only [e1, e2, e3, f1, f2, f3, f4, f5, f6, f7, f8, f9, f10, f11, f12, gn_c, gb_c, gs_c, gl_c, tk_s, tk_0, List.drop_succ_cons, List.drop_zero, List.headD_cons, List.getD_cons_zero, List.getD_cons_succ, bind_s, decide_true, eqBo_self, eqS_self, Bool.not_true, Bool.not_false, cond_false, cond_true, lenI_map]
      cases hb with
      | false =>
        rw [show ltI 0 (((readJ j).1.length : Nat) : Int) = false by
          have := of_decide_eq_false e5.symm
          exact ltF (by omega)]
        simp only [eqBo_self, Bool.not_true, cond_false]
      | true =>
        obtain ⟨g1, g2⟩ := e6 rfl
        rw [show ltI 0 (((readJ j).1.length : Nat) : Int) = true by
          have := of_decide_eq_true e5.symm
          exact ltT (by omega)]
        simp only [eqBo_self, Bool.not_true, cond_false, cond_true, g1, g2, gs_c, eqS_self]
  · rw [ltT (show 1048576 < lenI l0 by show (1048576 : Int) < (l0.length : Int); omega)]
    rfl
end Go.Proofs.Ytbmafhpbinjgaaa.Vai
