/- The exchange: made, copied, valid, rows sent and received; no condition. -/
import Derived.Test.YtbmafhpbinjgaaaEqB
import Derived.Test.YtbmafhpbinjgaaaEqC
import Derived.Test.YtbmafhpbinjgaaaP1
namespace Go.Proofs.Ytbmafhpbinjgaaa.Vai
open Go
set_option linter.unusedSimpArgs false
set_option linter.unusedVariables false
set_option linter.unnecessarySimpa false
set_option maxRecDepth 10000
/-! places in lists -/
theorem split_at {α : Type} {l : List α} {n : Nat} (h : n < l.length) : ∃ u a v, l = u ++ a :: v ∧ u.length = n :=
  ⟨l.take n, l[n], l.drop (n + 1), by
    have := List.take_append_drop n l
    rw [List.drop_eq_getElem_cons h] at this
    exact this.symm, by simp; omega⟩
theorem getD_m {α : Type} (u v : List α) (a d : α) : (u ++ a :: v).getD u.length d = a := by simp [List.getD_eq_getElem?_getD]
theorem set_m {α : Type} (u v : List α) (a b : α) : (u ++ a :: v).set u.length b = u ++ b :: v := by rw [List.set_append_right _ _ (Nat.le_refl _)]; simp
theorem upd_rs (u v : List (List Rw)) (a : List Rw) (X : Rows) : updR ((u ++ a :: v).map rsE) u.length 0 [.sl X] = u.map rsE ++ [.sl X] :: v.map rsE := by
  rw [upd_m]; rfl
theorem map_rs (u v : List (List Rw)) (a : List Rw) : u.map rsE ++ [Dat.sl (a.map Rw.e)] :: v.map rsE = (u ++ a :: v).map rsE := by simp [rsE]
theorem cut_tail (r : Rw) (p : List Rw) : List.take (tn (lenI ((r :: p).map Rw.e) - 1)) (List.drop (tn 1) ((r :: p).map Rw.e)) = p.map Rw.e := by
  rw [lenI_map]
  show List.take ((((r :: p).length : Nat) : Int) - 1).toNat (List.drop 1 (Rw.e r :: p.map Rw.e)) = _
  simp [List.take_of_length_le]
theorem szL_mem' {l : List (List Rw)} {a : List Rw} (h : a ∈ l) : a.length ≤ szL List.length l := szL_mem h
theorem rs_app (l : List (List Rw)) (a : List Rw) : List.append (l.map rsE) [[Dat.sl (a.map Rw.e)]] = (l ++ [a]).map rsE := by simp [rsE]
/-! copies -/
theorem sLists (l : List (List Rw)) (h : szL List.length l ≤ 1073741824) : callI tE f_spec_l26Lists [.sl (l.map rsE)] = some [.sl (l.map rsE)] := by
  have hl := szL_len List.length l
  rw [c_spec_l26Lists]
  have := zip_loop (l := l) (L := fun (s : List (List Rw)) i => L_spec_l26Lists_0 (l.map rsE) i (s.map rsE)) (F := fun _ _ => some [.sl (l.map rsE)]) (I := fun s u _ => s = u) (by omega) (fun u a v s e hI => by
    have ha : a.length ≤ 1073741824 := Nat.le_trans (szL_mem' (by rw [e]; simp)) h
    have hul : u.length ≤ 1073741824 := by rw [e] at hl h; simp at hl; rw [e] at *; omega
    refine .inl ⟨u ++ [a], ?_, rfl, rfl⟩
    show L_spec_l26Lists_0 _ _ _ = L_spec_l26Lists_0 _ _ _
    subst e
    rw [L_spec_l26Lists_0_eq, hI]
    simp only [lt_m, in_m, tn_c, at_m, cond_true, rsE, gn_c, gb_c, gs_c, gl_c, tk_s, tk_0, List.drop_succ_cons, List.drop_zero, List.headD_cons, List.getD_cons_zero, List.getD_cons_succ, bind_s, len_map]
    rw [show fitM (0 + a.length) 24 = true from fitT (by omega), show fitM (Nat.succ u.length) 24 = true from fitT (by omega), rs_app]
    rfl) (fun s hs => by
    show L_spec_l26Lists_0 _ _ _ = _
    rw [L_spec_l26Lists_0_eq, lt_e, cond_false, hs]) [] rfl
  exact this
theorem iCloneLists (l : List (List Rw)) (h : szL List.length l ≤ 1073741824) : callI tE f_impl_cloneLists [.sl (l.map rsE)] = some [.sl (l.map rsE)] := by
  have hl := szL_len List.length l
  rw [c_impl_cloneLists]
  have := zip_loop (l := l) (L := fun (s : List (List Rw)) i => L_impl_cloneLists_0 (l.map rsE) (lenI (l.map rsE)) i (s.map rsE)) (F := fun _ _ => some [.sl (l.map rsE)]) (I := fun s u _ => s = u) (by omega) (fun u a v s e hI => by
    have ha : a.length ≤ 1073741824 := Nat.le_trans (szL_mem' (by rw [e]; simp)) h
    have hul : u.length ≤ 1073741824 := by rw [e] at hl h; simp at hl; rw [e] at *; omega
    refine .inl ⟨u ++ [a], ?_, rfl, rfl⟩
    show L_impl_cloneLists_0 _ _ _ _ = L_impl_cloneLists_0 _ _ _ _
    subst e
    rw [L_impl_cloneLists_0_eq, hI]
    simp only [lt_m, in_m, tn_c, at_m, cond_true, rsE, gn_c, gb_c, gs_c, gl_c, tk_s, tk_0, List.drop_succ_cons, List.drop_zero, List.headD_cons, List.getD_cons_zero, List.getD_cons_succ, bind_s, iClone a (by omega), len_map]
    rw [show fitM (Nat.succ u.length) 24 = true from fitT (by omega), rs_app]
    rfl) (fun s hs => by
    show L_impl_cloneLists_0 _ _ _ _ = _
    rw [L_impl_cloneLists_0_eq, lt_e, cond_false, hs]) [] rfl
  exact this
def Xc.B (x : Xc) : Prop := x.sz ≤ 1073741824
theorem Xc.B.p {x : Xc} (h : x.B) : szL List.length x.pend ≤ 1073741824 ∧ szL List.length x.que ≤ 1073741824 ∧ szL List.length x.got ≤ 1073741824 := by
  simp only [Xc.B, Xc.sz] at h; omega
theorem iCloneX (x : Xc) (h : x.B) : callI tE f_impl_cloneExchange [.sl (x.pend.map rsE), .sl (x.que.map rsE), .sl (x.got.map rsE), .int x.cap] = some [.sl (x.pend.map rsE), .sl (x.que.map rsE), .sl (x.got.map rsE), .int x.cap] := by
  obtain ⟨h1, h2, h3⟩ := h.p
  simp only [c_impl_cloneExchange, iCloneLists _ h1, iCloneLists _ h2, iCloneLists _ h3, gn_c, gb_c, gs_c, gl_c, tk_s, tk_0, List.drop_succ_cons, List.drop_zero, List.headD_cons, List.getD_cons_zero, List.getD_cons_succ, bind_s]
theorem sCopyX (x : Xc) (h : x.B) : callI tE f_spec_l26Copy [.sl (x.pend.map rsE), .sl (x.que.map rsE), .sl (x.got.map rsE), .int x.cap] = some [.sl (x.pend.map rsE), .sl (x.que.map rsE), .sl (x.got.map rsE), .int x.cap] := by
  obtain ⟨h1, h2, h3⟩ := h.p
  simp only [c_spec_l26Copy, sLists _ h1, sLists _ h2, sLists _ h3, gn_c, gb_c, gs_c, gl_c, tk_s, tk_0, List.drop_succ_cons, List.drop_zero, List.headD_cons, List.getD_cons_zero, List.getD_cons_succ, bind_s]
/-! made anew -/
def sendOk (l : List (List Rw)) : Bool := l.all aok && win l.length 1 3
theorem iSenders (l : List (List Rw)) (h : szL List.length l ≤ 1073741824) : callI tE f_impl_senders [.sl (l.map rsE)] = some [.bool (sendOk l)] := by
  have hl := szL_len List.length l
  rw [c_impl_senders]
  have := all_loop (l := l) (L := L_impl_senders_0 (l.map rsE) (l.map rsE) (lenI (l.map rsE))) (p := aok) (no := some [.bool false]) (yes := some [.bool (win l.length 1 3)]) (by omega) (fun u a v e => by
    subst e
    rw [L_impl_senders_0_eq]
    simp only [lt_m, in_m, tn_c, at_m, cond_true, rsE, gn_c, gb_c, gs_c, gl_c, tk_s, tk_0, List.drop_succ_cons, List.drop_zero, List.headD_cons, List.getD_cons_zero, List.getD_cons_succ, bind_s, iAreValid, bifn]) (by
    rw [L_impl_senders_0_eq, lt_e, cond_false, lenI_map]
    simp only [within_ok, gn_c, gb_c, gs_c, gl_c, tk_s, tk_0, List.drop_succ_cons, List.drop_zero, List.headD_cons, List.getD_cons_zero, List.getD_cons_succ, bind_s])
  refine this.trans ?_
  unfold sendOk
  cases l.all aok <;> rfl
def NX (p : List (List Rw)) (r c : Int) : Xc × Bool := if sendOk p = true ∧ win r 1 3 = true ∧ win c 1 9 = true then (⟨p, List.replicate r.toNat [], List.replicate r.toNat [], c⟩, true) else (⟨[], [], [], 0⟩, false)
def XB (x : Xc × Bool) : List Dat := [.sl (x.1.pend.map rsE), .sl (x.1.que.map rsE), .sl (x.1.got.map rsE), .int x.1.cap, .bool x.2]
theorem XB_eq (x : Xc) (b : Bool) : XB (x, b) = [.sl (x.pend.map rsE), .sl (x.que.map rsE), .sl (x.got.map rsE), .int x.cap, .bool b] := rfl
theorem rep_rs (n : Nat) : List.replicate n [Dat.sl []] = (List.replicate n ([] : List Rw)).map rsE := by simp [rsE]
theorem iNewX (p : List (List Rw)) (r c : Int) (h : szL List.length p ≤ 1073741824) : callI tE f_impl_NewExchange [.sl (p.map rsE), .int r, .int c] = some (XB (NX p r c)) := by
  simp only [c_impl_NewExchange, iSenders p h, within_ok, gn_c, gb_c, gs_c, gl_c, tk_s, tk_0, List.drop_succ_cons, List.drop_zero, List.headD_cons, List.getD_cons_zero, List.getD_cons_succ, bind_s]
  unfold NX
  by_cases h1 : sendOk p = true
  · by_cases h2 : win r 1 3 = true
    · by_cases h3 : win c 1 9 = true
      · have := win_iff.mp h2
        rw [if_pos ⟨h1, h2, h3⟩, h1, h2, h3, leT (by omega), eqI_self, show fitM (tn r) 24 = true from fitT (by show r.toNat * 24 ≤ _; omega), iCloneLists p h]
        simp only [Bool.not_true, cond_false, gn_c, gb_c, gs_c, gl_c, tk_s, tk_0, List.drop_succ_cons, List.drop_zero, List.headD_cons, List.getD_cons_zero, List.getD_cons_succ, bind_s, Bool.and_self, cond_true, rep_rs, XB_eq]
      · rw [if_neg (fun q => h3 q.2.2), h1, h2, (Bool.not_eq_true _).mp h3]; rfl
    · rw [if_neg (fun q => h2 q.2.1), h1, (Bool.not_eq_true _).mp h2]; rfl
  · rw [if_neg (fun q => h1 q.1), (Bool.not_eq_true _).mp h1]; rfl
theorem sNew1 (p : List (List Rw)) (x1 x2 x3 c : Int) (x5 x6 x7 : Rows) : ∀ (k n : Nat), n + k ≤ 100 → L_spec_NewExchange_1 ((n + k : Nat) : Int) x1 x2 x3 c x5 x6 x7 (p.map rsE) ((List.replicate n ([] : List Rw)).map rsE) ((List.replicate n ([] : List Rw)).map rsE) = some (XB (⟨p, List.replicate (n + k) [], List.replicate (n + k) [], c⟩, true))
  | 0, n, h => by
    rw [L_spec_NewExchange_1_eq, lenI_map, ltF (by simp)]; rfl
  | k + 1, n, h => by
    rw [L_spec_NewExchange_1_eq, lenI_map, ltT (by simp; omega), len_map]
    rw [show fitM (Nat.succ (List.replicate n ([] : List Rw)).length) 24 = true from fitT (by simp; omega)]
    have e : List.append ((List.replicate n ([] : List Rw)).map rsE) [[Dat.sl []]] = (List.replicate (n + 1) ([] : List Rw)).map rsE := by rw [List.replicate_succ']; simp [rsE]
    rw [e]
    have := sNew1 p x1 x2 x3 c x5 x6 x7 k (n + 1) (by omega)
    rw [show n + 1 + k = n + (k + 1) by omega] at this
    exact this
theorem sNewX (p : List (List Rw)) (r c : Int) (h : szL List.length p ≤ 1073741824) : callI tE f_spec_NewExchange [.sl (p.map rsE), .int r, .int c] = some (XB (NX p r c)) := by
  have hl := szL_len List.length p
  rw [c_spec_NewExchange]
  have fin : L_spec_NewExchange_0 (p.map rsE) r c 0 (p.length : Nat) 0 [] [] [] = bif win p.length 1 3 && (win r 1 3 && win c 1 9) then some (XB (⟨p, List.replicate r.toNat [], List.replicate r.toNat [], c⟩, true)) else some (XB (⟨[], [], [], 0⟩, false)) := by
    rw [L_spec_NewExchange_0_eq, lt_e, cond_false, lenI_map]
    simp only [l1In_ok, gn_c, gb_c, gs_c, gl_c, tk_s, tk_0, List.drop_succ_cons, List.drop_zero, List.headD_cons, List.getD_cons_zero, List.getD_cons_succ, bind_s, sLists p h]
    cases win p.length 1 3
    · rfl
    · cases h2 : win r 1 3
      · rfl
      · cases win c 1 9
        · rfl
        · have := win_iff.mp h2
          have := sNew1 p 0 0 0 c [] [] [] r.toNat 0 (by omega)
          rw [show ((0 + r.toNat : Nat) : Int) = r by omega, show 0 + r.toNat = r.toNat by omega] at this
          exact this
  have := all_loop (l := p) (L := fun i => L_spec_NewExchange_0 (p.map rsE) r c 0 i 0 [] [] []) (p := aok) (no := some (XB (⟨[], [], [], 0⟩, false))) (by omega) (fun u a v e => by
    subst e
    have ha : a.length ≤ 1073741824 := Nat.le_trans (szL_mem' (by simp)) h
    rw [L_spec_NewExchange_0_eq]
    simp only [lt_m, in_m, tn_c, at_m, cond_true, rsE, gn_c, gb_c, gs_c, gl_c, tk_s, tk_0, List.drop_succ_cons, List.drop_zero, List.headD_cons, List.getD_cons_zero, List.getD_cons_succ, bind_s, sAreValid a (by omega), bifn]
    rfl) fin
  refine this.trans ?_
  unfold NX sendOk
  cases p.all aok
  · rfl
  · cases win p.length 1 3
    · rfl
    · cases win r 1 3
      · rfl
      · cases win c 1 9 <;> rfl
/-! whose a row is -/
def recv (r : Rw) (n : Int) : Int := if win n 1 3 = true ∧ r.ok = true then Int.tmod (Int.tmod (7 * r.k) 16) n else 0
theorem recv_ok {r : Rw} {n : Nat} (h : win n 1 3 = true) (hr : r.ok = true) : 0 ≤ recv r n ∧ recv r n < n := by
  have h1 := win_iff.mp h
  have h2 := Rw.ok_iff.mp hr
  rw [recv, if_pos ⟨h, hr⟩, Int.tmod_eq_emod_of_nonneg (a := 7 * r.k) (by omega), Int.tmod_eq_emod_of_nonneg (by omega)]
  exact ⟨Int.emod_nonneg _ (by omega), Int.emod_lt_of_pos _ (by omega)⟩
theorem iRecvFor (r : Rw) (n : Int) : callI tE f_impl_ReceiverFor [.int r.k, .int r.v, .int r.w, .int n] = some [.int (recv r n)] := by
  simp only [c_impl_ReceiverFor, within_ok, iValidRow, gn_c, gb_c, gs_c, gl_c, tk_s, tk_0, List.drop_succ_cons, List.drop_zero, List.headD_cons, List.getD_cons_zero, List.getD_cons_succ, bind_s]
  unfold recv
  by_cases h1 : win n 1 3 = true
  · by_cases h2 : r.ok = true
    · have := win_iff.mp h1
      have := Rw.ok_iff.mp h2
      rw [h1, h2, eqF (by omega), w64_id ⟨by omega, by omega⟩]; simp
    · rw [h1, (Bool.not_eq_true _).mp h2]; simp
  · rw [(Bool.not_eq_true _).mp h1]; simp
theorem sRecvFor (r : Rw) (n : Int) : callI tE f_spec_ReceiverFor [.int r.k, .int r.v, .int r.w, .int n] = some [.int (recv r n)] := by
  simp only [c_spec_ReceiverFor, l1In_ok, sValidRow, gn_c, gb_c, gs_c, gl_c, tk_s, tk_0, List.drop_succ_cons, List.drop_zero, List.headD_cons, List.getD_cons_zero, List.getD_cons_succ, bind_s]
  unfold recv
  by_cases h1 : win n 1 3 = true
  · by_cases h2 : r.ok = true
    · have := win_iff.mp h1
      have := Rw.ok_iff.mp h2
      rw [h1, h2, eqF (by omega), w64_id ⟨by omega, by omega⟩]; simp [Int.mul_comm]
    · rw [h1, (Bool.not_eq_true _).mp h2]; simp
  · rw [(Bool.not_eq_true _).mp h1]; simp
/-! together -/
theorem iTogether (l : List (List Rw)) (h : szL List.length l ≤ 1073741824) : callI tE f_impl_together [.sl (l.map rsE)] = some [.sl (l.flatten.map Rw.e)] := by
  have hl := szL_len List.length l
  have hfl : ∀ m : List (List Rw), m.flatten.length ≤ szL List.length m := fun m => by
    induction m with
    | nil => simp
    | cons a m ih => simp only [List.flatten_cons, List.length_append, szL]; omega
  rw [c_impl_together]
  have := zip_loop (l := l) (L := fun (s : List Rw) i => L_impl_together_0 (l.map rsE) (lenI (l.map rsE)) i (s.map Rw.e)) (F := fun _ _ => some [.sl (l.flatten.map Rw.e)]) (I := fun s u _ => s = u.flatten) (by omega) (fun u a v s e hI => by
    have h1 := hfl (u ++ [a])
    have h2 : szL List.length (u ++ [a]) ≤ szL List.length l := by have := szL_split List.length (u ++ [a]) v; rw [e, show u ++ a :: v = (u ++ [a]) ++ v by simp, this]; omega
    refine .inl ⟨(u ++ [a]).flatten, ?_, rfl, rfl⟩
    show L_impl_together_0 _ _ _ _ = L_impl_together_0 _ _ _ _
    subst e
    rw [L_impl_together_0_eq, hI]
    simp only [lt_m, in_m, tn_c, at_m, cond_true, rsE, gn_c, gb_c, gs_c, gl_c, tk_s, tk_0, List.drop_succ_cons, List.drop_zero, List.headD_cons, List.getD_cons_zero, List.getD_cons_succ, bind_s, len_map, app_map2]
    have h3 : (u ++ [a]).flatten.length = u.flatten.length + a.length := by rw [List.flatten_append, List.length_append]; simp
    rw [show fitM (u.flatten.length + a.length) 24 = true from fitT (by omega)]
    simp) (fun s hs => by
    show L_impl_together_0 _ _ _ _ = _
    rw [L_impl_together_0_eq, lt_e, cond_false, hs]) [] rfl
  exact this
/-! valid -/
/-- a receiver's rows -/
def ownOk (n : Nat) (k : Nat) (l : List Rw) : Bool := l.all fun r => r.ok && eqI (recv r n) k
def recvOk (n : Nat) (cap : Int) : Nat → List (List Rw) → List (List Rw) → Bool
  | k, q :: qs, g :: gs => leI q.length cap && (ownOk n k (q ++ g) && recvOk n cap (k + 1) qs gs)
  | _, _, _ => true
def exOk (x : Xc) : Bool := sendOk x.pend && (win x.que.length 1 3 && (eqI x.got.length x.que.length && (win x.cap 1 9 && recvOk x.que.length x.cap 0 x.que x.got)))
theorem recvOk_cons (n : Nat) (cap : Int) (k : Nat) (q g : List Rw) (qs gs : List (List Rw)) : recvOk n cap k (q :: qs) (g :: gs) = (leI q.length cap && (ownOk n k (q ++ g) && recvOk n cap (k + 1) qs gs)) := rfl
theorem iVal1 {x0 n cap : Int} {m k : Nat} {P Q R : Rows} {l : List Rw} (hn : n = (m : Int)) (hl : l.length < 4611686018427387904) :
    L_impl_IsValidExchange_1 x0 n (k : Int) n (k : Int) (lenI (l.map Rw.e)) 0 P Q R cap (l.map Rw.e) = bif ownOk m k l then L_impl_IsValidExchange_0 x0 n n (w64 (k + 1)) P Q R cap else some [.bool false] := by
  subst hn
  exact all_loop (l := l) (L := fun i => L_impl_IsValidExchange_1 x0 (m : Int) (k : Int) (m : Int) (k : Int) (lenI (l.map Rw.e)) i P Q R cap (l.map Rw.e)) (p := fun r => r.ok && eqI (recv r m) k) (no := some [.bool false]) (by omega) (fun u a v e => by
    subst e
    rw [L_impl_IsValidExchange_1_eq]
    simp only [lt_m, in_m, tn_c, at_m, cond_true, Rw.e, gn_c, gb_c, gs_c, gl_c, tk_s, tk_0, List.drop_succ_cons, List.drop_zero, List.headD_cons, List.getD_cons_zero, List.getD_cons_succ, bind_s, iValidRow, iRecvFor, bifn]
    cases a.ok <;> rfl) (by rw [L_impl_IsValidExchange_1_eq, lt_e, cond_false])
theorem sVal2 {x0 cap : Int} {k : Nat} {P R : Rows} {Q : List (List Rw)} {l : List Rw} (hl : l.length < 4611686018427387904) :
    L_spec_IsValidExchange_2 x0 (k : Int) 0 P (Q.map rsE) R cap (l.map Rw.e) = bif ownOk Q.length k l then L_spec_IsValidExchange_1 x0 (w64 (k + 1)) P (Q.map rsE) R cap else some [.bool false] :=
  all_loop (l := l) (L := fun i => L_spec_IsValidExchange_2 x0 (k : Int) i P (Q.map rsE) R cap (l.map Rw.e)) (p := fun r : Rw => r.ok && eqI (recv r Q.length) k) (no := some [.bool false]) (by omega) (fun u a v e => by
    subst e
    have hQ : lenI (Q.map rsE) = (Q.length : Int) := lenI_map _ _
    rw [L_spec_IsValidExchange_2_eq]
    simp only [lt_m, in_m, tn_c, at_m, cond_true, Rw.e, gn_c, gb_c, gs_c, gl_c, tk_s, tk_0, List.drop_succ_cons, List.drop_zero, List.headD_cons, List.getD_cons_zero, List.getD_cons_succ, bind_s, sValidRow, hQ, sRecvFor, bifn]
    cases a.ok <;> rfl) (by rw [L_spec_IsValidExchange_2_eq, lt_e, cond_false])
theorem szL_2 (a b : List Rw) : szL List.length [a, b] = 2 + a.length + b.length := by simp only [szL]; omega
theorem iVal0 {x0 cap : Int} {P : Rows} {Q R : List (List Rw)} (hq : szL List.length Q ≤ 1073741824 - 10) (hr : szL List.length R ≤ 1073741824 - 10) (hqr : szL List.length Q + szL List.length R ≤ 1073741824 - 10) : ∀ (q r u v : List (List Rw)), Q = u ++ q → R = v ++ r → u.length = v.length → q.length = r.length →
    L_impl_IsValidExchange_0 x0 (Q.length : Int) (Q.length : Int) (u.length : Int) P (Q.map rsE) (R.map rsE) cap = some [.bool (recvOk Q.length cap u.length q r)]
  | [], [], u, v, e1, e2, h1, h2 => by
    rw [List.append_nil] at e1
    rw [L_impl_IsValidExchange_0_eq, ltF (by rw [e1]; omega)]; rfl
  | [], _ :: _, _, _, _, _, _, h => by simp at h
  | _ :: _, [], _, _, _, _, _, h => by simp at h
  | a :: q, b :: r, u, v, e1, e2, h1, h2 => by
    have hQl := szL_len List.length Q
    have hul : u.length < Q.length := by rw [e1]; simp
    have ha : a.length ≤ szL List.length Q := szL_mem' (by rw [e1]; simp)
    have hb : b.length ≤ szL List.length R := szL_mem' (by rw [e2]; simp)
    have ih := iVal0 (x0 := x0) (cap := cap) (P := P) hq hr hqr q r (u ++ [a]) (v ++ [b]) (by rw [e1]; simp) (by rw [e2]; simp) (by simp; omega) (by simpa using h2)
    rw [L_impl_IsValidExchange_0_eq]
    have c1 : ltI (u.length : Int) (Q.length : Int) = true := ltT (by omega)
    have c2 : inR (u.length : Int) (lenI (Q.map rsE)) = true := by rw [e1]; exact in_m u q a
    have c3 : at' (Q.map rsE) u.length = rsE a := by rw [e1]; exact at_m u q a
    have c4 : inR (u.length : Int) (lenI (R.map rsE)) = true := by rw [e2, h1]; exact in_m v r b
    have c5 : at' (R.map rsE) u.length = rsE b := by rw [e2, h1]; exact at_m v r b
    have ht := iTogether [a, b] (by rw [szL_2]; omega)
    have ht' : callI tE f_impl_together [.sl [[.sl (a.map Rw.e)], [.sl (b.map Rw.e)]]] = some [.sl ((a ++ b).map Rw.e)] := by simpa [rsE] using ht
    rw [c1, c2, tn_c, c3, c4, c5]
    simp only [rsE, gn_c, gb_c, gs_c, gl_c, tk_s, tk_0, List.drop_succ_cons, List.drop_zero, List.headD_cons, List.getD_cons_zero, List.getD_cons_succ, bind_s, cond_true, ht']
    have hv := iVal1 (x0 := x0) (n := (Q.length : Int)) (cap := cap) (k := u.length) (P := P) (Q := Q.map rsE) (R := R.map rsE) (l := a ++ b) rfl (by simp; omega)
    rw [hv, w64_s (by omega), lenI_map, recvOk_cons]
    simp only [List.length_append, List.length_cons, List.length_nil, Nat.zero_add] at ih
    rw [ih]
    by_cases hc : (a.length : Int) ≤ cap
    · rw [ltF (by omega), leT hc]; cases ownOk Q.length u.length (a ++ b) <;> rfl
    · rw [ltT (by omega), leF (by omega)]; rfl
theorem sVal1 {x0 cap : Int} {P : Rows} {Q R : List (List Rw)} (hq : szL List.length Q ≤ 1073741824 - 10) (hr : szL List.length R ≤ 1073741824 - 10) (hqr : szL List.length Q + szL List.length R ≤ 1073741824 - 10) : ∀ (q r u v : List (List Rw)), Q = u ++ q → R = v ++ r → u.length = v.length → q.length = r.length →
    L_spec_IsValidExchange_1 x0 (u.length : Int) P (Q.map rsE) (R.map rsE) cap = some [.bool (recvOk Q.length cap u.length q r)]
  | [], [], u, v, e1, e2, h1, h2 => by
    rw [List.append_nil] at e1
    rw [L_spec_IsValidExchange_1_eq, lenI_map, ltF (by rw [e1]; omega)]; rfl
  | [], _ :: _, _, _, _, _, _, h => by simp at h
  | _ :: _, [], _, _, _, _, _, h => by simp at h
  | a :: q, b :: r, u, v, e1, e2, h1, h2 => by
    have hQl := szL_len List.length Q
    have hul : u.length < Q.length := by rw [e1]; simp
    have ha : a.length ≤ szL List.length Q := szL_mem' (by rw [e1]; simp)
    have hb : b.length ≤ szL List.length R := szL_mem' (by rw [e2]; simp)
    have ih := sVal1 (x0 := x0) (cap := cap) (P := P) hq hr hqr q r (u ++ [a]) (v ++ [b]) (by rw [e1]; simp) (by rw [e2]; simp) (by simp; omega) (by simpa using h2)
    rw [L_spec_IsValidExchange_1_eq]
    have c1 : ltI (u.length : Int) (lenI (Q.map rsE)) = true := by rw [lenI_map]; exact ltT (by omega)
    have c2 : inR (u.length : Int) (lenI (Q.map rsE)) = true := by rw [e1]; exact in_m u q a
    have c3 : at' (Q.map rsE) u.length = rsE a := by rw [e1]; exact at_m u q a
    have c4 : inR (u.length : Int) (lenI (R.map rsE)) = true := by rw [e2, h1]; exact in_m v r b
    have c5 : at' (R.map rsE) u.length = rsE b := by rw [e2, h1]; exact at_m v r b
    have f1 : fitM (0 + a.length) 24 = true := fitT (by omega)
    have f2 : fitM (a.length + b.length) 24 = true := fitT (by omega)
    rw [c1, c2, tn_c, c3, c4, c5]
    simp only [rsE, gn_c, gb_c, gs_c, gl_c, tk_s, tk_0, List.drop_succ_cons, List.drop_zero, List.headD_cons, List.getD_cons_zero, List.getD_cons_succ, bind_s, cond_true, len_map, f1, f2, app_map2]
    have hv := sVal2 (x0 := x0) (cap := cap) (k := u.length) (P := P) (Q := Q) (R := R.map rsE) (l := a ++ b) (by simp; omega)
    rw [hv, w64_s (by omega), lenI_map, recvOk_cons]
    simp only [List.length_append, List.length_cons, List.length_nil, Nat.zero_add] at ih
    rw [ih]
    by_cases hc : (a.length : Int) ≤ cap
    · rw [ltF (by omega), leT hc]; cases ownOk Q.length u.length (a ++ b) <;> rfl
    · rw [ltT (by omega), leF (by omega)]; rfl
def Xc.B2 (x : Xc) : Prop := x.sz ≤ 1073741800
theorem Xc.B2.b {x : Xc} (h : x.B2) : x.B := by simp only [Xc.B2, Xc.B] at *; omega
theorem iValidX (x : Xc) (h : x.B2) : callI tE f_impl_IsValidExchange [.sl (x.pend.map rsE), .sl (x.que.map rsE), .sl (x.got.map rsE), .int x.cap] = some [.bool (exOk x)] := by
  have hb := h.b.p
  simp only [Xc.B2, Xc.sz] at h
  simp only [c_impl_IsValidExchange, iSenders x.pend hb.1, within_ok, gn_c, gb_c, gs_c, gl_c, tk_s, tk_0, List.drop_succ_cons, List.drop_zero, List.headD_cons, List.getD_cons_zero, List.getD_cons_succ, bind_s, lenI_map]
  unfold exOk
  cases sendOk x.pend
  · rfl
  · cases win x.que.length 1 3
    · rfl
    · by_cases he : x.got.length = x.que.length
      · rw [eqT (by omega)]
        cases win x.cap 1 9
        · rfl
        · have := iVal0 (x0 := 0) (cap := x.cap) (P := x.pend.map rsE) (Q := x.que) (R := x.got) (by omega) (by omega) (by omega) x.que x.got [] [] rfl rfl rfl he.symm
          exact this
      · rw [eqF (by omega)]; rfl
theorem sValidX (x : Xc) (h : x.B2) : callI tE f_spec_IsValidExchange [.sl (x.pend.map rsE), .sl (x.que.map rsE), .sl (x.got.map rsE), .int x.cap] = some [.bool (exOk x)] := by
  have hb := h.b.p
  have hl := szL_len List.length x.pend
  simp only [Xc.B2, Xc.sz] at h
  simp only [c_spec_IsValidExchange, l1In_ok, gn_c, gb_c, gs_c, gl_c, tk_s, tk_0, List.drop_succ_cons, List.drop_zero, List.headD_cons, List.getD_cons_zero, List.getD_cons_succ, bind_s, lenI_map]
  have h0 : L_spec_IsValidExchange_0 0 0 (x.pend.map rsE) (x.que.map rsE) (x.got.map rsE) x.cap = bif x.pend.all aok then L_spec_IsValidExchange_1 0 0 (x.pend.map rsE) (x.que.map rsE) (x.got.map rsE) x.cap else some [.bool false] :=
    all_loop (l := x.pend) (L := fun i => L_spec_IsValidExchange_0 0 i (x.pend.map rsE) (x.que.map rsE) (x.got.map rsE) x.cap) (p := aok) (no := some [.bool false]) (by omega) (fun u a v e => by
      have ha : a.length ≤ 1073741824 := Nat.le_trans (szL_mem' (by rw [e]; simp)) hb.1
      rw [L_spec_IsValidExchange_0_eq, e]
      simp only [lt_m, in_m, tn_c, at_m, cond_true, rsE, gn_c, gb_c, gs_c, gl_c, tk_s, tk_0, List.drop_succ_cons, List.drop_zero, List.headD_cons, List.getD_cons_zero, List.getD_cons_succ, bind_s, sAreValid a (by omega), bifn]) (by rw [L_spec_IsValidExchange_0_eq, lt_e, cond_false])
  unfold exOk sendOk
  cases win x.pend.length 1 3
  · simp
  · cases win x.que.length 1 3
    · simp
    · by_cases he : x.got.length = x.que.length
      · rw [eqT (by omega)]
        cases win x.cap 1 9
        · simp
        · have := sVal1 (x0 := 0) (cap := x.cap) (P := x.pend.map rsE) (Q := x.que) (R := x.got) (by omega) (by omega) (by omega) x.que x.got [] [] rfl rfl rfl he.symm
          simp only [List.length_nil, Int.natCast_zero] at this
          rw [h0, this]
          cases x.pend.all aok <;> simp
      · rw [eqF (by omega)]; simp
end Go.Proofs.Ytbmafhpbinjgaaa.Vai
