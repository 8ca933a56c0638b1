/- Exchanges: validity, the end; no condition. -/
import Derived.Test.YthjkpphjlmmkdaaPEx
namespace Go.Proofs.Ythjkpphjlmmkdaa.Vai
open Go
def flatL (l : Rows) : Rows := l.flatMap rls
theorem together_loop {a : Rows} (hn : a.length < 9223372036854775807) : ∀ (k i : Nat) (acc : Rows), i + k = a.length → (acc.length + (flatL (a.drop i)).length) * 24 ≤ 70368744177664 → L_impl_together_0 a a.length i acc = some [.sl (acc ++ flatL (a.drop i))]
  | 0, i, acc, h, hb => by
    have hi : i = a.length := h
    subst hi
    rw [L_impl_together_0_eq, lt_f (Nat.le_refl _), cond_false]
    simp [flatL]
  | k + 1, i, acc, h, hb => by
    have hi : i < a.length := by omega
    have e : a.drop i = a.getD i [] :: a.drop (i + 1) := by rw [getD_at hi]; exact List.drop_eq_getElem_cons hi
    rw [e] at hb ⊢
    simp only [flatL, List.flatMap_cons, List.length_append] at hb ⊢
    rw [L_impl_together_0_eq]
    have e2 : Dat.rows (List.headD (a.getD i []) (.int 0)) = rls (a.getD i []) := rfl
    have hg : leN ((acc.length + (rls (a.getD i [])).length) * 24) 70368744177664 = true := leNT (by omega)
    simp only [lt_t hi, ge0, Bool.and_self, cond_true, Int.toNat_natCast, e2, hg, wrapS (show i < 9223372036854775807 by omega)]
    have e3 : List.append acc (rls (a.getD i [])) = acc ++ rls (a.getD i []) := rfl
    rw [e3, together_loop hn k (i + 1) (acc ++ rls (a.getD i [])) (by omega) (by simp only [flatL, List.length_append]; omega)]
    simp [flatL]
theorem together_ok {a : Rows} (hn : a.length < 9223372036854775807) (hb : (flatL a).length * 24 ≤ 70368744177664) : callI tE f_impl_together [.sl a] = some [.sl (flatL a)] := by
  rw [c_impl_together]
  have := together_loop hn a.length 0 [] (by omega) (by simpa using hb)
  simpa using this
def win (n a b : Int) : Bool := leI a n && leI n b
def sendOk (P : Rows) : Bool := P.all (fun r => areV (rls r)) && win P.length 1 3
theorem SmallSS.at {a : Rows} (h : SmallSS a) {i : Nat} (hi : i < a.length) : ∃ l, a.getD i [] = [.sl l] ∧ rls (a.getD i []) = l ∧ l.length < 9223372036854775807 := by
  obtain ⟨l, h1, h2, h3⟩ := h.2 _ (getD_mem (d := []) hi)
  exact ⟨l, h1, by rw [h1]; rfl, h3⟩
theorem MedSS.at {a : Rows} (h : MedSS a) {i : Nat} (hi : i < a.length) : (rls (a.getD i [])).length ≤ 1048576 := by
  obtain ⟨l, h1, h2, h3⟩ := h.2 _ (getD_mem (d := []) hi)
  rw [h1]
  exact h3
theorem senders_ok {P : Rows} (hP : SmallSS P) : callI tE f_impl_senders [.sl P] = some [.bool (sendOk P)] := by
  rw [c_impl_senders]
  have := all_loop0 (L := L_impl_senders_0 P P P.length) (n := P.length) (p := fun i => areV (rls (P.getD i []))) (no := some [.bool false]) (yes := some [.bool (win P.length 1 3)]) (fun i hi => by
    obtain ⟨l, e1, e2, e3⟩ := hP.at hi
    have hi' : i < 9223372036854775807 := Nat.lt_trans hi hP.1
    rw [L_impl_senders_0_eq]
    simp only [lt_t hi, ge0, Bool.and_self, cond_true, Int.toNat_natCast, e1, List.headD_cons, rows_sl, iAreValid_ok e3, bind_some', b_bool, bif_not, wrapS hi']
    rfl) (by
    rw [L_impl_senders_0_eq, lt_f (Nat.le_refl _), cond_false]
    simp only [within_ok, bind_some', List.headD_cons, b_bool, win])
  refine this.trans ?_
  rw [range_all P [] (fun r => areV (rls r))]
  unfold sendOk
  cases P.all (fun r => areV (rls r)) <;> rfl
def qOk (n cap : Int) (Q R : Rows) (i : Nat) : Bool := !(ltI cap (rls (Q.getD i [])).length) && (rls (Q.getD i []) ++ rls (R.getD i [])).all (fun r => rOk r && eqI (rRecv r n) i)
def exOk (P Q R : Rows) (cap : Int) : Bool := sendOk P && (win Q.length 1 3 && (eqI R.length Q.length && (win cap 1 9 && (List.range Q.length).all (qOk Q.length cap Q R))))
theorem iLoop1 {P Q R y : Rows} {n cap : Int} {i : Nat} {x0 : Int} (hn : y.length < 9223372036854775807) : L_impl_IsValidExchange_1 x0 n i n i y.length 0 P Q R cap y = bif y.all (fun r => rOk r && eqI (rRecv r n) i) then L_impl_IsValidExchange_0 x0 n n (IntKind.wrap .i64 (i + 1)) P Q R cap else some [.bool false] := by
  have := all_loop0 (L := fun j => L_impl_IsValidExchange_1 x0 n i n i y.length j P Q R cap y) (n := y.length) (p := fun j => rOk (y.getD j []) && eqI (rRecv (y.getD j []) n) i) (no := some [.bool false]) (yes := L_impl_IsValidExchange_0 x0 n n (IntKind.wrap .i64 (i + 1)) P Q R cap) (fun j hj => by
    rw [L_impl_IsValidExchange_1_eq]
    simp only [lt_t hj, ge0, Bool.and_self, cond_true, Int.toNat_natCast, iValidRow_ok, iReceiverFor_ok, bind_some', List.headD_cons, b_bool, n_int, bif_not, wrapS (show j < 9223372036854775807 by omega)]
    show (bif rOk (y.getD j []) then (bif eqI (rRecv (y.getD j []) n) i then _ else _) else _) = _
    cases rOk (y.getD j []) <;> rfl) (by
    rw [L_impl_IsValidExchange_1_eq, lt_f (Nat.le_refl _), cond_false])
  refine this.trans ?_
  rw [range_all y [] (fun r => rOk r && eqI (rRecv r n) i)]
theorem iLoop0 {P Q R : Rows} {cap : Int} (hQ : MedSS Q) (hR : MedSS R) (hl : R.length = Q.length) : L_impl_IsValidExchange_0 0 Q.length Q.length 0 P Q R cap = some [.bool ((List.range Q.length).all (qOk Q.length cap Q R))] := by
  have := all_loop0 (L := fun i => L_impl_IsValidExchange_0 0 Q.length Q.length i P Q R cap) (n := Q.length) (p := qOk Q.length cap Q R) (no := some [.bool false]) (yes := some [.bool true]) (fun i hi => by
    have hiR : i < R.length := by omega
    have q1 := hQ.at hi
    have q2 := hR.at hiR
    have hi' : i < 9223372036854775807 := Nat.lt_trans hi hQ.small.1
    rw [L_impl_IsValidExchange_0_eq]
    have e1 : Dat.rows (List.headD (Q.getD i []) (.int 0)) = rls (Q.getD i []) := rfl
    have e2 : Dat.rows (List.headD (R.getD i []) (.int 0)) = rls (R.getD i []) := rfl
    have e3 : flatL [[.sl (rls (Q.getD i []))], [.sl (rls (R.getD i []))]] = rls (Q.getD i []) ++ rls (R.getD i []) := by simp [flatL, rls, Dat.rows]
    have ht := together_ok (a := [[.sl (rls (Q.getD i []))], [.sl (rls (R.getD i []))]]) (by simp) (by rw [e3, List.length_append]; omega)
    simp only [lt_t hi, lt_t hiR, ge0, Bool.and_self, cond_true, Int.toNat_natCast, e1, e2, ht, e3, bind_some', List.headD_cons, rows_sl]
    rw [iLoop1 (by rw [List.length_append]; omega), wrapS hi']
    unfold qOk
    cases ltI cap (rls (Q.getD i [])).length <;> rfl) (by
    rw [L_impl_IsValidExchange_0_eq, lt_f (Nat.le_refl _), cond_false])
  refine this.trans ?_
  cases (List.range Q.length).all (qOk Q.length cap Q R) <;> rfl
theorem iValidEx_ok {P Q R : Rows} {cap : Int} (hP : MedSS P) (hQ : MedSS Q) (hR : MedSS R) : callI tE f_impl_IsValidExchange [.sl P, .sl Q, .sl R, .int cap] = some [.bool (exOk P Q R cap)] := by
  simp only [c_impl_IsValidExchange, senders_ok hP.small, within_ok, bind_some', List.headD_cons, b_bool, bif_not]
  unfold exOk win
  cases sendOk P
  · rfl
  · cases leI 1 (Q.length : Int) && leI (Q.length : Int) 3
    · rfl
    · cases he : eqI (R.length : Int) (Q.length : Int)
      · rfl
      · cases leI 1 cap && leI cap 9
        · rfl
        · have hl : R.length = Q.length := by simp [eqI] at he; omega
          simp only [cond_true, iLoop0 hQ hR hl, Bool.true_and]
theorem sLoop2 {P Q R y : Rows} {cap : Int} {k : Nat} {x0 : Int} (hn : y.length < 9223372036854775807) : L_spec_IsValidExchange_2 x0 k 0 P Q R cap y = bif y.all (fun r => rOk r && eqI (rRecv r Q.length) k) then L_spec_IsValidExchange_1 x0 (IntKind.wrap .i64 (k + 1)) P Q R cap else some [.bool false] := by
  have := all_loop0 (L := fun j => L_spec_IsValidExchange_2 x0 k j P Q R cap y) (n := y.length) (p := fun j => rOk (y.getD j []) && eqI (rRecv (y.getD j []) Q.length) k) (no := some [.bool false]) (yes := L_spec_IsValidExchange_1 x0 (IntKind.wrap .i64 (k + 1)) P Q R cap) (fun j hj => by
    rw [L_spec_IsValidExchange_2_eq]
    simp only [lt_t hj, ge0, Bool.and_self, cond_true, Int.toNat_natCast, sValidRow_ok, sReceiverFor_ok, bind_some', List.headD_cons, b_bool, n_int, bif_not, wrapS (show j < 9223372036854775807 by omega)]
    show (bif rOk (y.getD j []) then (bif eqI (rRecv (y.getD j []) Q.length) k then _ else _) else _) = _
    cases rOk (y.getD j []) <;> rfl) (by
    rw [L_spec_IsValidExchange_2_eq, lt_f (Nat.le_refl _), cond_false])
  refine this.trans ?_
  rw [range_all y [] (fun r => rOk r && eqI (rRecv r Q.length) k)]
theorem sLoop1 {P Q R : Rows} {cap : Int} (hQ : MedSS Q) (hR : MedSS R) (hl : R.length = Q.length) : L_spec_IsValidExchange_1 0 0 P Q R cap = some [.bool ((List.range Q.length).all (qOk Q.length cap Q R))] := by
  have := all_loop0 (L := fun i => L_spec_IsValidExchange_1 0 i P Q R cap) (n := Q.length) (p := qOk Q.length cap Q R) (no := some [.bool false]) (yes := some [.bool true]) (fun i hi => by
    have hiR : i < R.length := by omega
    have q1 := hQ.at hi
    have q2 := hR.at hiR
    have hi' : i < 9223372036854775807 := Nat.lt_trans hi hQ.small.1
    rw [L_spec_IsValidExchange_1_eq]
    have e1 : Dat.rows (List.headD (Q.getD i []) (.int 0)) = rls (Q.getD i []) := rfl
    have e2 : Dat.rows (List.headD (R.getD i []) (.int 0)) = rls (R.getD i []) := rfl
    have g1 : leN ((0 + (rls (Q.getD i [])).length) * 24) 70368744177664 = true := leNT (by omega)
    have g2 : leN (((rls (Q.getD i [])).length + (rls (R.getD i [])).length) * 24) 70368744177664 = true := leNT (by omega)
    have e3 : List.append (rls (Q.getD i [])) (rls (R.getD i [])) = rls (Q.getD i []) ++ rls (R.getD i []) := rfl
    simp only [lt_t hi, lt_t hiR, ge0, Bool.and_self, cond_true, Int.toNat_natCast, e1, e2, g1, g2, e3]
    rw [sLoop2 (by rw [List.length_append]; omega), wrapS hi']
    unfold qOk
    cases ltI cap (rls (Q.getD i [])).length <;> rfl) (by
    rw [L_spec_IsValidExchange_1_eq, lt_f (Nat.le_refl _), cond_false])
  refine this.trans ?_
  cases (List.range Q.length).all (qOk Q.length cap Q R) <;> rfl
theorem sLoop0 {P Q R : Rows} {cap : Int} (hP : SmallSS P) : L_spec_IsValidExchange_0 0 0 P Q R cap = bif P.all (fun r => areV (rls r)) then L_spec_IsValidExchange_1 0 0 P Q R cap else some [.bool false] := by
  have := all_loop0 (L := fun i => L_spec_IsValidExchange_0 0 i P Q R cap) (n := P.length) (p := fun i => areV (rls (P.getD i []))) (no := some [.bool false]) (yes := L_spec_IsValidExchange_1 0 0 P Q R cap) (fun i hi => by
    obtain ⟨l, e1, e2, e3⟩ := hP.at hi
    have hi' : i < 9223372036854775807 := Nat.lt_trans hi hP.1
    rw [L_spec_IsValidExchange_0_eq]
    simp only [lt_t hi, ge0, Bool.and_self, cond_true, Int.toNat_natCast, e1, List.headD_cons, rows_sl, sAreValid_ok e3, bind_some', b_bool, bif_not, wrapS hi']
    rfl) (by
    rw [L_spec_IsValidExchange_0_eq, lt_f (Nat.le_refl _), cond_false])
  refine this.trans ?_
  rw [range_all P [] (fun r => areV (rls r))]
theorem sValidEx_ok {P Q R : Rows} {cap : Int} (hP : MedSS P) (hQ : MedSS Q) (hR : MedSS R) : callI tE f_spec_IsValidExchange [.sl P, .sl Q, .sl R, .int cap] = some [.bool (exOk P Q R cap)] := by
  simp only [c_spec_IsValidExchange, l1In_ok, bind_some', List.headD_cons, b_bool, bif_not]
  unfold exOk win sendOk win
  cases leI 1 (P.length : Int) && leI (P.length : Int) 3
  · simp
  · cases leI 1 (Q.length : Int) && leI (Q.length : Int) 3
    · simp
    · cases he : eqI (R.length : Int) (Q.length : Int)
      · simp
      · cases leI 1 cap && leI cap 9
        · simp
        · have hl : R.length = Q.length := by simp [eqI] at he; omega
          simp only [cond_true, sLoop0 hP.small, sLoop1 hQ hR hl, Bool.true_and, Bool.and_true]
          cases P.all (fun r => areV (rls r)) <;> rfl
/-! the end -/
def emptyL (l : Rows) : Bool := l.all fun r => !(ltI 0 (rls r).length)
theorem flat_empty (l : Rows) : eqI ((flatL l).length : Int) 0 = emptyL l := by
  induction l with
  | nil => rfl
  | cons r l ih =>
    simp only [flatL, List.flatMap_cons, List.length_append, emptyL, List.all_cons] at ih ⊢
    rw [← ih]
    by_cases h : (rls r).length = 0
    · simp [eqI, ltI, h]
    · have h1 : ltI 0 ((rls r).length : Int) = true := ltT (by omega)
      rw [h1]
      simp only [eqI, Bool.not_true, Bool.false_and, decide_eq_false_iff_not]
      omega
theorem flat_le {l : Rows} {m : Nat} (h : ∀ r ∈ l, (rls r).length ≤ m) : (flatL l).length ≤ l.length * m := by
  induction l with
  | nil => simp [flatL]
  | cons r l ih =>
    have h1 := h r (by simp)
    have h2 := ih (fun r hr => h r (by simp [hr]))
    simp only [flatL, List.flatMap_cons, List.length_append, List.length_cons, Nat.add_mul] at h2 ⊢
    omega
def doneOk (P Q R : Rows) (cap : Int) : Bool := emptyL P && (emptyL Q && exOk P Q R cap)
theorem iDone_ok {P Q R : Rows} {cap : Int} (hP : MedSS P) (hQ : MedSS Q) (hR : MedSS R) : callI tE f_impl_IsExchangeDone [.sl P, .sl Q, .sl R, .int cap] = some [.bool (doneOk P Q R cap)] := by
  simp only [c_impl_IsExchangeDone, iValidEx_ok hP hQ hR, bind_some', List.headD_cons, b_bool]
  unfold doneOk
  cases hx : exOk P Q R cap
  · simp
  · have hx' := hx
    simp only [exOk, sendOk, win, Bool.and_eq_true] at hx'
    obtain ⟨⟨p1, p2, p3⟩, ⟨q1, q2⟩, _, ⟨c1, c2⟩, q3⟩ := hx'
    have hp : (flatL P).length ≤ P.length * 24 := flat_le fun r hr => by
      have := List.all_eq_true.mp p1 r hr
      simp only [areV, Bool.and_eq_true] at this
      have := this.2
      simp [leI] at this
      omega
    have hq : (flatL Q).length ≤ Q.length * 9 := flat_le fun r hr => by
      obtain ⟨i, hi, rfl⟩ := List.getElem_of_mem hr
      have := List.all_eq_true.mp q3 i (by simpa using hi)
      simp only [qOk, Bool.and_eq_true, Bool.not_eq_true'] at this
      have := this.1
      rw [getD_at hi] at this
      simp [ltI] at this
      simp [leI] at c2
      omega
    have b1 : P.length ≤ 3 := by simp [leI] at p3; omega
    have b2 : Q.length ≤ 3 := by simp [leI] at q2; omega
    simp only [cond_true, together_ok (a := P) (by omega) (by omega), together_ok (a := Q) (by omega) (by omega), bind_some', List.headD_cons, rows_sl, flat_empty, Bool.and_true]
    cases emptyL P <;> rfl
theorem sDone1 {P Q R : Rows} {cap : Int} (hP : MedSS P) (hQ : MedSS Q) (hR : MedSS R) : L_spec_IsExchangeDone_1 0 0 P Q R cap = some [.bool (emptyL Q && exOk P Q R cap)] := by
  have := all_loop0 (L := fun i => L_spec_IsExchangeDone_1 0 i P Q R cap) (n := Q.length) (p := fun i => !(ltI 0 (rls (Q.getD i [])).length)) (no := some [.bool false]) (yes := some [.bool (exOk P Q R cap)]) (fun i hi => by
    have hi' : i < 9223372036854775807 := Nat.lt_trans hi hQ.small.1
    rw [L_spec_IsExchangeDone_1_eq]
    simp only [lt_t hi, ge0, Bool.and_self, cond_true, Int.toNat_natCast, bif_not, wrapS hi']
    rfl) (by
    rw [L_spec_IsExchangeDone_1_eq, lt_f (Nat.le_refl _), cond_false]
    simp only [sValidEx_ok hP hQ hR, bind_some', List.headD_cons, b_bool])
  refine this.trans ?_
  rw [range_all Q [] (fun r => !(ltI 0 (rls r).length))]
  unfold emptyL
  cases Q.all (fun r => !(ltI 0 (rls r).length)) <;> rfl
theorem sDone_ok {P Q R : Rows} {cap : Int} (hP : MedSS P) (hQ : MedSS Q) (hR : MedSS R) : callI tE f_spec_IsExchangeDone [.sl P, .sl Q, .sl R, .int cap] = some [.bool (doneOk P Q R cap)] := by
  rw [c_spec_IsExchangeDone]
  have := all_loop0 (L := fun i => L_spec_IsExchangeDone_0 0 i P Q R cap) (n := P.length) (p := fun i => !(ltI 0 (rls (P.getD i [])).length)) (no := some [.bool false]) (yes := some [.bool (emptyL Q && exOk P Q R cap)]) (fun i hi => by
    have hi' : i < 9223372036854775807 := Nat.lt_trans hi hP.small.1
    rw [L_spec_IsExchangeDone_0_eq]
    simp only [lt_t hi, ge0, Bool.and_self, cond_true, Int.toNat_natCast, bif_not, wrapS hi']
    rfl) (by
    rw [L_spec_IsExchangeDone_0_eq, lt_f (Nat.le_refl _), cond_false, sDone1 hP hQ hR])
  refine this.trans ?_
  rw [range_all P [] (fun r => !(ltI 0 (rls r).length))]
  unfold doneOk emptyL
  cases P.all (fun r => !(ltI 0 (rls r).length)) <;> rfl
end Go.Proofs.Ythjkpphjlmmkdaa.Vai
