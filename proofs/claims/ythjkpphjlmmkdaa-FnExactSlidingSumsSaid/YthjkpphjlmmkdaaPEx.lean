/- Exchanges: sizes, copies, comparisons; no condition. -/
import Derived.Test.YthjkpphjlmmkdaaEqs
import Derived.Test.YthjkpphjlmmkdaaPure0
import Derived.Test.YthjkpphjlmmkdaaPRow
namespace Go.Proofs.Ythjkpphjlmmkdaa.Vai
open Go

theorem eqRow_ok (k v w k' v' w' : Int) : callI tE f_laws_eqRow [.int k, .int v, .int w, .int k', .int v', .int w'] = some [.bool (eqD [Dat.int k, Dat.int v, Dat.int w] [Dat.int k', Dat.int v', Dat.int w'])] := by
  rw [c_laws_eqRow, ← eqRow3]
  cases eqI k k' <;> cases eqI v v' <;> cases eqI w w' <;> rfl


/-- a comparison of two lists, element by element -/
theorem cmp_lists {L : Int → Option (List Dat)} {a b : Rows} (hlen : a.length = b.length) (hs : ∀ i : Nat, i < a.length → L i = bif eqD (a.getD i []) (b.getD i []) then L (i + 1 : Nat) else some [.bool false]) (he : L a.length = some [.bool true]) : L 0 = some [.bool (eqD a b)] := by
  rw [all_loop0 hs he, list_eqD [] hlen]
  cases eqD a b <;> rfl
theorem len_ne {a b : Rows} (h : a.length ≠ b.length) : eqD a b = false := by
  rw [eqD_false]
  intro e
  exact h (by rw [e])

theorem equal_ok {a b : Rows} (ha : RowsD a) (hb : RowsD b) (hn : a.length < 9223372036854775807) : callI tE f_impl_equal [.sl a, .sl b] = some [.bool (eqD a b)] := by
  rw [c_impl_equal]
  by_cases hl : a.length = b.length
  · simp only [hl, eqI_self, Bool.not_true, cond_false]
    rw [← hl]
    refine cmp_lists (L := L_impl_equal_0 a b a.length) hl (fun i hi => ?_) ?_
    · rw [L_impl_equal_0_eq]
      have hib : i < b.length := by omega
      obtain ⟨k, v, w, e, -⟩ := ha _ (getD_mem (d := []) hi)
      obtain ⟨k', v', w', e', -⟩ := hb _ (getD_mem (d := []) hib)
      simp only [lt_t hi, lt_t hib, ge0, Bool.and_self, cond_true, Int.toNat_natCast, e, e', List.headD_cons, List.tail_cons, n_int, Bool.and_true, eqRow3, wrapS (show i < 9223372036854775807 by omega), bif_not]
    · rw [L_impl_equal_0_eq]
      simp only [lt_f (Nat.le_refl a.length), cond_false]
  · have : eqI (a.length : Int) (b.length : Int) = false := eqF (by omega)
    simp only [this, Bool.not_false, cond_true, len_ne hl]
theorem l6Rows_ok {a b : Rows} (ha : RowsD a) (hb : RowsD b) (hn : a.length < 9223372036854775807) : callI tE f_spec_l6Rows [.sl a, .sl b] = some [.bool (eqD a b)] := by
  rw [c_spec_l6Rows]
  by_cases hl : a.length = b.length
  · simp only [hl, eqI_self, Bool.not_true, cond_false]
    refine cmp_lists (L := L_spec_l6Rows_0 a b) hl (fun i hi => ?_) ?_
    · rw [L_spec_l6Rows_0_eq]
      have hib : i < b.length := by omega
      obtain ⟨k, v, w, e, -⟩ := ha _ (getD_mem (d := []) hi)
      obtain ⟨k', v', w', e', -⟩ := hb _ (getD_mem (d := []) hib)
      simp only [lt_t hi, lt_t hib, ge0, Bool.and_self, cond_true, Int.toNat_natCast, e, e', List.headD_cons, List.tail_cons, n_int, Bool.and_true, eqRow3, wrapS (show i < 9223372036854775807 by omega), bif_not]
    · rw [L_spec_l6Rows_0_eq]
      simp only [lt_f (Nat.le_refl a.length), cond_false]
  · have : eqI (a.length : Int) (b.length : Int) = false := eqF (by omega)
    simp only [this, Bool.not_false, cond_true, len_ne hl]
theorem eqRowS_ok {a b : Rows} (ha : RowsD a) (hb : RowsD b) (hn : a.length < 9223372036854775807) : callI tE f_laws_eqRowS [.sl a, .sl b] = some [.bool (eqD a b)] := by
  rw [c_laws_eqRowS]
  by_cases hl : a.length = b.length
  · simp only [hl, eqI_self, Bool.not_true, cond_false]
    refine cmp_lists (L := L_laws_eqRowS_0 a b) hl (fun i hi => ?_) ?_
    · rw [L_laws_eqRowS_0_eq]
      have hib : i < b.length := by omega
      obtain ⟨k, v, w, e, -⟩ := ha _ (getD_mem (d := []) hi)
      obtain ⟨k', v', w', e', -⟩ := hb _ (getD_mem (d := []) hib)
      simp only [lt_t hi, lt_t hib, ge0, Bool.and_self, cond_true, Int.toNat_natCast, e, e', List.headD_cons, List.tail_cons, n_int, eqRow_ok, bind_some', b_bool, wrapS (show i < 9223372036854775807 by omega), bif_not]
    · rw [L_laws_eqRowS_0_eq]
      simp only [lt_f (Nat.le_refl a.length), cond_false]
  · have : eqI (a.length : Int) (b.length : Int) = false := eqF (by omega)
    simp only [this, Bool.not_false, cond_true, len_ne hl]

/-- lists of lists that are not too long -/
def SmallSS (a : Rows) : Prop := a.length < 9223372036854775807 ∧ ∀ r ∈ a, ∃ l, r = [.sl l] ∧ RowsD l ∧ l.length < 9223372036854775807
theorem equalLists_ok {a b : Rows} (ha : SmallSS a) (hb : SmallSS b) : callI tE f_impl_equalLists [.sl a, .sl b] = some [.bool (eqD a b)] := by
  rw [c_impl_equalLists]
  by_cases hl : a.length = b.length
  · simp only [hl, eqI_self, Bool.not_true, cond_false]
    rw [← hl]
    refine cmp_lists (L := L_impl_equalLists_0 a b a.length) hl (fun i hi => ?_) ?_
    · rw [L_impl_equalLists_0_eq]
      have hib : i < b.length := by omega
      obtain ⟨x, e, hx, hn⟩ := ha.2 _ (getD_mem (d := []) hi)
      obtain ⟨y, e', hy, -⟩ := hb.2 _ (getD_mem (d := []) hib)
      have hi' : i < 9223372036854775807 := Nat.lt_trans hi ha.1
      simp only [lt_t hi, lt_t hib, ge0, Bool.and_self, cond_true, Int.toNat_natCast, e, e', List.headD_cons, rows_sl, equal_ok hx hy hn, bind_some', b_bool, wrapS hi', bif_not, eqSl]
    · rw [L_impl_equalLists_0_eq]
      simp only [lt_f (Nat.le_refl a.length), cond_false]
  · have : eqI (a.length : Int) (b.length : Int) = false := eqF (by omega)
    simp only [this, Bool.not_false, cond_true, len_ne hl]
theorem l26Same_ok {a b : Rows} (ha : SmallSS a) (hb : SmallSS b) : callI tE f_spec_l26Same [.sl a, .sl b] = some [.bool (eqD a b)] := by
  rw [c_spec_l26Same]
  by_cases hl : a.length = b.length
  · simp only [hl, eqI_self, Bool.not_true, cond_false]
    refine cmp_lists (L := L_spec_l26Same_0 a b) hl (fun i hi => ?_) ?_
    · rw [L_spec_l26Same_0_eq]
      have hib : i < b.length := by omega
      obtain ⟨x, e, hx, hn⟩ := ha.2 _ (getD_mem (d := []) hi)
      obtain ⟨y, e', hy, -⟩ := hb.2 _ (getD_mem (d := []) hib)
      have hi' : i < 9223372036854775807 := Nat.lt_trans hi ha.1
      simp only [lt_t hi, lt_t hib, ge0, Bool.and_self, cond_true, Int.toNat_natCast, e, e', List.headD_cons, rows_sl, l6Rows_ok hx hy hn, bind_some', b_bool, wrapS hi', bif_not, eqSl]
    · rw [L_spec_l26Same_0_eq]
      simp only [lt_f (Nat.le_refl a.length), cond_false]
  · have : eqI (a.length : Int) (b.length : Int) = false := eqF (by omega)
    simp only [this, Bool.not_false, cond_true, len_ne hl]
theorem eqRowSS_ok {a b : Rows} (ha : SmallSS a) (hb : SmallSS b) : callI tE f_laws_eqRowSS [.sl a, .sl b] = some [.bool (eqD a b)] := by
  rw [c_laws_eqRowSS]
  by_cases hl : a.length = b.length
  · simp only [hl, eqI_self, Bool.not_true, cond_false]
    refine cmp_lists (L := L_laws_eqRowSS_0 a b) hl (fun i hi => ?_) ?_
    · rw [L_laws_eqRowSS_0_eq]
      have hib : i < b.length := by omega
      obtain ⟨x, e, hx, hn⟩ := ha.2 _ (getD_mem (d := []) hi)
      obtain ⟨y, e', hy, -⟩ := hb.2 _ (getD_mem (d := []) hib)
      have hi' : i < 9223372036854775807 := Nat.lt_trans hi ha.1
      simp only [lt_t hi, lt_t hib, ge0, Bool.and_self, cond_true, Int.toNat_natCast, e, e', List.headD_cons, rows_sl, eqRowS_ok hx hy hn, bind_some', b_bool, wrapS hi', bif_not, eqSl]
    · rw [L_laws_eqRowSS_0_eq]
      simp only [lt_f (Nat.le_refl a.length), cond_false]
  · have : eqI (a.length : Int) (b.length : Int) = false := eqF (by omega)
    simp only [this, Bool.not_false, cond_true, len_ne hl]

/-! copies -/
theorem toRowS_loop {a : Rows} (ha : RowsD a) (hn : a.length < 9223372036854775807) : ∀ (k i : Nat) (x : Rows), i + k = a.length → x.length = a.length → (∀ r ∈ x, r.length = 3) → L_laws_toRowS_0 a i x = some [.sl (x.take i ++ a.drop i)]
  | 0, i, x, h, hx, _ => by
    have hi : i = a.length := h
    subst hi
    rw [L_laws_toRowS_0_eq, lt_f (Nat.le_refl _), cond_false]
    simp [← hx]
  | k + 1, i, x, h, hx, h3 => by
    have hi : i < a.length := by omega
    have hix : i < x.length := by omega
    obtain ⟨p, v, w, e, -⟩ := ha _ (getD_mem (d := []) hi)
    have hl := h3 _ (getD_mem (d := []) hix)
    have hrow : ∀ r : List Dat, r.length = 3 → ((r.set 0 (.int p)).set 1 (.int v)).set 2 (.int w) = [.int p, .int v, .int w] := fun r hr => by
      match r, hr with
      | [_, _, _], _ => rfl
    rw [L_laws_toRowS_0_eq]
    simp only [lt_t hi, lt_t hix, ge0, Bool.and_self, cond_true, Int.toNat_natCast, e, List.headD_cons, List.tail_cons, n_int, c_laws_toRow, bind_some', wrapS (show i < 9223372036854775807 by omega), hrow _ hl]
    rw [toRowS_loop ha hn k (i + 1) _ (by omega) (by simpa using hx) (fun r hr => by
      rcases List.mem_or_eq_of_mem_set hr with hr | rfl
      · exact h3 r hr
      · rfl)]
    rw [take_set_drop hix hx (by rw [List.getElem?_eq_getElem hi, ← e, getD_at hi])]
theorem toRowS_ok {a : Rows} (ha : RowsD a) (hn : a.length ≤ 1048576) : callI tE f_laws_toRowS [.sl a] = some [.sl a] := by
  rw [c_laws_toRowS]
  have h1 : leN (a.length * 24) 70368744177664 = true := leNT (by omega)
  simp only [ge0, eqI_self, Int.toNat_natCast, h1, Bool.and_self, cond_true]
  have := toRowS_loop ha (by omega) a.length 0 (List.replicate a.length [.int 0, .int 0, .int 0]) (by omega) (by simp) (fun r hr => by rw [List.eq_of_mem_replicate hr]; rfl)
  simpa using this
def MedSS (a : Rows) : Prop := a.length ≤ 1048576 ∧ ∀ r ∈ a, ∃ l, r = [.sl l] ∧ RowsD l ∧ l.length ≤ 1048576
theorem MedSS.small {a : Rows} (h : MedSS a) : SmallSS a := ⟨by have := h.1; omega, fun r hr => by
  obtain ⟨l, h1, h2, h3⟩ := h.2 r hr
  exact ⟨l, h1, h2, by omega⟩⟩
theorem toRowSS_loop {a : Rows} (ha : MedSS a) : ∀ (k i : Nat) (x : Rows), i + k = a.length → x.length = a.length → (∀ r ∈ x, r.length = 1) → L_laws_toRowSS_0 a i x = some [.sl (x.take i ++ a.drop i)]
  | 0, i, x, h, hx, _ => by
    have hi : i = a.length := h
    subst hi
    rw [L_laws_toRowSS_0_eq, lt_f (Nat.le_refl _), cond_false]
    simp [← hx]
  | k + 1, i, x, h, hx, h3 => by
    have hi : i < a.length := by omega
    have hix : i < x.length := by omega
    obtain ⟨l, e, hd, hn⟩ := ha.2 _ (getD_mem (d := []) hi)
    have hl := h3 _ (getD_mem (d := []) hix)
    have hrow : ∀ r : List Dat, r.length = 1 → r.set 0 (.sl l) = [.sl l] := fun r hr => by
      match r, hr with
      | [_], _ => rfl
    have hi' : i < 9223372036854775807 := Nat.lt_of_lt_of_le hi (by have := ha.1; omega)
    rw [L_laws_toRowSS_0_eq]
    simp only [lt_t hi, lt_t hix, ge0, Bool.and_self, cond_true, Int.toNat_natCast, e, List.headD_cons, rows_sl, toRowS_ok hd hn, bind_some', wrapS hi', hrow _ hl]
    rw [toRowSS_loop ha k (i + 1) _ (by omega) (by simpa using hx) (fun r hr => by
      rcases List.mem_or_eq_of_mem_set hr with hr | rfl
      · exact h3 r hr
      · rfl)]
    rw [take_set_drop hix hx (by rw [List.getElem?_eq_getElem hi, ← e, getD_at hi])]
theorem toRowSS_ok {a : Rows} (ha : MedSS a) : callI tE f_laws_toRowSS [.sl a] = some [.sl a] := by
  rw [c_laws_toRowSS]
  have h0 := ha.1
  have h1 : leN (a.length * 24) 70368744177664 = true := leNT (by omega)
  simp only [ge0, eqI_self, Int.toNat_natCast, h1, Bool.and_self, cond_true]
  have := toRowSS_loop ha a.length 0 (List.replicate a.length [.sl []]) (by omega) (by simp) (fun r hr => by rw [List.eq_of_mem_replicate hr]; rfl)
  simpa using this
theorem toExchange_ok {a b c : Rows} {n : Int} (ha : MedSS a) (hb : MedSS b) (hc : MedSS c) : callI tE f_laws_toExchange [.sl a, .sl b, .sl c, .int n] = some [.sl a, .sl b, .sl c, .int n] := by
  simp only [c_laws_toExchange, toRowSS_ok ha, toRowSS_ok hb, toRowSS_ok hc, bind_some', List.headD_cons, rows_sl]

/-! sizes -/
theorem szRowS_ok {a : Rows} {n : Int} (hn : 0 ≤ n ∧ n ≤ 1048576) (ha : a.length ≤ reachBytes) : ∃ m, callI tE f_laws_szRowS [.sl a, .int n] = some [.int m] ∧ (m < 0 ∨ (0 ≤ m ∧ m ≤ n ∧ m + a.length = n)) := by
  have hw : IntKind.wrap .i64 (n - (a.length : Int)) = n - a.length := wrap64 (by unfold reachBytes at ha; constructor <;> omega)
  rw [c_laws_szRowS, hw]
  by_cases h : n - (a.length : Int) < 0
  · exact ⟨-1, by rw [ltT h, cond_true], .inl (by omega)⟩
  · exact ⟨n - a.length, by rw [ltF (by omega), cond_false], .inr (by omega)⟩
theorem szRowSS_loop {a : Rows} (ha : RowsSS a) (hl : a.length ≤ 1048576) (hr : ∀ r ∈ a, ∀ l, r = [.sl l] → l.length ≤ reachBytes) : ∀ (k i : Nat) (n : Int), i + k = a.length → 0 ≤ n ∧ n ≤ 1048576 →
    ∃ m, L_laws_szRowSS_0 a n i = some [.int m] ∧ (m < 0 ∨ (0 ≤ m ∧ m ≤ n ∧ ∀ j, i ≤ j → j < a.length → ∃ l, a.getD j [] = [.sl l] ∧ l.length ≤ 1048576))
  | 0, i, n, h, hn => by
    have hi : i = a.length := h
    subst hi
    rw [L_laws_szRowSS_0_eq, lt_f (Nat.le_refl _), cond_false]
    exact ⟨n, rfl, .inr ⟨hn.1, Int.le_refl _, fun j h1 h2 => by omega⟩⟩
  | k + 1, i, n, h, hn => by
    have hi : i < a.length := by omega
    obtain ⟨l, e, hd⟩ := ha _ (getD_mem (d := []) hi)
    obtain ⟨m, hm, hc⟩ := szRowS_ok (a := l) hn (hr _ (getD_mem (d := []) hi) l e)
    rw [L_laws_szRowSS_0_eq]
    simp only [lt_t hi, ge0, Bool.and_self, cond_true, Int.toNat_natCast, e, List.headD_cons, rows_sl, hm, bind_some', n_int, wrapS (show i < 9223372036854775807 by omega)]
    rcases hc with hc | ⟨h1, h2, h3⟩
    · exact ⟨-1, by rw [ltT hc, cond_true], .inl (by omega)⟩
    · rw [ltF h1, cond_false]
      obtain ⟨m', q1, q2⟩ := szRowSS_loop ha hl hr k (i + 1) m (by omega) ⟨h1, by omega⟩
      refine ⟨m', q1, q2.imp id fun ⟨q3, q4, q5⟩ => ⟨q3, by omega, fun j hj hj2 => ?_⟩⟩
      by_cases hji : j = i
      · subst hji
        exact ⟨l, e, by omega⟩
      · exact q5 j (by omega) hj2
theorem szRowSS_ok {a : Rows} {n : Int} (ha : RowsSS a) (hl : a.length ≤ reachBytes) (hr : ∀ r ∈ a, ∀ l, r = [.sl l] → l.length ≤ reachBytes) (hn : 0 ≤ n ∧ n ≤ 1048576) :
    ∃ m, callI tE f_laws_szRowSS [.sl a, .int n] = some [.int m] ∧ (m < 0 ∨ (0 ≤ m ∧ m ≤ n ∧ MedSS a)) := by
  have hw : IntKind.wrap .i64 (n - (a.length : Int)) = n - a.length := wrap64 (by unfold reachBytes at hl; constructor <;> omega)
  rw [c_laws_szRowSS, hw]
  by_cases h : n - (a.length : Int) < 0
  · exact ⟨-1, by rw [ltT h, cond_true], .inl (by omega)⟩
  · rw [ltF (by omega), cond_false]
    obtain ⟨m, q1, q2⟩ := szRowSS_loop ha (by omega) hr a.length 0 (n - a.length) (by omega) ⟨by omega, by omega⟩
    refine ⟨m, q1, q2.imp id fun ⟨q3, q4, q5⟩ => ⟨q3, by omega, by omega, fun r hr' => ?_⟩⟩
    obtain ⟨j, hj, rfl⟩ := List.getElem_of_mem hr'
    obtain ⟨l, e1, e2⟩ := q5 j (Nat.zero_le _) hj
    rw [getD_at hj] at e1
    obtain ⟨l', e3, hd⟩ := ha _ hr'
    rw [e1] at e3
    cases e3
    exact ⟨l, e1, hd, e2⟩
/-- an exchange as an argument -/
structure ExArg (x y z : Rows) : Prop where
  a : RowsSS x
  b : RowsSS y
  c : RowsSS z
  la : x.length ≤ reachBytes ∧ y.length ≤ reachBytes ∧ z.length ≤ reachBytes
  ra : ∀ r, (r ∈ x ∨ r ∈ y ∨ r ∈ z) → ∀ l, r = [Dat.sl l] → l.length ≤ reachBytes
theorem szExchange_ok {a b c : Rows} {q n : Int} (h : ExArg a b c) (hn : 0 ≤ n ∧ n ≤ 1048576) : ∃ m, callI tE f_laws_szExchange [.sl a, .sl b, .sl c, .int q, .int n] = some [.int m] ∧ (m < 0 ∨ (0 ≤ m ∧ m ≤ n ∧ MedSS a ∧ MedSS b ∧ MedSS c)) := by
  rw [c_laws_szExchange]
  obtain ⟨m, e1, h1⟩ := szRowSS_ok (n := n) h.a h.la.1 (fun r hr => h.ra r (.inl hr)) hn
  simp only [e1, bind_some', List.headD_cons, n_int]
  rcases h1 with h1 | ⟨h1, h2, h3⟩
  · exact ⟨-1, by rw [ltT h1, cond_true], .inl (by omega)⟩
  rw [ltF h1, cond_false]
  obtain ⟨m2, e2, g1⟩ := szRowSS_ok (n := m) h.b h.la.2.1 (fun r hr => h.ra r (.inr (.inl hr))) ⟨h1, by omega⟩
  simp only [e2, bind_some', List.headD_cons, n_int]
  rcases g1 with g1 | ⟨g1, g2, g3⟩
  · exact ⟨-1, by rw [ltT g1, cond_true], .inl (by omega)⟩
  rw [ltF g1, cond_false]
  obtain ⟨m3, e3, k1⟩ := szRowSS_ok (n := m2) h.c h.la.2.2 (fun r hr => h.ra r (.inr (.inr hr))) ⟨g1, by omega⟩
  simp only [e3, bind_some', List.headD_cons, n_int]
  rcases k1 with k1 | ⟨k1, k2, k3⟩
  · exact ⟨-1, by rw [ltT k1, cond_true], .inl (by omega)⟩
  rw [ltF k1, cond_false]
  exact ⟨m3, rfl, .inr ⟨k1, by omega, h3, g3, k3⟩⟩
/-! both sides -/
theorem iEqualEx_ok {a b c a' b' c' : Rows} {n n' : Int} (ha : SmallSS a) (hb : SmallSS b) (hc : SmallSS c) (ha' : SmallSS a') (hb' : SmallSS b') (hc' : SmallSS c') :
    callI tE f_impl_EqualExchanges [.sl a, .sl b, .sl c, .int n, .sl a', .sl b', .sl c', .int n'] = some [.bool (eqI n n' && (eqD a a' && (eqD b b' && eqD c c')))] := by
  simp only [c_impl_EqualExchanges, equalLists_ok ha ha', equalLists_ok hb hb', equalLists_ok hc hc', bind_some', List.headD_cons, b_bool]
  cases eqI n n' <;> cases eqD a a' <;> cases eqD b b' <;> rfl
theorem sEqualEx_ok {a b c a' b' c' : Rows} {n n' : Int} (ha : SmallSS a) (hb : SmallSS b) (hc : SmallSS c) (ha' : SmallSS a') (hb' : SmallSS b') (hc' : SmallSS c') :
    callI tE f_spec_EqualExchanges [.sl a, .sl b, .sl c, .int n, .sl a', .sl b', .sl c', .int n'] = some [.bool (eqI n n' && (eqD a a' && (eqD b b' && eqD c c')))] := by
  simp only [c_spec_EqualExchanges, l26Same_ok ha ha', l26Same_ok hb hb', l26Same_ok hc hc', bind_some', List.headD_cons, b_bool]
  cases eqI n n' <;> cases eqD a a' <;> cases eqD b b' <;> rfl
theorem eqExchange_self {a b c : Rows} {n : Int} (ha : SmallSS a) (hb : SmallSS b) (hc : SmallSS c) : callI tE f_laws_eqExchange [.sl a, .sl b, .sl c, .int n, .sl a, .sl b, .sl c, .int n] = some [.bool true] := by
  simp only [c_laws_eqExchange, eqRowSS_ok ha ha, eqRowSS_ok hb hb, eqRowSS_ok hc hc, bind_some', List.headD_cons, b_bool, eqD_self, Bool.not_true, cond_false, eqI_self]
theorem exArg {E : Env} {d1 d2 d3 : Dat} {e e' : TypeId} {b b' : Nat} {g g' : Bool} {fs fs' : List (Nat × TypeId)} (ht : E.T e = some ⟨[.sl e'], b', g', fs'⟩) (ht' : E.T e' = some ⟨[.int .i64, .int .i64, .int .i64], b, g, fs⟩) (hb : 0 < b) (hb' : 0 < b')
    (h1 : OkD E (.sl e) d1) (h2 : OkD E (.sl e) d2) (h3 : OkD E (.sl e) d3) : ∃ x y z, d1 = .sl x ∧ d2 = .sl y ∧ d3 = .sl z ∧ ExArg x y z := by
  have key : ∀ d, OkD E (.sl e) d → ∃ l, d = .sl l ∧ RowsSS l ∧ l.length ≤ reachBytes ∧ ∀ r ∈ l, ∀ m, r = [.sl m] → m.length ≤ reachBytes := fun d h => by
    obtain ⟨l, rfl, q1, q2⟩ := h.sl' ht
    obtain ⟨_, e1, q3, q4⟩ := rowsSS_of h ht ht'
    cases e1
    refine ⟨l, rfl, q4, Nat.le_trans (Nat.le_mul_of_pos_right _ hb') q3, fun r hr m hm => ?_⟩
    have := q2 r hr
    subst hm
    obtain ⟨_, _, e2, i0, _⟩ := this.inv
    cases e2
    obtain ⟨_, e3, q5, _⟩ := rowsD_of i0 ht'
    cases e3
    exact Nat.le_trans (Nat.le_mul_of_pos_right _ hb) q5
  obtain ⟨x, rfl, x1, x2, x3⟩ := key _ h1
  obtain ⟨y, rfl, y1, y2, y3⟩ := key _ h2
  obtain ⟨z, rfl, z1, z2, z3⟩ := key _ h3
  exact ⟨x, y, z, rfl, rfl, rfl, x1, y1, z1, ⟨x2, y2, z2⟩, fun r hr => hr.elim (x3 r) fun hr => hr.elim (y3 r) (z3 r)⟩
end Go.Proofs.Ythjkpphjlmmkdaa.Vai
