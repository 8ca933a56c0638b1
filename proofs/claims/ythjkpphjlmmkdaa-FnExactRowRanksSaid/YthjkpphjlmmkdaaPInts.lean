/- Lists of numbers: marks, what is held; sliding sums, ranks; no condition. -/
import Derived.Test.YthjkpphjlmmkdaaPEx
namespace Go.Proofs.Ythjkpphjlmmkdaa.Vai
open Go
def IntsD (l : Rows) : Prop := ∀ r ∈ l, ∃ n, r = [Dat.int n]
theorem eqInt1 {k k' : Int} : eqI k k' = eqD [Dat.int k] [Dat.int k'] := by
  cases h : eqD [Dat.int k] [Dat.int k'] with
  | true => rw [eqD_iff] at h; simp at h; simp [h, eqI]
  | false => rw [eqD_false] at h; simp at h; exact eqF h
theorem eqIntS_ok {a b : Rows} (ha : IntsD a) (hb : IntsD b) (hn : a.length < 9223372036854775807) : callI tE f_laws_eqIntS [.sl a, .sl b] = some [.bool (eqD a b)] := by
  rw [c_laws_eqIntS]
  by_cases hl : a.length = b.length
  · simp only [hl, eqI_self, Bool.not_true, cond_false]
    refine cmp_lists (L := L_laws_eqIntS_0 a b) hl (fun i hi => ?_) ?_
    · rw [L_laws_eqIntS_0_eq]
      have hib : i < b.length := by omega
      obtain ⟨k, e⟩ := ha _ (getD_mem (d := []) hi)
      obtain ⟨k', e'⟩ := hb _ (getD_mem (d := []) hib)
      simp only [lt_t hi, lt_t hib, ge0, Bool.and_self, cond_true, Int.toNat_natCast, e, e', List.headD_cons, n_int, eqInt1, wrapS (show i < 9223372036854775807 by omega), bif_not]
    · rw [L_laws_eqIntS_0_eq]
      simp only [lt_f (Nat.le_refl a.length), cond_false]
  · have : eqI (a.length : Int) (b.length : Int) = false := eqF (by omega)
    simp only [this, Bool.not_false, cond_true, len_ne hl]
theorem wrap1 {n : Int} (h : 0 ≤ n ∧ n < 9223372036854775807) : IntKind.wrap .i64 (n + 1) = n + 1 := wrap64 ⟨by omega, by omega⟩
theorem markRowS_loop : ∀ (k i : Nat) (n : Int) (x : Rows), i + k = x.length → 0 ≤ n → n + 3 * k < 4611686018427387904 → x.length ≤ 1048576 → ∃ m r, L_laws_markRowS_0 n i x = some [.int m, .sl r] ∧ 0 ≤ m
  | 0, i, n, x, h, hn, _, _ => by
    have hi : i = x.length := h
    subst hi
    rw [L_laws_markRowS_0_eq, lt_f (Nat.le_refl _), cond_false]
    exact ⟨n, x, rfl, hn⟩
  | k + 1, i, n, x, h, hn, hb, hl => by
    have hi : i < x.length := by omega
    rw [L_laws_markRowS_0_eq]
    simp only [List.length_set, lt_t hi, ge0, Bool.and_self, cond_true, Int.toNat_natCast, wrapS (show i < 9223372036854775807 by omega)]
    rw [wrap1 (n := n) ⟨hn, by omega⟩, wrap1 (n := n + 1) ⟨by omega, by omega⟩, wrap1 (n := n + 1 + 1) ⟨by omega, by omega⟩]
    exact markRowS_loop k (i + 1) (n + 1 + 1 + 1) _ (by simp; omega) (by omega) (by omega) (by simpa using hl)
theorem markRowS_ok {x : Rows} (hl : x.length ≤ 1048576) : ∃ m r, callI tE f_laws_markRowS [.sl x, .int 1] = some [.int m, .sl r] ∧ 0 ≤ m := by
  rw [c_laws_markRowS]
  exact markRowS_loop x.length 0 1 x (by omega) (by decide) (by omega) hl
theorem markIntS_loop : ∀ (k i : Nat) (n : Int) (x : Rows), i + k = x.length → 0 ≤ n → n + k < 4611686018427387904 → x.length ≤ 1048576 → IntsD x → ∃ r, L_laws_markIntS_0 n i x = some [.int (n + k), .sl r] ∧ r.length = x.length ∧ (∀ j, j < i → r.getD j [] = x.getD j []) ∧ ∀ j, i ≤ j → j < x.length → r.getD j [] = [.int (n + (j - i : Nat))]
  | 0, i, n, x, h, hn, _, _, _ => by
    have hi : i = x.length := h
    subst hi
    rw [L_laws_markIntS_0_eq, lt_f (Nat.le_refl _), cond_false]
    exact ⟨x, by simp, rfl, fun _ _ => rfl, fun j h1 h2 => by omega⟩
  | k + 1, i, n, x, h, hn, hb, hl, hx => by
    have hi : i < x.length := by omega
    obtain ⟨q, e⟩ := hx _ (getD_mem (d := []) hi)
    rw [L_laws_markIntS_0_eq]
    simp only [lt_t hi, ge0, Bool.and_self, cond_true, Int.toNat_natCast, e, List.set_cons_zero, wrapS (show i < 9223372036854775807 by omega)]
    rw [wrap1 (n := n) ⟨hn, by omega⟩]
    obtain ⟨r, r1, r2, r3, r4⟩ := markIntS_loop k (i + 1) (n + 1) (x.set i [.int n]) (by simp; omega) (by omega) (by omega) (by simpa using hl) (fun r hr => by
      rcases List.mem_or_eq_of_mem_set hr with hr | rfl
      · exact hx r hr
      · exact ⟨n, rfl⟩)
    refine ⟨r, by rw [r1]; congr 3; simp; omega, by simpa using r2, fun j hj => ?_, fun j h1 h2 => ?_⟩
    · rw [r3 j (by omega)]
      simp only [List.getD_eq_getElem?_getD]; rw [List.getElem?_set_ne (by omega)]
    · by_cases hj : j = i
      · subst hj
        rw [r3 j (by omega)]
        simp [List.getD_eq_getElem?_getD, h2]
      · rw [r4 j (by omega) (by simpa using h2), show n + 1 + ((j - (i + 1) : Nat) : Int) = n + ((j - i : Nat) : Int) by omega]
theorem heldIntS_loop {r : Rows} (hl : r.length ≤ 1048576) : ∀ (k i : Nat) (n : Int), i + k = r.length → 0 ≤ n → n + k < 4611686018427387904 → (∀ j, i ≤ j → j < r.length → r.getD j [] = [.int (n + (j - i : Nat))]) → L_laws_heldIntS_0 r n i = some [.int (n + k)]
  | 0, i, n, h, hn, _, _ => by
    have hi : i = r.length := h
    subst hi
    rw [L_laws_heldIntS_0_eq, lt_f (Nat.le_refl _), cond_false]
    simp
  | k + 1, i, n, h, hn, hb, hx => by
    have hi : i < r.length := by omega
    have e := hx i (Nat.le_refl i) hi
    rw [Nat.sub_self] at e
    have e' : r.getD i [] = [.int n] := by simpa using e
    rw [L_laws_heldIntS_0_eq]
    simp only [lt_t hi, ge0, Bool.and_self, cond_true, Int.toNat_natCast, e', List.headD_cons, n_int, eqI_self, Bool.not_true, cond_false, wrapS (show i < 9223372036854775807 by omega)]
    rw [wrap1 (n := n) ⟨hn, by omega⟩, heldIntS_loop hl k (i + 1) (n + 1) (by omega) (by omega) (by omega) (fun j h1 h2 => by rw [hx j (by omega) h2, show n + 1 + ((j - (i + 1) : Nat) : Int) = n + ((j - i : Nat) : Int) by omega])]
    congr 3
    omega
theorem markInts_ok {x : Rows} (hl : x.length ≤ 1048576) (hx : IntsD x) : ∃ m r, callI tE f_laws_markIntS [.sl x, .int 1] = some [.int m, .sl r] ∧ 0 ≤ m ∧ callI tE f_laws_heldIntS [.sl r, .int 1] = some [.int m] := by
  rw [c_laws_markIntS]
  obtain ⟨r, r1, r2, _, r4⟩ := markIntS_loop x.length 0 1 x (by omega) (by decide) (by omega) hl hx
  refine ⟨1 + x.length, r, r1, by omega, ?_⟩
  rw [c_laws_heldIntS]
  refine (show _ = _ from heldIntS_loop (by omega) r.length 0 1 (by omega) (by decide) (by omega) (fun j h1 h2 => by rw [r4 j h1 (by omega)])).trans ?_
  rw [r2]

/-! ranks -/
def ord (a b : Int) : Int := if a < b then -1 else if b < a then 1 else 0
theorem order_ok (a b : Int) : callI tE f_impl_order [.int a, .int b] = some [.int (ord a b)] := by
  rw [c_impl_order]
  unfold ord
  by_cases h : a < b
  · rw [ltT h, if_pos h]; rfl
  · rw [ltF (by omega), if_neg h]
    by_cases h2 : b < a
    · rw [ltT h2, if_pos h2]; rfl
    · rw [ltF (by omega), if_neg h2]; rfl
def cmpI (a b c x y z : Int) : Int := if ord a x ≠ 0 then ord a x else if ord b y ≠ 0 then ord b y else ord c z
theorem iCompare_ok (a b c x y z : Int) : callI tE f_impl_CompareRows [.int a, .int b, .int c, .int x, .int y, .int z] = some [.int (cmpI a b c x y z)] := by
  simp only [c_impl_CompareRows, order_ok, bind_some', List.headD_cons, n_int, bif_not, cmpI]
  by_cases h1 : ord a x = 0
  · rw [eqT h1, cond_true, if_neg (by simpa using h1)]
    by_cases h2 : ord b y = 0
    · rw [eqT h2, cond_true, if_neg (by simpa using h2)]
    · rw [eqF h2, cond_false, if_pos h2]
  · rw [eqF h1, cond_false, if_pos h1]
theorem sCompare_step {n : Nat} {p q : Rows} {a x : Int} (hn : n < 3) (h1 : p.length = 3) (h2 : q.length = 3) (e1 : p.getD n [] = [.int a]) (e2 : q.getD n [] = [.int x]) : L_spec_CompareRows_0 n p q = if ord a x ≠ 0 then some [.int (ord a x)] else L_spec_CompareRows_0 (n + 1 : Nat) p q := by
  rw [L_spec_CompareRows_0_eq]
  have g0 : ltI (n : Int) 3 = true := ltT (by omega)
  have g1 : ltI (n : Int) (p.length : Int) = true := ltT (by omega)
  have g2 : ltI (n : Int) (q.length : Int) = true := ltT (by omega)
  simp only [g0, g1, g2, ge0, Bool.and_self, cond_true, Int.toNat_natCast, e1, e2, List.headD_cons, n_int, wrapS (show n < 9223372036854775807 by omega)]
  unfold ord
  by_cases h : a < x
  · rw [ltT h, if_pos h]; simp
  · rw [ltF (by omega), if_neg h]
    by_cases h2 : x < a
    · rw [ltT h2, if_pos h2]; simp
    · rw [ltF (by omega), if_neg h2]; simp
theorem sCompare_ok (a b c x y z : Int) : callI tE f_spec_CompareRows [.int a, .int b, .int c, .int x, .int y, .int z] = some [.int (cmpI a b c x y z)] := by
  rw [c_spec_CompareRows]
  have s0 := sCompare_step (n := 0) (p := [[.int a], [.int b], [.int c]]) (q := [[.int x], [.int y], [.int z]]) (a := a) (x := x) (by decide) rfl rfl rfl rfl
  have s1 := sCompare_step (n := 1) (p := [[.int a], [.int b], [.int c]]) (q := [[.int x], [.int y], [.int z]]) (a := b) (x := y) (by decide) rfl rfl rfl rfl
  have s2 := sCompare_step (n := 2) (p := [[.int a], [.int b], [.int c]]) (q := [[.int x], [.int y], [.int z]]) (a := c) (x := z) (by decide) rfl rfl rfl rfl
  have s3 : L_spec_CompareRows_0 (3 : Nat) [[.int a], [.int b], [.int c]] [[.int x], [.int y], [.int z]] = some [.int 0] := by
    rw [L_spec_CompareRows_0_eq, ltF (by decide), cond_false]
  refine s0.trans ?_
  unfold cmpI
  by_cases h1 : ord a x = 0
  · rw [if_neg (by simpa using h1), if_neg (by simpa using h1)]
    refine s1.trans ?_
    by_cases h2 : ord b y = 0
    · rw [if_neg (by simpa using h2), if_neg (by simpa using h2)]
      refine s2.trans ?_
      by_cases h3 : ord c z = 0
      · rw [if_neg (by simpa using h3), h3]
        exact s3
      · rw [if_pos h3]
    · rw [if_pos h2, if_pos h2]
  · rw [if_pos h1, if_pos h1]
def cmpR (r q : List Dat) : Int := cmpI (rk r) (rv r) (rw' r) (rk q) (rv q) (rw' q)
/-- how many come before -/
def rankN (x : Rows) (q : List Dat) : Nat := (x.filter fun r => decide (cmpR r q < 0)).length
def ranks (x : Rows) : Rows := x.map fun q => [.int (rankN x q)]
theorem count_step (x : Rows) (q : List Dat) {i : Nat} (hi : i < x.length) : rankN (x.take (i + 1)) q = rankN (x.take i) q + if cmpR (x.getD i []) q < 0 then 1 else 0 := by
  unfold rankN
  rw [List.take_succ_eq_append_getElem hi, List.filter_append, List.length_append, getD_at hi]
  by_cases h : cmpR x[i] q < 0
  · simp [h]
  · simp [h]
theorem rankN_le (x : Rows) (q : List Dat) : rankN x q ≤ x.length := List.length_filter_le _ _
theorem sRank_inner {x : Rows} (hl : x.length ≤ 1048576) {i : Nat} (hi : i < x.length) {acc : Rows} : ∀ (k j : Nat), j + k = x.length → L_spec_RowRanks_1 x i (rankN (x.take j) (x.getD i [])) j acc = bif leN ((acc.length + 1) * 8) 70368744177664 then L_spec_RowRanks_0 x (i + 1 : Nat) (acc ++ [[.int (rankN x (x.getD i []))]]) else none
  | 0, j, h => by
    have hj : j = x.length := h
    subst hj
    rw [L_spec_RowRanks_1_eq, lt_f (Nat.le_refl _), cond_false, List.take_length, wrapS (show i < 9223372036854775807 by omega)]
    rfl
  | k + 1, j, h => by
    have hj : j < x.length := by omega
    rw [L_spec_RowRanks_1_eq]
    simp only [lt_t hj, lt_t hi, ge0, Bool.and_self, cond_true, Int.toNat_natCast, sCompare_ok, bind_some', List.headD_cons, n_int, wrapS (show j < 9223372036854775807 by omega)]
    have hle := rankN_le (x.take j) (x.getD i [])
    have hle2 : (x.take j).length ≤ 1048576 := by simp; omega
    rw [wrapS (show rankN (x.take j) (x.getD i []) < 9223372036854775807 by omega)]
    have e : cmpI (Dat.n (List.headD (x.getD j []) (.int 0))) (Dat.n (List.headD (List.tail (x.getD j [])) (.int 0))) (Dat.n (List.headD (List.tail (List.tail (x.getD j []))) (.int 0))) (Dat.n (List.headD (x.getD i []) (.int 0))) (Dat.n (List.headD (List.tail (x.getD i [])) (.int 0))) (Dat.n (List.headD (List.tail (List.tail (x.getD i []))) (.int 0))) = cmpR (x.getD j []) (x.getD i []) := rfl
    rw [e, ← sRank_inner hl hi k (j + 1) (by omega), count_step x _ hj]
    by_cases hc : cmpR (x.getD j []) (x.getD i []) < 0
    · rw [ltT hc, cond_true, if_pos hc]
    · rw [ltF (by omega), cond_false, if_neg hc]; simp only [Nat.add_zero]
theorem map_take {x : Rows} (f : List Dat → List Dat) {i : Nat} (hi : i < x.length) : (x.take (i + 1)).map f = (x.take i).map f ++ [f (x.getD i [])] := by
  rw [List.take_succ_eq_append_getElem hi, List.map_append, getD_at hi]
  rfl
theorem sRank_outer {x : Rows} (hl : x.length ≤ 1048576) : ∀ (k i : Nat), i + k = x.length → L_spec_RowRanks_0 x i ((x.take i).map fun q => [.int (rankN x q)]) = some [.sl (ranks x)]
  | 0, i, h => by
    have hi : i = x.length := h
    subst hi
    rw [L_spec_RowRanks_0_eq, lt_f (Nat.le_refl _), cond_false, List.take_length]
    rfl
  | k + 1, i, h => by
    have hi : i < x.length := by omega
    rw [L_spec_RowRanks_0_eq, lt_t hi, cond_true]
    have := sRank_inner hl hi (acc := (x.take i).map fun q => [.int (rankN x q)]) x.length 0 (by omega)
    refine (show _ = _ from this).trans ?_
    rw [leNT (by simp; omega), cond_true, ← sRank_outer hl k (i + 1) (by omega), map_take _ hi]
theorem sRank_ok {x : Rows} (hl : x.length ≤ 1048576) : callI tE f_spec_RowRanks [.sl x] = some [.sl (ranks x)] := by
  rw [c_spec_RowRanks]
  exact sRank_outer hl x.length 0 (by omega)
theorem iRank_inner {x : Rows} (hl : x.length ≤ 1048576) {i : Nat} (hi : i < x.length) {acc : Rows} : ∀ (k j : Nat), j + k = x.length → L_impl_RowRanks_1 x 0 (rankN (x.take j) (x.getD i [])) x x.length i x x.length j acc (rk (x.getD i [])) (rv (x.getD i [])) (rw' (x.getD i [])) = bif leN ((acc.length + 1) * 8) 70368744177664 then L_impl_RowRanks_0 x x x.length (i + 1 : Nat) (acc ++ [[.int (rankN x (x.getD i []))]]) else none
  | 0, j, h => by
    have hj : j = x.length := h
    subst hj
    rw [L_impl_RowRanks_1_eq, lt_f (Nat.le_refl _), cond_false, List.take_length, wrapS (show i < 9223372036854775807 by omega)]
    rfl
  | k + 1, j, h => by
    have hj : j < x.length := by omega
    rw [L_impl_RowRanks_1_eq]
    simp only [lt_t hj, ge0, Bool.and_self, cond_true, Int.toNat_natCast, iCompare_ok, bind_some', List.headD_cons, n_int, wrapS (show j < 9223372036854775807 by omega)]
    have hle := rankN_le (x.take j) (x.getD i [])
    have hle2 : (x.take j).length ≤ 1048576 := by simp; omega
    rw [wrapS (show rankN (x.take j) (x.getD i []) < 9223372036854775807 by omega)]
    have e : cmpI (Dat.n (List.headD (x.getD j []) (.int 0))) (Dat.n (List.headD (List.tail (x.getD j [])) (.int 0))) (Dat.n (List.headD (List.tail (List.tail (x.getD j []))) (.int 0))) (rk (x.getD i [])) (rv (x.getD i [])) (rw' (x.getD i [])) = cmpR (x.getD j []) (x.getD i []) := rfl
    rw [e, ← iRank_inner hl hi k (j + 1) (by omega), count_step x _ hj]
    by_cases hc : cmpR (x.getD j []) (x.getD i []) < 0
    · rw [ltT hc, cond_true, if_pos hc]
    · rw [ltF (by omega), cond_false, if_neg hc]; simp only [Nat.add_zero]
theorem iRank_outer {x : Rows} (hl : x.length ≤ 1048576) : ∀ (k i : Nat), i + k = x.length → L_impl_RowRanks_0 x x x.length i ((x.take i).map fun q => [.int (rankN x q)]) = some [.sl (ranks x)]
  | 0, i, h => by
    have hi : i = x.length := h
    subst hi
    rw [L_impl_RowRanks_0_eq, lt_f (Nat.le_refl _), cond_false, List.take_length]
    rfl
  | k + 1, i, h => by
    have hi : i < x.length := by omega
    rw [L_impl_RowRanks_0_eq]
    simp only [lt_t hi, ge0, Bool.and_self, cond_true, Int.toNat_natCast]
    have := iRank_inner hl hi (acc := (x.take i).map fun q => [.int (rankN x q)]) x.length 0 (by omega)
    refine (show _ = _ from this).trans ?_
    rw [leNT (by simp; omega), cond_true, ← iRank_outer hl k (i + 1) (by omega), map_take _ hi]
theorem iRank_ok {x : Rows} (hl : x.length ≤ 1048576) : callI tE f_impl_RowRanks [.sl x] = some [.sl (ranks x)] := by
  rw [c_impl_RowRanks]
  exact iRank_outer hl x.length 0 (by omega)
theorem ranks_ints (x : Rows) : IntsD (ranks x) := fun r hr => by
  obtain ⟨q, _, rfl⟩ := List.mem_map.mp hr
  exact ⟨_, rfl⟩

/-! sliding sums -/
theorem wrap_add (a b : Int) : IntKind.wrap .i64 (IntKind.wrap .i64 a + b) = IntKind.wrap .i64 (a + b) := by
  have e : (2 : Int) ^ 64 = 18446744073709551616 := by decide
  have e2 : (2 : Int) ^ (64 - 1) = 9223372036854775808 := by decide
  simp only [IntKind.wrap, IntKind.signed, IntKind.bits, Bool.true_and, decide_eq_true_eq, e, e2]
  split <;> split <;> split <;> omega
theorem wrap_wrap (a : Int) : IntKind.wrap .i64 (IntKind.wrap .i64 a) = IntKind.wrap .i64 a := by
  have := wrap_add a 0
  simpa using this
theorem wrap_sub (a b : Int) : IntKind.wrap .i64 (IntKind.wrap .i64 a - b) = IntKind.wrap .i64 (a - b) := by
  have := wrap_add a (-b)
  simpa [Int.sub_eq_add_neg] using this
/-- the sum of m values, from i backwards -/
def bsum (x : Rows) (i : Nat) : Nat → Int
  | 0 => 0
  | m + 1 => bsum x i m + rv (x.getD (i - m) [])
def slideN (w : Int) (i : Nat) : Nat := min w.toNat (i + 1)
def slides (x : Rows) (w : Int) : Rows := (List.range x.length).map fun i => [.int (IntKind.wrap .i64 (bsum x i (slideN w i)))]
theorem sSlide_inner {x : Rows} (hl : x.length ≤ 1048576) {w : Int} (hw : 0 < w) {i : Nat} (hi : i < x.length) {acc : Rows} : ∀ (k j : Nat), j + k = slideN w i → L_spec_SlidingSums_1 x w i (IntKind.wrap .i64 (bsum x i j)) j acc = bif leN ((acc.length + 1) * 8) 70368744177664 then L_spec_SlidingSums_0 x w (i + 1 : Nat) (acc ++ [[.int (IntKind.wrap .i64 (bsum x i (slideN w i)))]]) else none
  | 0, j, h => by
    have hj : j = slideN w i := h
    rw [L_spec_SlidingSums_1_eq, wrapS (show i < 9223372036854775807 by omega)]
    by_cases h1 : (j : Int) ≤ i
    · have h2 : ltI (j : Int) w = false := ltF (by unfold slideN at hj; omega)
      rw [leT h1, cond_true, h2, cond_false, hj]
      rfl
    · rw [leF (by omega), cond_false, hj]
      rfl
  | k + 1, j, h => by
    have hji : j ≤ i := by unfold slideN at h; omega
    have hjw : (j : Int) < w := by unfold slideN at h; omega
    have e1 : IntKind.wrap .i64 ((i : Int) - (j : Int)) = ((i - j : Nat) : Int) := by rw [wrap64 ⟨by omega, by omega⟩]; omega
    have hij : i - j < x.length := by omega
    rw [L_spec_SlidingSums_1_eq, leT (by omega), cond_true, ltT hjw, cond_true]
    simp only [e1, lt_t hij, ge0, Bool.and_self, cond_true, Int.toNat_natCast, wrap_add, wrapS (show j < 9223372036854775807 by omega)]
    have er : Dat.n (List.headD (List.drop 1 (x.getD (i - j) [])) (.int 0)) = rv (x.getD (i - j) []) := by
      unfold rv; rw [List.drop_one]
    rw [er]
    exact sSlide_inner hl hw hi k (j + 1) (by omega)
theorem range_map {f : Nat → List Dat} (i : Nat) : (List.range (i + 1)).map f = (List.range i).map f ++ [f i] := by
  rw [List.range_succ, List.map_append]; rfl
theorem sSlide_outer {x : Rows} (hl : x.length ≤ 1048576) {w : Int} (hw : 0 < w) : ∀ (k i : Nat), i + k = x.length → L_spec_SlidingSums_0 x w i ((List.range i).map fun i => [.int (IntKind.wrap .i64 (bsum x i (slideN w i)))]) = some [.sl (slides x w)]
  | 0, i, h => by
    have hi : i = x.length := h
    subst hi
    rw [L_spec_SlidingSums_0_eq, lt_f (Nat.le_refl _), cond_false]
    rfl
  | k + 1, i, h => by
    have hi : i < x.length := by omega
    rw [L_spec_SlidingSums_0_eq, lt_t hi, cond_true, ltT hw, cond_true]
    have := sSlide_inner hl hw hi (acc := (List.range i).map fun i => [.int (IntKind.wrap .i64 (bsum x i (slideN w i)))]) (slideN w i) 0 (by omega)
    refine (show _ = _ from this).trans ?_
    rw [leNT (by simp; omega), cond_true, ← sSlide_outer hl hw k (i + 1) (by omega), range_map]
def slidesOr (x : Rows) (w : Int) : Rows := if 0 < w then slides x w else []
theorem sSlide_ok {x : Rows} (hl : x.length ≤ 1048576) (w : Int) : callI tE f_spec_SlidingSums [.sl x, .int w] = some [.sl (slidesOr x w)] := by
  rw [c_spec_SlidingSums]
  unfold slidesOr
  by_cases hw : 0 < w
  · rw [if_pos hw]
    exact sSlide_outer hl hw x.length 0 (by omega)
  · rw [if_neg hw, L_spec_SlidingSums_0_eq, ltF (a := 0) (b := w) (by omega), cond_false]
    cases ltI 0 (x.length : Int) <;> rfl
theorem bsum_succ (x : Rows) (i m : Nat) : bsum x (i + 1) (m + 1) = rv (x.getD (i + 1) []) + bsum x i m := by
  induction m with
  | zero => simp [bsum]
  | succ m ih =>
    rw [bsum, ih, bsum]
    rw [show i + 1 - (m + 1) = i - m by omega]
    omega
theorem bsum_next {x : Rows} {w : Int} (hw : 0 < w) (i : Nat) : bsum x i (slideN w i) = (match i with
    | 0 => 0
    | i + 1 => bsum x i (slideN w i)) + rv (x.getD i []) - (if w ≤ i then rv (x.getD (i - w.toNat) []) else 0) := by
  cases i with
  | zero =>
    have : slideN w 0 = 1 := by unfold slideN; omega
    rw [this, if_neg (by omega)]
    simp [bsum]
  | succ i =>
    by_cases h : w ≤ ((i + 1 : Nat) : Int)
    · have e1 : slideN w (i + 1) = slideN w i := by unfold slideN; omega
      have e2 : ∃ m, slideN w i = m + 1 ∧ m + 1 = w.toNat := ⟨w.toNat - 1, by unfold slideN; omega, by omega⟩
      obtain ⟨m, e2, e3⟩ := e2
      rw [if_pos h, e1, e2, bsum_succ, ← e3]
      simp only
      rw [e2, bsum, show i + 1 - (m + 1) = i - m by omega]
      omega
    · have e1 : slideN w (i + 1) = slideN w i + 1 := by unfold slideN; omega
      rw [if_neg h, e1, bsum_succ]
      simp only
      omega
def prevS (x : Rows) (w : Int) : Nat → Int
  | 0 => 0
  | i + 1 => IntKind.wrap .i64 (bsum x i (slideN w i))
theorem iSlide_loop {x : Rows} (hl : x.length ≤ 1048576) {w : Int} (hw : 0 < w) : ∀ (k i : Nat), i + k = x.length → L_impl_SlidingSums_0 x w (prevS x w i) x x.length i ((List.range i).map fun i => [.int (IntKind.wrap .i64 (bsum x i (slideN w i)))]) = some [.sl (slides x w)]
  | 0, i, h => by
    have hi : i = x.length := h
    subst hi
    rw [L_impl_SlidingSums_0_eq, lt_f (Nat.le_refl _), cond_false]
    rfl
  | k + 1, i, h => by
    have hi : i < x.length := by omega
    have hp : IntKind.wrap .i64 (prevS x w i + (rv (x.getD i []) - (if w ≤ i then rv (x.getD (i - w.toNat) []) else 0))) = IntKind.wrap .i64 (bsum x i (slideN w i)) := by
      rw [bsum_next hw i]
      cases i with
      | zero => simp only [prevS]; congr 1; omega
      | succ i => simp only [prevS]; rw [wrap_add]; congr 1; omega
    have ih := iSlide_loop hl hw k (i + 1) (by omega)
    simp only [prevS] at ih
    rw [range_map] at ih
    rw [L_impl_SlidingSums_0_eq]
    simp only [lt_t hi, ge0, Bool.and_self, cond_true, Int.toNat_natCast, wrapS (show i < 9223372036854775807 by omega)]
    have er : Dat.n (List.headD (List.tail (x.getD i [])) (.int 0)) = rv (x.getD i []) := rfl
    have hg : ∀ (a : Rows), a.length = i → leN (Nat.succ a.length * 8) 70368744177664 = true := fun a ha => leNT (by rw [ha]; omega)
    by_cases h1 : w ≤ (i : Int)
    · have e1 : IntKind.wrap .i64 ((i : Int) - w) = ((i - w.toNat : Nat) : Int) := by rw [wrap64 ⟨by omega, by omega⟩]; omega
      have hij : i - w.toNat < x.length := by omega
      rw [if_pos h1] at hp
      have er2 : Dat.n (List.headD (List.drop 1 (x.getD (i - w.toNat) [])) (.int 0)) = rv (x.getD (i - w.toNat) []) := by
        unfold rv; rw [List.drop_one]
      simp only [leT h1, cond_true, e1, lt_t hij, ge0, Bool.and_self, Int.toNat_natCast, er, er2]
      rw [hg _ (by simp), cond_true, wrap_sub]
      rw [show prevS x w i + rv (x.getD i []) - rv (x.getD (i - w.toNat) []) = prevS x w i + (rv (x.getD i []) - rv (x.getD (i - w.toNat) [])) by omega, hp]
      exact ih
    · rw [if_neg h1] at hp
      simp only [leF (show (i : Int) < w by omega), cond_false, er]
      rw [hg _ (by simp), cond_true]
      rw [show prevS x w i + rv (x.getD i []) = prevS x w i + (rv (x.getD i []) - 0) by omega, hp]
      exact ih
theorem iSlide_ok {x : Rows} (hl : x.length ≤ 1048576) (w : Int) : callI tE f_impl_SlidingSums [.sl x, .int w] = some [.sl (slidesOr x w)] := by
  rw [c_impl_SlidingSums]
  unfold slidesOr
  by_cases hw : 0 < w
  · rw [if_pos hw, ltF (by omega), cond_false]
    exact iSlide_loop hl hw x.length 0 (by omega)
  · rw [if_neg hw, ltT (by omega), cond_true]
theorem slides_ints (x : Rows) (w : Int) : IntsD (slidesOr x w) := fun r hr => by
  unfold slidesOr at hr
  split at hr
  · obtain ⟨q, _, rfl⟩ := List.mem_map.mp hr
    exact ⟨_, rfl⟩
  · cases hr
theorem slides_len (x : Rows) (w : Int) : (slidesOr x w).length ≤ x.length := by
  unfold slidesOr slides
  split <;> simp
end Go.Proofs.Ythjkpphjlmmkdaa.Vai
