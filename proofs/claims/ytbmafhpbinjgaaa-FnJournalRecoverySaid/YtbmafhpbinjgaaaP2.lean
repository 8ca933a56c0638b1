/- Texts of the program and of the reference: numbers, cuts, rows; no condition. -/
import Derived.Test.YtbmafhpbinjgaaaPNum
import Derived.Test.YtbmafhpbinjgaaaPS
import Derived.Test.YtbmafhpbinjgaaaP1
namespace Go.Proofs.Ytbmafhpbinjgaaa.Vai
open Go
set_option linter.unusedSimpArgs false
set_option linter.unusedVariables false
set_option linter.unnecessarySimpa false
set_option maxRecDepth 10000
/-! checksums -/
theorem iChecksum (s : List UInt8) (h : s.length < 4611686018427387904) : callI tE f_impl_ChecksumOf [.str (S s)] = some [.int (chk s : Nat)] := by
  rw [c_impl_ChecksumOf]
  have := zip_loop (l := s) (L := fun (x : Nat) => L_impl_ChecksumOf_0 (S s) (x : Int) (szI (S s))) (F := fun x v => some [Dat.int ((v.foldl chk1 x : Nat) : Int)]) (I := fun x _ _ => x < 65521) (by omega) (fun u c v x e hI => .inl ⟨chk1 x c, by
    subst e
    show L_impl_ChecksumOf_0 _ _ _ _ = _
    rw [L_impl_ChecksumOf_0_eq, lt_S, in_S, by_S, chk_step hI]; rfl, chk1_lt _ _, rfl⟩) (fun x _ => by rw [L_impl_ChecksumOf_0_eq, lt_Se]; rfl) 11 (by decide)
  exact this
theorem sChecksum (s : List UInt8) (h : s.length < 4611686018427387904) : callI tE f_spec_ChecksumOf [.str (S s)] = some [.int (chk s : Nat)] := by
  rw [c_spec_ChecksumOf]
  have := zip_loop (l := s) (L := fun (x : Nat) => L_spec_ChecksumOf_0 (S s) (x : Int)) (F := fun x v => some [Dat.int ((v.foldl chk1 x : Nat) : Int)]) (I := fun x _ _ => x < 65521) (by omega) (fun u c v x e hI => .inl ⟨chk1 x c, by
    subst e
    show L_spec_ChecksumOf_0 _ _ _ = _
    rw [L_spec_ChecksumOf_0_eq, lt_S, in_S, by_S, Int.mul_comm, chk_step hI]; rfl, chk1_lt _ _, rfl⟩) (fun x _ => by rw [L_spec_ChecksumOf_0_eq, lt_Se]; rfl) 11 (by decide)
  exact this
/-! numbers as text: the reference -/
theorem sfmt_loop (neg sgn : Bool) : ∀ (d n : Nat) (s : List UInt8), n < 10 ^ d → n ≤ 9223372036854775808 → (sgn = false → n < 9223372036854775808) → s.length + d ≤ 1000 →
    L_spec_FormatInt_0 (if sgn then -(n : Int) else (n : Int)) (S s) neg = some [.str (S (if neg then 45 :: (digs n ++ s) else digs n ++ s))]
  | d, n, s, h, hd, hp, hs => by
    rw [L_spec_FormatInt_0_eq]
    by_cases h0 : n = 0
    · subst h0
      rw [eqT (by split <;> rfl), digs_0]
      cases neg
      · rfl
      · rw [show fitS (S [45]) (S s) = true from fitS_S (by simp; omega)]
        simp only [Bool.not_true, cond_false, cond_true, S_app]
        rfl
    · have hne : eqI (if sgn then -(n : Int) else (n : Int)) 0 = false := eqF (by split <;> omega)
      cases d with
      | zero => exfalso; simp at h; omega
      | succ d =>
        have ih := sfmt_loop neg sgn d (n / 10) ([dig (n % 10)] ++ s) (by rw [Nat.pow_succ] at h; omega) (by omega) (by omega) (by simp; omega)
        have hm : n % 10 < 10 := Nat.mod_lt _ (by decide)
        have e48 : w64 (48 + ((n % 10 : Nat) : Int)) = 48 + ((n % 10 : Nat) : Int) := w64_id ⟨by omega, by omega⟩
        have hu : strOf [[.int (IntKind.wrap .u8 (48 + ((n % 10 : Nat) : Int)))]] = S [dig (n % 10)] := by
          rw [strOf1, u8_dig (by omega) (by omega), Int.toNat_natCast]
        have hf : fitS (S [dig (n % 10)]) (S s) = true := fitS_S (by simp; omega)
        have hfin : (if neg then 45 :: (digs (n / 10) ++ ([dig (n % 10)] ++ s)) else digs (n / 10) ++ ([dig (n % 10)] ++ s)) = (if neg then 45 :: (digs n ++ s) else digs n ++ s) := by
          rw [digs_s h0]; simp
        rw [hfin] at ih
        rw [hne, Bool.not_false, cond_true]
        cases sgn with
        | false =>
          simp only [Bool.false_eq_true, if_false] at ih ⊢
          have hp' := hp rfl
          rw [tmod10, tdiv10, ltF (by omega), cond_false, e48, hu, hf, cond_true, S_app, w64_id ⟨by omega, by omega⟩]
          exact ih
        | true =>
          simp only [if_true] at ih ⊢
          have t1 : Int.tmod (-(n : Int)) 10 = -((n % 10 : Nat) : Int) := by rw [Int.neg_tmod, tmod10]
          have t2 : Int.tdiv (-(n : Int)) 10 = -((n / 10 : Nat) : Int) := by rw [Int.neg_tdiv, tdiv10]
          rw [t1, t2, w64_id (n := -((n / 10 : Nat) : Int)) ⟨by omega, by omega⟩]
          by_cases hz : n % 10 = 0
          · rw [ltF (by omega), cond_false]
            have : -((n % 10 : Nat) : Int) = ((n % 10 : Nat) : Int) := by omega
            rw [this, e48, hu, hf, cond_true, S_app]
            exact ih
          · rw [ltT (by omega), cond_true, show (0 : Int) - -((n % 10 : Nat) : Int) = ((n % 10 : Nat) : Int) by omega, w64_id (n := ((n % 10 : Nat) : Int)) ⟨by omega, by omega⟩, e48, hu, hf, cond_true, S_app]
            exact ih
theorem sFormatInt_ok {n : Int} (h : I64 n) : callI tE f_spec_FormatInt [.int n] = some [.str (S (fmt n))] := by
  obtain ⟨h1, h2⟩ := h
  rw [c_spec_FormatInt]
  by_cases h0 : n = 0
  · subst h0; rfl
  · rw [eqF h0, cond_false]
    by_cases hn : n < 0
    · have := sfmt_loop true true 20 n.natAbs [] (by omega) (by omega) (by simp) (by simp)
      simp only [if_true, List.append_nil] at this
      rw [show -((n.natAbs : Nat) : Int) = n by omega] at this
      rw [ltT hn, this, fmt_neg hn, dec_pos (by omega)]
    · have := sfmt_loop false false 20 n.natAbs [] (by omega) (by omega) (by omega) (by simp)
      simp only [Bool.false_eq_true, if_false, List.append_nil] at this
      rw [show ((n.natAbs : Nat) : Int) = n by omega] at this
      rw [ltF (by omega), this, fmt_pos (by omega), dec_pos (by omega)]
/-! text as numbers: the program -/
theorem natAbs_lt {n : Nat} {k : Nat} (h : n < 10 ^ k) (hk : k ≤ 9) : n < 1000000000 := Nat.lt_of_lt_of_le h (Nat.le_trans (Nat.pow_le_pow_right (by decide) hk) (by decide))
/-- the end of a reading: the number, told again -/
theorem pI_of {s : List UInt8} {n : Int} (hn : n.natAbs < 1000000000) (hs : ∀ m : Int, fmt m = s → m.natAbs < 1000000000 → m = n) : (bif !decide (fmt n = s) then some [Dat.int 0, .bool false] else some [.int n, .bool true]) = some (pI s) := by
  unfold pI
  by_cases h : fmt n = s
  · rw [parseI_some.mpr ⟨h, hn⟩, decide_eq_true h]; rfl
  · rw [decide_eq_false h, parseI_none.mpr (fun m h1 h2 => h (by rw [← hs m h1 h2]; exact h1))]; rfl
theorem pI_bad {s : List UInt8} (hs : ∀ m : Int, fmt m = s → ¬ m.natAbs < 1000000000) : some [Dat.int 0, .bool false] = some (pI s) := by
  unfold pI
  rw [parseI_none.mpr hs]
theorem fold_vald_lt {u : List UInt8} (h : u.all isDig = true) (hl : u.length ≤ 9) : vald u < 1000000000 := natAbs_lt (vald_lt u h) hl
theorem iParse_loop (s d : List UInt8) (neg : Bool) (hd : s = if neg then 45 :: d else d) (hl : 1 ≤ d.length ∧ d.length ≤ 9) (h45 : neg = false → d.head? ≠ some 45) : L_impl_ParseInt_0 (S s) (S d) 0 (szI (S d)) 0 = some (pI s) := by
  have huniq : ∀ m : Int, fmt m = s → d = dec m.natAbs ∧ (neg = true ↔ m < 0) := fun m hm => by
    cases neg with
    | true =>
      simp only [if_true] at hd
      by_cases h0 : m < 0
      · rw [fmt_neg h0, hd] at hm
        exact ⟨(List.cons.inj hm).2.symm, by simp [h0]⟩
      · rw [fmt_pos (by omega), hd] at hm
        exact absurd (by rw [hm]; rfl) (dec_head m.natAbs)
    | false =>
      simp only [Bool.false_eq_true, if_false] at hd
      by_cases h0 : m < 0
      · rw [fmt_neg h0, hd] at hm
        exact absurd (by rw [← hm]; rfl) (h45 rfl)
      · rw [fmt_pos (by omega), hd] at hm
        exact ⟨hm.symm, by simp; omega⟩
  have hfin : ∀ n : Nat, d.all isDig = true → n = vald d → (bif (ltI (szI (S d)) (szI (S s))) then (((callI tE f_impl_FormatInt [(.int (w64 (0 - (n : Int))))])).bind (fun r0 => (bif (!(eqS (gs r0) (S s))) then (some [(.int 0), (.bool Bool.false)]) else (some [(.int (w64 (0 - (n : Int)))), (.bool Bool.true)])))) else (((callI tE f_impl_FormatInt [(.int (n : Int))])).bind (fun r0 => (bif (!(eqS (gs r0) (S s))) then (some [(.int 0), (.bool Bool.false)]) else (some [(.int (n : Int)), (.bool Bool.true)]))))) = some (pI s) := fun n ha hn => by
    have hv := fold_vald_lt ha hl.2
    have hw : w64 (0 - (n : Int)) = -(n : Int) := by rw [w64_id ⟨by omega, by omega⟩]; omega
    rw [szI_S, szI_S, hw, iFormatInt_ok ⟨by omega, by omega⟩, iFormatInt_ok ⟨by omega, by omega⟩]
    simp only [bind_s, gs_c, eqS_S]
    cases neg with
    | true =>
      simp only [if_true] at hd
      rw [ltT (by rw [hd]; simp only [List.length_cons]; omega), cond_true]
      refine pI_of (by omega) fun m hm _ => ?_
      obtain ⟨q1, q2⟩ := huniq m hm
      have : m < 0 := q2.mp rfl
      rw [hn, q1, vald_dec]; omega
    | false =>
      simp only [Bool.false_eq_true, if_false] at hd
      rw [ltF (by rw [hd]; omega), cond_false]
      refine pI_of (by omega) fun m hm _ => ?_
      obtain ⟨q1, q2⟩ := huniq m hm
      have : ¬ m < 0 := fun h => by have := q2.mpr h; cases this
      rw [hn, q1, vald_dec]; omega
  have := zip_loop (l := d) (L := fun (n : Nat) => L_impl_ParseInt_0 (S s) (S d) (n : Int) (szI (S d))) (F := fun _ _ => some (pI s)) (I := fun n u _ => u.all isDig = true ∧ n = vald u) (by omega) (fun u c v n e hI => by
    obtain ⟨ha, hn⟩ := hI
    have hul : u.length ≤ 9 := by have := hl.2; rw [e] at this; simp at this; omega
    have hv := fold_vald_lt ha hul
    have hc0 := u8_lt c
    have step : L_impl_ParseInt_0 (S s) (S d) (n : Int) (szI (S d)) u.length = if isDig c then L_impl_ParseInt_0 (S s) (S d) ((vstep n c : Nat) : Int) (szI (S d)) (w64 (u.length + 1)) else some [.int 0, .bool false] := by
      rw [L_impl_ParseInt_0_eq]
      subst e
      rw [lt_S, in_S, by_S]
      by_cases h1 : c.toNat < 48
      · rw [ltT (by omega), if_neg (by rw [isDig_iff]; omega)]; rfl
      · rw [ltF (by omega)]
        by_cases h2 : 57 < c.toNat
        · rw [ltT (a := 57) (by omega), if_neg (by rw [isDig_iff]; omega)]; rfl
        · rw [ltF (b := (c.toNat : Int)) (by omega), v_step (by omega) (by omega), if_pos (isDig_iff.mpr (by omega))]; rfl
    by_cases hc : isDig c = true
    · refine .inl ⟨vstep n c, ?_, ⟨by simp [ha, hc], by rw [vald_snoc, hn]; rfl⟩, rfl⟩
      show L_impl_ParseInt_0 _ _ _ _ _ = _
      rw [step, if_pos hc]
    · refine .inr ?_
      show L_impl_ParseInt_0 _ _ _ _ _ = _
      rw [step, if_neg hc]
      refine pI_bad fun m hm hb => hc ?_
      obtain ⟨q1, _⟩ := huniq m hm
      have := dec_digits m.natAbs
      rw [← q1, e] at this
      exact List.all_eq_true.mp this c (by simp)) (fun n hI => by
    show L_impl_ParseInt_0 _ _ _ _ _ = _
    rw [L_impl_ParseInt_0_eq, lt_Se, cond_false]
    exact hfin n hI.1 hI.2) 0 ⟨rfl, rfl⟩
  exact this
theorem ext_tail (c : UInt8) (s : List UInt8) : ext (S (c :: s)) (tn 1) (ByteArray.size (S (c :: s))) = S s := by
  rw [S_size, ext_S]
  congr 1
  show List.drop 1 _ = _
  simp
theorem fmt_len9 {m : Int} (h : m.natAbs < 1000000000) : ∀ d, (fmt m = 45 :: d ∨ fmt m = d ∧ 0 ≤ m) → 1 ≤ (if m < 0 then d.length else d.length) ∧ d.length ≤ 9 ∨ 0 ≤ m ∧ fmt m = 45 :: d := by
  intro d hd
  have h9 : (dec m.natAbs).length ≤ 9 := (dec_len_iff 9 _ (by omega)).mpr (by omega)
  have h1 : 1 ≤ (dec m.natAbs).length := by have := dec_ne m.natAbs; cases hx : dec m.natAbs <;> simp_all
  rcases hd with hd | ⟨hd, h0⟩
  · by_cases hm : m < 0
    · rw [fmt_neg hm] at hd
      have := (List.cons.inj hd).2
      subst this
      left; simp [hm]; omega
    · exact .inr ⟨by omega, hd⟩
  · rw [fmt_pos h0] at hd
    subst hd
    left; constructor
    · split <;> omega
    · exact h9
theorem iParseInt (s : List UInt8) (hs : s.length < 4611686018427387904) : callI tE f_impl_ParseInt [.str (S s)] = some (pI s) := by
  rw [c_impl_ParseInt]
  -- a text of digits alone
  have plain : ∀ t : List UInt8, t = s → s.head? ≠ some 45 → (bif (ltI (szI (S s)) 1) then (some [(Dat.int 0), (.bool Bool.false)]) else (bif (ltI 9 (szI (S s))) then (some [(.int 0), (.bool Bool.false)]) else (L_impl_ParseInt_0 (S s) (S s) 0 (szI (S s)) 0))) = some (pI s) := fun t ht h45 => by
    rw [szI_S]
    have key : ∀ m : Int, fmt m = s → m.natAbs < 1000000000 → 1 ≤ s.length ∧ s.length ≤ 9 := fun m hm hb => by
      by_cases h0 : m < 0
      · rw [fmt_neg h0] at hm
        exact absurd (by rw [← hm]; rfl) h45
      · rw [fmt_pos (by omega)] at hm
        have h9 : (dec m.natAbs).length ≤ 9 := (dec_len_iff 9 _ (by omega)).mpr (by omega)
        have h1 : dec m.natAbs ≠ [] := dec_ne _
        rw [hm] at h9 h1
        exact ⟨by cases s <;> simp_all, h9⟩
    by_cases h1 : s.length < 1
    · rw [ltT (by omega), cond_true]
      exact pI_bad fun m hm hb => by have := key m hm hb; omega
    · rw [ltF (by omega), cond_false]
      by_cases h2 : 9 < s.length
      · rw [ltT (by omega), cond_true]
        exact pI_bad fun m hm hb => by have := key m hm hb; omega
      · rw [ltF (by omega), cond_false]
        have := iParse_loop s s false rfl ⟨by omega, by omega⟩ (fun _ => h45)
        rw [szI_S] at this
        exact this
  cases s with
  | nil => exact plain _ rfl (by simp)
  | cons c d =>
    rw [ltT (b := szI (S (c :: d))) (by rw [szI_S]; simp only [List.length_cons]; omega), inRT (by omega) (by rw [szI_S]; simp only [List.length_cons]; omega), show byteAt (S (c :: d)) 0 = (c.toNat : Int) from by_S [] d c]
    simp only [cond_true]
    by_cases hc : c = 45
    · subst hc
      rw [eqT (by rfl), cond_true, leT (by omega), leT (by rw [szI_S]; simp only [List.length_cons]; omega), ext_tail]
      simp only [Bool.and_self, cond_true]
      have key : ∀ m : Int, fmt m = 45 :: d → m.natAbs < 1000000000 → 1 ≤ d.length ∧ d.length ≤ 9 := fun m hm hb => by
        by_cases h0 : m < 0
        · rw [fmt_neg h0] at hm
          have hm := (List.cons.inj hm).2
          have h9 : (dec m.natAbs).length ≤ 9 := (dec_len_iff 9 _ (by omega)).mpr (by omega)
          have h1 : dec m.natAbs ≠ [] := dec_ne _
          rw [hm] at h9 h1
          exact ⟨by cases d <;> simp_all, h9⟩
        · rw [fmt_pos (by omega)] at hm
          exact absurd (by rw [hm]; rfl) (dec_head m.natAbs)
      rw [szI_S]
      by_cases h1 : d.length < 1
      · rw [ltT (by omega), cond_true]
        exact pI_bad fun m hm hb => by have := key m hm hb; omega
      · rw [ltF (by omega), cond_false]
        by_cases h2 : 9 < d.length
        · rw [ltT (by omega), cond_true]
          exact pI_bad fun m hm hb => by have := key m hm hb; omega
        · rw [ltF (by omega), cond_false]
          have := iParse_loop (45 :: d) d true rfl ⟨by omega, by omega⟩ (fun h => by cases h)
          rw [szI_S] at this
          exact this
    · rw [show eqI (c.toNat : Int) 45 = false from (u8_eqI c 45).trans (decide_eq_false hc), cond_false]
      exact plain _ rfl (by simpa using hc)
/-! text as numbers: the reference -/
def flt (s : List UInt8) : List UInt8 := s.filter isDig
theorem flt_dig (s : List UInt8) : (flt s).all isDig = true := by simp [flt]
theorem sParseInt (s : List UInt8) (hs : s.length < 4611686018427387904) : callI tE f_spec_ParseInt [.str (S s)] = some (pI s) := by
  rw [c_spec_ParseInt]
  have hfl : ∀ u : List UInt8, (flt u).length ≤ u.length := fun u => List.length_filter_le _ _
  -- the end
  have hfin : ∀ (i : Int) (n k : Nat), n = vald (flt (s.take 11)) → k = (flt (s.take 11)).length → (ltI i (szI (S s)) = false ∨ ltI i (szI (S s)) = true ∧ ltI i 11 = false) → L_spec_ParseInt_0 (S s) (n : Int) (k : Int) i = some (pI s) := fun i n k hn hk hi => by
    have hkl : k ≤ 11 := by have := hfl (s.take 11); simp at this; omega
    have hv := vald_lt _ (flt_dig (s.take 11))
    rw [← hn, ← hk] at hv
    have hv11 : n < 100000000000 := Nat.lt_of_lt_of_le hv (Nat.le_trans (Nat.pow_le_pow_right (by decide) hkl) (by decide))
    have hw : w64 (0 - (n : Int)) = -(n : Int) := by rw [w64_id ⟨by omega, by omega⟩]; omega
    -- what a number's text gives
    have huniq : ∀ m : Int, fmt m = s → m.natAbs < 1000000000 → k ≤ 9 ∧ s.length ≤ 10 ∧ n = m.natAbs := fun m hm hb => by
      have h9 : (dec m.natAbs).length ≤ 9 := (dec_len_iff 9 _ (by omega)).mpr (by omega)
      have hd : flt (dec m.natAbs) = dec m.natAbs := List.filter_eq_self.mpr (fun c hc => List.all_eq_true.mp (dec_digits _) c hc)
      by_cases h0 : m < 0
      · rw [fmt_neg h0] at hm
        have ht : s.take 11 = s := List.take_of_length_le (by rw [← hm]; simp; omega)
        have hf : flt s = dec m.natAbs := by rw [← hm]; show flt (45 :: _) = _; rw [flt, List.filter_cons_of_neg (by decide)]; exact hd
        rw [ht, hf] at hn hk
        refine ⟨by omega, by rw [← hm]; simp; omega, by rw [hn, vald_dec]⟩
      · rw [fmt_pos (by omega)] at hm
        have ht : s.take 11 = s := List.take_of_length_le (by rw [← hm]; omega)
        rw [ht, ← hm, hd] at hn hk
        refine ⟨by omega, by rw [← hm]; omega, by rw [hn, vald_dec]⟩
    have tail : ∀ x : Int, I64 x → x.natAbs = n → (∀ m : Int, fmt m = s → m.natAbs < 1000000000 → m = x) → (bif (ltI 9 (k : Int)) then (some [(Dat.int 0), (.bool Bool.false)]) else (bif (ltI 10 (szI (S s))) then (some [(.int 0), (.bool Bool.false)]) else (((callI tE f_spec_FormatInt [(.int x)])).bind (fun r0 => (bif (!(eqS (gs r0) (S s))) then (some [(.int 0), (.bool Bool.false)]) else (some [(.int x), (.bool Bool.true)])))))) = some (pI s) := fun x hx hxn hu => by
      by_cases h1 : 9 < k
      · rw [ltT (by omega), cond_true]
        exact pI_bad fun m hm hb => by have := huniq m hm hb; omega
      · rw [ltF (by omega), cond_false, szI_S]
        by_cases h2 : 10 < s.length
        · rw [ltT (by omega), cond_true]
          exact pI_bad fun m hm hb => by have := huniq m hm hb; omega
        · rw [ltF (by omega), cond_false, sFormatInt_ok hx]
          simp only [bind_s, gs_c, eqS_S]
          exact pI_of (by rw [hxn]; exact natAbs_lt hv (by omega)) hu
    have pos : (s.head? ≠ some 45) → ∀ m : Int, fmt m = s → m.natAbs < 1000000000 → m = (n : Int) := fun h45 m hm hb => by
      have := huniq m hm hb
      by_cases h0 : m < 0
      · rw [fmt_neg h0] at hm
        exact absurd (by rw [← hm]; rfl) h45
      · omega
    have e : L_spec_ParseInt_0 (S s) (n : Int) (k : Int) i = (bif (ltI 0 (szI (S s))) then (bif (inR 0 (szI (S s))) then (bif (eqI (byteAt (S s) 0) 45) then (bif (ltI 9 (k : Int)) then (some [(.int 0), (.bool Bool.false)]) else (bif (ltI 10 (szI (S s))) then (some [(.int 0), (.bool Bool.false)]) else (((callI tE f_spec_FormatInt [(.int (w64 (0 - (n : Int))))])).bind (fun r0 => (bif (!(eqS (gs r0) (S s))) then (some [(.int 0), (.bool Bool.false)]) else (some [(.int (w64 (0 - (n : Int)))), (.bool Bool.true)])))))) else (bif (ltI 9 (k : Int)) then (some [(Dat.int 0), (.bool Bool.false)]) else (bif (ltI 10 (szI (S s))) then (some [(.int 0), (.bool Bool.false)]) else (((callI tE f_spec_FormatInt [(.int (n : Int))])).bind (fun r0 => (bif (!(eqS (gs r0) (S s))) then (some [(.int 0), (.bool Bool.false)]) else (some [(.int (n : Int)), (.bool Bool.true)]))))))) else none) else (bif (ltI 9 (k : Int)) then (some [(Dat.int 0), (.bool Bool.false)]) else (bif (ltI 10 (szI (S s))) then (some [(.int 0), (.bool Bool.false)]) else (((callI tE f_spec_FormatInt [(.int (n : Int))])).bind (fun r0 => (bif (!(eqS (gs r0) (S s))) then (some [(.int 0), (.bool Bool.false)]) else (some [(.int (n : Int)), (.bool Bool.true)]))))))) := by
      rw [L_spec_ParseInt_0_eq]
      rcases hi with hi | ⟨hi, hi2⟩
      · rw [hi]; rfl
      · rw [hi, hi2]; rfl
    rw [e]
    cases s with
    | nil => exact tail n ⟨by omega, by omega⟩ (by omega) (pos (by simp))
    | cons c d =>
      rw [ltT (b := szI (S (c :: d))) (by rw [szI_S]; simp only [List.length_cons]; omega), inRT (by omega) (by rw [szI_S]; simp only [List.length_cons]; omega), show byteAt (S (c :: d)) 0 = (c.toNat : Int) from by_S [] d c]
      simp only [cond_true]
      by_cases hc : c = 45
      · subst hc
        rw [eqT (by rfl), cond_true, hw]
        refine tail _ ⟨by omega, by omega⟩ (by omega) fun m hm hb => ?_
        have := huniq m hm hb
        by_cases h0 : m < 0
        · omega
        · rw [fmt_pos (by omega)] at hm
          exact absurd (by rw [hm]; rfl) (dec_head m.natAbs)
      · rw [show eqI (c.toNat : Int) 45 = false from (u8_eqI c 45).trans (decide_eq_false hc), cond_false]
        exact tail n ⟨by omega, by omega⟩ (by omega) (pos (by simpa using hc))
  have hsplit : s = s.take 11 ++ s.drop 11 := (List.take_append_drop 11 s).symm
  have htl : (s.take 11).length ≤ 11 := by simp; omega
  have := zip_loop (l := s.take 11) (L := fun (p : Nat × Nat) => L_spec_ParseInt_0 (S s) (p.1 : Int) (p.2 : Int)) (F := fun _ _ => some (pI s)) (I := fun p u _ => p.1 = vald (flt u) ∧ p.2 = (flt u).length) (by omega) (fun u c v p e hI => by
    obtain ⟨n, k⟩ := p
    obtain ⟨hn, hk⟩ := hI
    simp only at hn hk
    have hs' : s = u ++ c :: (v ++ s.drop 11) := by
      have h0 := hsplit
      rw [e, List.append_assoc, List.cons_append] at h0
      exact h0
    have hul : u.length < 11 := by have := htl; rw [e] at this; simp at this; omega
    have hkl : k ≤ u.length := by rw [hk]; exact hfl u
    have hv := vald_lt _ (flt_dig u)
    rw [← hn, ← hk] at hv
    have hv11 : n < 100000000000 := Nat.lt_of_lt_of_le hv (Nat.le_trans (Nat.pow_le_pow_right (by decide) (show k ≤ 11 by omega)) (by decide))
    have hc0 := u8_lt c
    have step : L_spec_ParseInt_0 (S s) (n : Int) (k : Int) u.length = if isDig c then L_spec_ParseInt_0 (S s) ((vstep n c : Nat) : Int) ((k + 1 : Nat) : Int) (w64 (u.length + 1)) else L_spec_ParseInt_0 (S s) (n : Int) (k : Int) (w64 (u.length + 1)) := by
      rw [L_spec_ParseInt_0_eq, hs', lt_S, in_S, by_S, ltT (by omega)]
      by_cases h1 : c.toNat < 48
      · rw [leF (by omega), if_neg (by rw [isDig_iff]; omega)]; rfl
      · rw [leT (a := 48) (by omega)]
        by_cases h2 : 57 < c.toNat
        · rw [leF (a := (c.toNat : Int)) (by omega), if_neg (by rw [isDig_iff]; omega)]; rfl
        · rw [leT (a := (c.toNat : Int)) (by omega), v_step' hv11 (by omega), if_pos (isDig_iff.mpr (by omega)), w64_s (i := k) (by omega)]; rfl
    by_cases hc : isDig c = true
    · refine .inl ⟨(vstep n c, k + 1), ?_, ⟨?_, ?_⟩, rfl⟩
      · show L_spec_ParseInt_0 _ _ _ _ = _
        rw [step, if_pos hc]
      · show vstep n c = vald (flt (u ++ [c]))
        rw [flt, List.filter_append, List.filter_cons_of_pos hc, List.filter_nil, vald_snoc, hn]; rfl
      · show k + 1 = (flt (u ++ [c])).length
        rw [flt, List.filter_append, List.filter_cons_of_pos hc, List.filter_nil, List.length_append, hk]; rfl
    · refine .inl ⟨(n, k), ?_, ⟨?_, ?_⟩, rfl⟩
      · show L_spec_ParseInt_0 _ _ _ _ = _
        rw [step, if_neg hc]
      · show n = vald (flt (u ++ [c]))
        rw [flt, List.filter_append, List.filter_cons_of_neg hc, List.filter_nil, List.append_nil, hn]; rfl
      · show k = (flt (u ++ [c])).length
        rw [flt, List.filter_append, List.filter_cons_of_neg hc, List.filter_nil, List.append_nil, hk]; rfl) (fun p hI => by
    obtain ⟨n, k⟩ := p
    refine hfin _ n k hI.1 hI.2 ?_
    by_cases h : s.length ≤ 11
    · left; rw [List.take_of_length_le h]; exact lt_Se s
    · right; exact ⟨ltT (by rw [szI_S, List.length_take]; omega), ltF (by rw [List.length_take]; omega)⟩) (0, 0) ⟨rfl, rfl⟩
  exact this
/-! cutting -/
theorem ext_mid (u cur v : List UInt8) : ext (S (u ++ cur ++ v)) u.length (u ++ cur).length = S cur := by
  rw [ext_S]
  congr 1
  rw [List.append_assoc, ← List.append_assoc u cur v, List.take_left' rfl, List.drop_left' rfl]
theorem strs_app (l : List (List UInt8)) (x : List UInt8) : List.append (l.map StE) [[Dat.str (S x)]] = (l ++ [x]).map StE := by simp [StE]
/-- where a cut stands: the pieces, the place where the open one began -/
structure CutS where
  out : List (List UInt8)
  frm : Nat
def cutI (b : UInt8) (s : List UInt8) (x : CutS) (u v : List UInt8) : Prop := x.frm ≤ u.length ∧ x.out.length ≤ u.length ∧ x.out ++ cutGo b (u.drop x.frm) v = cutL b s
theorem cut_step {b : UInt8} {s u v : List UInt8} {c : UInt8} {x : CutS} (h : cutI b s x u (c :: v)) : cutI b s (if c = b then ⟨x.out ++ [u.drop x.frm], u.length + 1⟩ else x) (u ++ [c]) v := by
  obtain ⟨h1, h2, h3⟩ := h
  unfold cutGo at h3
  split
  · rename_i hc
    rw [if_pos hc] at h3
    refine ⟨by simp, by simp; omega, ?_⟩
    rw [← h3]
    simp only [List.append_assoc, List.singleton_append]
    rw [show List.drop (u.length + 1) (u ++ [c]) = [] from List.drop_eq_nil_of_le (by simp)]
  · rename_i hc
    rw [if_neg hc] at h3
    refine ⟨by simp; omega, by simp; omega, ?_⟩
    rw [← h3, List.drop_append_of_le_length h1]
theorem drop_ext {s u v : List UInt8} {k : Nat} (hs : s = u ++ v) (h : k ≤ u.length) : ext (S s) k u.length = S (u.drop k) := by
  rw [ext_S, hs, List.take_left' rfl]
theorem iCut (b : UInt8) (s : List UInt8) (h : s.length < 1099511627776) : callI tE f_impl_cut [.str (S s), .int (b.toNat : Int)] = some [.sl ((cutL b s).map StE)] := by
  rw [c_impl_cut]
  have := zip_loop (l := s) (L := fun (x : CutS) i => L_impl_cut_0 (S s) (b.toNat : Int) (x.frm : Int) (szI (S s)) i (x.out.map StE)) (F := fun _ _ => some [.sl ((cutL b s).map StE)]) (I := cutI b s) (by omega) (fun u c v x e hI => by
    have hul : u.length < 1099511627776 := by rw [e] at h; simp at h; omega
    obtain ⟨h1, h2, h3⟩ := hI
    refine .inl ⟨_, ?_, cut_step ⟨h1, h2, h3⟩, rfl⟩
    show L_impl_cut_0 _ _ _ _ _ _ = L_impl_cut_0 _ _ _ _ _ _
    rw [L_impl_cut_0_eq]
    have hle : (u.length : Int) ≤ szI (S s) := by rw [szI_S, e]; simp only [List.length_append, List.length_cons]; omega
    have q1 : ltI (u.length : Int) (szI (S s)) = true := by rw [e]; exact lt_S u v c
    have q2 : inR (u.length : Int) (szI (S s)) = true := by rw [e]; exact in_S u v c
    have q3 : byteAt (S s) (u.length : Int) = (c.toNat : Int) := by rw [e]; exact by_S u v c
    rw [q1, q2, q3, u8_eqI]
    by_cases hc : c = b
    · rw [decide_eq_true hc, if_pos hc, in3T (by omega) (by omega) hle, len_map, show fitM (Nat.succ x.out.length) 16 = true from fitT (by omega), w64_s (by omega), tn_c, tn_c, drop_ext e h1, strs_app]
      rfl
    · rw [decide_eq_false hc, if_neg hc]; rfl) (fun x hI => by
    obtain ⟨h1, h2, h3⟩ := hI
    show L_impl_cut_0 _ _ _ _ _ _ = _
    rw [L_impl_cut_0_eq, lt_Se, cond_false, leT (a := 0) (by omega), leT (b := szI (S s)) (by rw [szI_S]; omega), len_map, show fitM (Nat.succ x.out.length) 16 = true from fitT (by omega), tn_c, S_size, drop_ext (v := []) (by simp) h1, strs_app, ← h3]
    rfl) ⟨[], 0⟩ ⟨by simp, by simp, rfl⟩
  exact this
theorem sCut (b : UInt8) (s : List UInt8) (h : s.length < 1099511627776) : callI tE f_spec_l2Cut [.str (S s), .int (b.toNat : Int)] = some [.sl ((cutL b s).map StE)] := by
  rw [c_spec_l2Cut]
  have := zip_loop (l := s) (L := fun (x : CutS) i => L_spec_l2Cut_0 (S s) (b.toNat : Int) (x.frm : Int) i (x.out.map StE)) (F := fun _ _ => some [.sl ((cutL b s).map StE)]) (I := cutI b s) (by omega) (fun u c v x e hI => by
    have hul : u.length < 1099511627776 := by rw [e] at h; simp at h; omega
    obtain ⟨h1, h2, h3⟩ := hI
    refine .inl ⟨_, ?_, cut_step ⟨h1, h2, h3⟩, rfl⟩
    show L_spec_l2Cut_0 _ _ _ _ _ = L_spec_l2Cut_0 _ _ _ _ _
    rw [L_spec_l2Cut_0_eq]
    have hle : (u.length : Int) ≤ szI (S s) := by rw [szI_S, e]; simp only [List.length_append, List.length_cons]; omega
    have q1 : ltI (u.length : Int) (szI (S s)) = true := by rw [e]; exact lt_S u v c
    have q2 : inR (u.length : Int) (szI (S s)) = true := by rw [e]; exact in_S u v c
    have q3 : byteAt (S s) (u.length : Int) = (c.toNat : Int) := by rw [e]; exact by_S u v c
    rw [q1, q2, q3, u8_eqI]
    by_cases hc : c = b
    · rw [decide_eq_true hc, if_pos hc, in3T (by omega) (by omega) hle, len_map, show fitM (Nat.succ x.out.length) 16 = true from fitT (by omega), w64_s (by omega), tn_c, tn_c, drop_ext e h1, strs_app]
      rfl
    · rw [decide_eq_false hc, if_neg hc]; rfl) (fun x hI => by
    obtain ⟨h1, h2, h3⟩ := hI
    show L_spec_l2Cut_0 _ _ _ _ _ = _
    rw [L_spec_l2Cut_0_eq, lt_Se, cond_false, leT (a := 0) (by omega), leT (b := szI (S s)) (by rw [szI_S]; omega), len_map, show fitM (Nat.succ x.out.length) 16 = true from fitT (by omega), tn_c, S_size, drop_ext (v := []) (by simp) h1, strs_app, ← h3]
    rfl) ⟨[], 0⟩ ⟨by simp, by simp, rfl⟩
  exact this
/-! joining -/
theorem jl_snoc (b : List UInt8) (u : List (List UInt8)) (x : List UInt8) : joinL b (u ++ [x]) = if u = [] then x else joinL b u ++ b ++ x := by
  split
  · rename_i h; subst h; rfl
  · rename_i h; exact joinL_snoc b u x h
theorem joinL_sub (b : List UInt8) (u v : List (List UInt8)) : (joinL b u).length ≤ ((u ++ v).map fun x => x.length + b.length).sum := by
  have := joinL_len b u
  simp only [List.map_append, List.sum_append]
  omega
theorem iJoined (b : List UInt8) (l : List (List UInt8)) (hl : l.length < 4611686018427387904) (h : (l.map fun x => x.length + b.length).sum < 4611686018427387904) : callI tE f_impl_joined [.sl (l.map StE), .str (S b)] = some [.str (S (joinL b l))] := by
  rw [c_impl_joined]
  have := zip_loop (l := l) (L := fun s i => L_impl_joined_0 (S b) (S s) (l.map StE) (lenI (l.map StE)) i) (F := fun _ _ => some [.str (S (joinL b l))]) (I := fun s u _ => s = joinL b u) (by omega) (fun u x v s e hI => by
    refine .inl ⟨joinL b (u ++ [x]), ?_, rfl, rfl⟩
    show L_impl_joined_0 _ _ _ _ _ = L_impl_joined_0 _ _ _ _ _
    have hb : (joinL b u).length + (x.length + b.length) < 4611686018427387904 := by
      have := joinL_len b u
      rw [e] at h
      simp only [List.map_append, List.map_cons, List.sum_append, List.sum_cons] at h
      omega
    subst e
    rw [L_impl_joined_0_eq, jl_snoc, hI]
    simp only [lt_m, in_m, tn_c, at_m, cond_true, StE, gs_c]
    by_cases hu : u = []
    · subst hu
      rw [if_pos rfl, ltF (by simp), cond_false, fitS_S (by simp [joinL]; omega), S_app]
      rfl
    · have hul : 0 < u.length := List.length_pos_iff.mpr hu
      rw [if_neg hu, ltT (by omega), fitS_S (by omega), S_app, fitS_S (by rw [List.length_append]; omega), S_app]
      rfl) (fun s hs => by
    show L_impl_joined_0 _ _ _ _ _ = _
    rw [L_impl_joined_0_eq, lt_e, cond_false, hs]) [] rfl
  exact this
end Go.Proofs.Ytbmafhpbinjgaaa.Vai
