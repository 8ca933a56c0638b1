/- Numbers as text and text as numbers; no condition. -/
import Derived.Test.YtbmafhpbinjgaaaT3
namespace Go.Proofs.Ytbmafhpbinjgaaa.Vai
open Go
set_option linter.unusedSimpArgs false
set_option linter.unusedVariables false
set_option linter.unnecessarySimpa false
theorem digs_lt {n : Nat} (h : n < 10) (h0 : n ≠ 0) : digs n = [dig n] := by
  rw [digs_s h0, show n / 10 = 0 by omega, digs_0, show n % 10 = n by omega]; rfl
theorem dec_lt {n : Nat} (h : n < 10) : dec n = [dig n] := by
  by_cases h0 : n = 0
  · subst h0; rfl
  · rw [dec_pos h0, digs_lt h h0]
theorem dec_ge {n : Nat} (h : 10 ≤ n) : dec n = dec (n / 10) ++ [dig (n % 10)] := by
  rw [dec_pos (by omega), digs_s (by omega), dec_pos (by omega)]
theorem dec_ind {P : Nat → Prop} (h1 : ∀ n, n < 10 → P n) (h2 : ∀ n, 10 ≤ n → P (n / 10) → P n) (n : Nat) : P n := by
  induction n using Nat.strongRecOn with
  | ind n ih =>
    by_cases h : n < 10
    · exact h1 n h
    · exact h2 n (by omega) (ih (n / 10) (by omega))
def isDig (c : UInt8) : Bool := decide (48 ≤ c.toNat) && decide (c.toNat ≤ 57)
theorem isDig_dig {d : Nat} (h : d < 10) : isDig (dig d) = true := by
  unfold isDig; rw [dig_toNat d h]; simp; omega
theorem dec_digits (n : Nat) : (dec n).all isDig = true := by
  refine dec_ind (P := fun n => (dec n).all isDig = true) (fun n h => ?_) (fun n h ih => ?_) n
  · rw [dec_lt h]; simp [isDig_dig h]
  · rw [dec_ge h, List.all_append, ih]; simp [isDig_dig (show n % 10 < 10 by omega)]
theorem dec_ne (n : Nat) : dec n ≠ [] := by
  refine dec_ind (P := fun n => dec n ≠ []) (fun n h => ?_) (fun n h ih => ?_) n
  · rw [dec_lt h]; simp
  · rw [dec_ge h]; simp
/-- what a list of digits comes to -/
def vald (l : List UInt8) : Nat := l.foldl (fun n c => 10 * n + (c.toNat - 48)) 0
theorem vald_snoc (l : List UInt8) (c : UInt8) : vald (l ++ [c]) = 10 * vald l + (c.toNat - 48) := by simp [vald, List.foldl_append]
theorem vald_dec (n : Nat) : vald (dec n) = n := by
  refine dec_ind (P := fun n => vald (dec n) = n) (fun n h => ?_) (fun n h ih => ?_) n
  · rw [dec_lt h]; simp only [vald, List.foldl_cons, List.foldl_nil, dig_toNat n h]; omega
  · rw [dec_ge h, vald_snoc, ih, dig_toNat _ (by omega)]; omega
theorem dec_inj {a b : Nat} (h : dec a = dec b) : a = b := by rw [← vald_dec a, ← vald_dec b, h]
theorem vald_acc : ∀ (l : List UInt8) (a : Nat), l.all isDig = true → l.foldl (fun n c => 10 * n + (c.toNat - 48)) a + 1 ≤ (a + 1) * 10 ^ l.length
  | [], a, _ => by simp
  | c :: l, a, h => by
    simp only [List.all_cons, Bool.and_eq_true, isDig, decide_eq_true_eq] at h
    have := vald_acc l (10 * a + (c.toNat - 48)) (by simpa [isDig] using h.2)
    simp only [List.foldl_cons, List.length_cons, Nat.pow_succ]
    have h2 : (10 * a + (c.toNat - 48) + 1) * 10 ^ l.length ≤ ((a + 1) * 10) * 10 ^ l.length := Nat.mul_le_mul_right _ (by omega)
    rw [show (a + 1) * (10 ^ l.length * 10) = ((a + 1) * 10) * 10 ^ l.length by rw [Nat.mul_comm (10 ^ l.length) 10, Nat.mul_assoc]]
    omega
theorem vald_lt (l : List UInt8) (h : l.all isDig = true) : vald l < 10 ^ l.length := by
  have := vald_acc l 0 h
  unfold vald
  omega
theorem dec_len_iff (d n : Nat) (hd : 1 ≤ d) : (dec n).length ≤ d ↔ n < 10 ^ d := by
  constructor
  · intro h
    have := vald_lt (dec n) (dec_digits n)
    rw [vald_dec] at this
    exact Nat.lt_of_lt_of_le this (Nat.pow_le_pow_right (by omega) h)
  · intro h
    by_cases h0 : n = 0
    · subst h0; simpa [dec] using hd
    · rw [dec_pos h0]; exact digs_len d n h
theorem dec_head (n : Nat) : (dec n).head? ≠ some 45 := by
  intro h
  have := List.all_eq_true.mp (dec_digits n) 45 (List.mem_of_mem_head? (by rw [h]; rfl))
  exact absurd this (by decide)
def fmt (n : Int) : List UInt8 := if n < 0 then 45 :: dec n.natAbs else dec n.natAbs
theorem fmt_neg {n : Int} (h : n < 0) : fmt n = 45 :: dec n.natAbs := if_pos h
theorem fmt_pos {n : Int} (h : 0 ≤ n) : fmt n = dec n.natAbs := if_neg (by omega)
theorem fmt_inj {a b : Int} (h : fmt a = fmt b) : a = b := by
  by_cases ha : a < 0 <;> by_cases hb : b < 0
  · rw [fmt_neg ha, fmt_neg hb] at h
    have := dec_inj (List.cons.inj h).2; omega
  · rw [fmt_neg ha, fmt_pos (by omega)] at h
    exact absurd (by rw [← h]; rfl) (dec_head b.natAbs)
  · rw [fmt_pos (by omega), fmt_neg hb] at h
    exact absurd (by rw [h]; rfl) (dec_head a.natAbs)
  · rw [fmt_pos (by omega), fmt_pos (by omega)] at h
    have := dec_inj h; omega
theorem fmt_len {n : Int} (h : -9223372036854775808 ≤ n ∧ n ≤ 9223372036854775807) : (fmt n).length ≤ 20 := by
  have h1 : (dec n.natAbs).length ≤ 19 := (dec_len_iff 19 _ (by omega)).mpr (by omega)
  by_cases hn : n < 0
  · rw [fmt_neg hn, List.length_cons]; omega
  · rw [fmt_pos (by omega)]; omega
theorem fmt_ne (n : Int) : fmt n ≠ [] := by
  unfold fmt; split
  · simp
  · exact dec_ne _
open Classical in
/-- the number that a text is, if it has at most nine digits -/
noncomputable def parseI (s : List UInt8) : Option Int := if h : ∃ n : Int, fmt n = s ∧ n.natAbs < 1000000000 then some h.choose else none
theorem parseI_some {s : List UInt8} {n : Int} : parseI s = some n ↔ fmt n = s ∧ n.natAbs < 1000000000 := by
  unfold parseI
  constructor
  · intro h
    split at h
    · rename_i hx; cases h; exact hx.choose_spec
    · cases h
  · intro h
    have hx : ∃ n : Int, fmt n = s ∧ n.natAbs < 1000000000 := ⟨n, h⟩
    rw [dif_pos hx]
    exact congrArg some (fmt_inj (hx.choose_spec.1.trans h.1.symm))
theorem parseI_none {s : List UInt8} : parseI s = none ↔ ∀ n : Int, fmt n = s → ¬ n.natAbs < 1000000000 := by
  constructor
  · intro h n h1 h2
    rw [parseI_some.mpr ⟨h1, h2⟩] at h; cases h
  · intro h
    cases hp : parseI s with
    | none => rfl
    | some n => have := parseI_some.mp hp; exact absurd this.2 (h n this.1)
theorem parseI_fmt {n : Int} (h : n.natAbs < 1000000000) : parseI (fmt n) = some n := parseI_some.mpr ⟨rfl, h⟩
noncomputable def pI (s : List UInt8) : List Dat := match parseI s with
  | some n => [.int n, .bool true]
  | none => [.int 0, .bool false]
end Go.Proofs.Ytbmafhpbinjgaaa.Vai
