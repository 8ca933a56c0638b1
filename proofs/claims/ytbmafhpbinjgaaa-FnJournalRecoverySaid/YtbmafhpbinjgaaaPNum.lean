/- Numbers as text, the program's and the reference's; no condition. -/
import Derived.Test.YtbmafhpbinjgaaaEqA
import Derived.Test.YtbmafhpbinjgaaaT4
namespace Go.Proofs.Ytbmafhpbinjgaaa.Vai
open Go
set_option linter.unusedSimpArgs false
set_option linter.unusedVariables false
set_option linter.unnecessarySimpa false
theorem u64_id {n : Int} (h : 0 ≤ n ∧ n < 18446744073709551616) : IntKind.wrap .u64 n = n := by
  simp only [IntKind.wrap, IntKind.signed, IntKind.bits, Bool.false_and, Bool.false_eq_true, if_false]
  omega
theorem tdiv10 (n : Nat) : Int.tdiv (n : Int) 10 = ((n / 10 : Nat) : Int) := by rw [Int.tdiv_eq_ediv_of_nonneg (by omega)]; omega
theorem tmod10 (n : Nat) : Int.tmod (n : Int) 10 = ((n % 10 : Nat) : Int) := by rw [Int.tmod_eq_emod_of_nonneg (by omega)]; omega
theorem decimal_ok : ∀ n : Nat, n < 18446744073709551616 → callI tE f_impl_decimal [.int (n : Int)] = some [.str (S (dec n))] := by
  intro n
  refine dec_ind (P := fun n => n < 18446744073709551616 → callI tE f_impl_decimal [.int (n : Int)] = some [.str (S (dec n))]) (fun n h _ => ?_) (fun n h ih hn => ?_) n
  · rw [c_impl_decimal, ltT (by omega), cond_true, u64_id (by omega), strOf1, u8_dig (by omega) (by omega), dec_lt h]
    rfl
  · rw [c_impl_decimal, ltF (by omega), cond_false, tdiv10, tmod10, u64_id (by omega), ih (by omega)]
    simp only [bind_s, gs_c]
    rw [u64_id (by omega), strOf1, u8_dig (by omega) (by omega)]
    have hl : (dec (n / 10)).length ≤ 20 := (dec_len_iff 20 _ (by omega)).mpr (by omega)
    rw [show fitS _ _ = true from fitS_S (by simp; omega), cond_true, S_app, dec_ge h]
    rfl
theorem iFormatInt_ok {n : Int} (h : I64 n) : callI tE f_impl_FormatInt [.int n] = some [.str (S (fmt n))] := by
  obtain ⟨h1, h2⟩ := h
  rw [c_impl_FormatInt]
  by_cases hn : n < 0
  · rw [ltT hn, cond_true]
    have e1 : IntKind.wrap .u64 n = n + 18446744073709551616 := by
      simp only [IntKind.wrap, IntKind.signed, IntKind.bits, Bool.false_and, Bool.false_eq_true, if_false]
      omega
    have e2 : IntKind.wrap .u64 (0 - (n + 18446744073709551616)) = (n.natAbs : Int) := by
      simp only [IntKind.wrap, IntKind.signed, IntKind.bits, Bool.false_and, Bool.false_eq_true, if_false]
      omega
    have hl : (dec n.natAbs).length ≤ 20 := (dec_len_iff 20 _ (by omega)).mpr (by omega)
    rw [e1, e2, decimal_ok _ (by omega)]
    simp only [bind_s, gs_c]
    rw [show fitS _ _ = true from fitS_S (by simp; omega), cond_true, S_app, fmt_neg hn]
    rfl
  · rw [ltF (by omega), cond_false, u64_id (by omega), show n = (n.natAbs : Int) by omega, decimal_ok _ (by omega)]
    simp only [bind_s, gs_c]
    rw [fmt_pos (by omega)]
    rfl
end Go.Proofs.Ytbmafhpbinjgaaa.Vai
