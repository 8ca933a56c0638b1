/- The text of a mark; no condition. -/
import Derived.Test.YtbmafhpbinjgaaaEqA
import Derived.Test.YtbmafhpbinjgaaaT3
namespace Go.Proofs.Ytbmafhpbinjgaaa.Vai
open Go
set_option linter.unusedSimpArgs false
set_option linter.unusedVariables false
set_option linter.unnecessarySimpa false
theorem markText_loop : ∀ (d n : Nat) (s : List UInt8), n < 10 ^ d → n < 4611686018427387904 → s.length + d ≤ 1000 → L_laws_markText_0 (n : Int) (S s) = some [.str (S (109 :: (digs n ++ s)))]
  | d, n, s, h, hd, hs => by
    rw [L_laws_markText_0_eq]
    by_cases h0 : n = 0
    · subst h0
      rw [ltF (by omega), cond_false, digs_0, fitS_S (by simp; omega), cond_true]
      rw [S_app]
      rfl
    · have h1 : Int.tmod (n : Int) 10 = ((n % 10 : Nat) : Int) := by rw [Int.tmod_eq_emod_of_nonneg (by omega)]; omega
      have h2 : Int.tdiv (n : Int) 10 = ((n / 10 : Nat) : Int) := by rw [Int.tdiv_eq_ediv_of_nonneg (by omega)]; omega
      cases d with
      | zero => exfalso; simp at h; omega
      | succ d =>
        rw [ltT (by omega), cond_true, h1, h2, w64_id (n := 48 + ((n % 10 : Nat) : Int)) (by omega), strOf1, u8_dig (by omega) (by omega)]
        rw [fitS_S (by simp; omega), cond_true, S_app]
        have e : (↑((n % 10 : Nat) : Int).toNat : Nat) = n % 10 := by omega
        rw [w64_id (by omega), markText_loop d (n / 10) ([dig ((n % 10 : Nat) : Int).toNat] ++ s) (by rw [Nat.pow_succ] at h; omega) (by omega) (by simp; omega), digs_s h0, e]
        simp
theorem markText_ok {k : Int} (h : 0 ≤ k) (h2 : k < 4611686018427387904) : callI tE f_laws_markText [.int k] = some [.str (S (109 :: dec k.toNat))] := by
  rw [c_laws_markText]
  by_cases h0 : k = 0
  · subst h0; rfl
  · rw [leF (by omega), cond_false]
    have := markText_loop 19 k.toNat [] (by omega) (by omega) (by simp)
    rw [show ((k.toNat : Nat) : Int) = k by omega] at this
    rw [this, dec_pos (by omega)]
    simp
end Go.Proofs.Ytbmafhpbinjgaaa.Vai
