/- Decimals as lists of bytes; no condition. -/
import Derived.Test.YtbmafhpbinjgaaaT2
namespace Go.Proofs.Ytbmafhpbinjgaaa.Vai
open Go
set_option linter.unusedSimpArgs false
set_option linter.unusedVariables false
set_option linter.unnecessarySimpa false
theorem S_size (l : List UInt8) : (S l).size = l.length := by simp [S, ByteArray.size]
theorem S_toList (l : List UInt8) : (S l).toList = l := by simp [S, ByteArray.toList_eq]
theorem S_of (b : ByteArray) : S b.data.toList = b := by cases b; simp [S]
theorem S_app (l m : List UInt8) : S l ++ S m = S (l ++ m) := by
  apply ByteArray.ext
  simp [S, ByteArray.data_append]
theorem S_inj {l m : List UInt8} (h : S l = S m) : l = m := by
  have := congrArg (fun b : ByteArray => b.data.toList) h
  simpa [S] using this
theorem S_iff {l m : List UInt8} : S l = S m ↔ l = m := ⟨S_inj, fun h => by rw [h]⟩
theorem of_S (b : ByteArray) : ∃ l, b = S l := ⟨b.data.toList, (S_of b).symm⟩
theorem ext_S (l : List UInt8) (i j : Nat) : ext (S l) i j = S ((l.take j).drop i) := by
  apply ByteArray.ext
  simp [ext, S, ByteArray.data_extract, List.extract_eq_take_drop, List.drop_take]
theorem szI_S (l : List UInt8) : szI (S l) = (l.length : Int) := by show ((S l).size : Int) = _; rw [S_size]
theorem eqS_S (l m : List UInt8) : eqS (S l) (S m) = decide (l = m) := by rw [eqS_dec]; simp only [S_iff]
theorem fitS_S {l m : List UInt8} (h : l.length + m.length ≤ 9223372036854775807) : fitS (S l) (S m) = true := by unfold fitS; rw [S_size, S_size]; exact leNT h
theorem byteAt_S {l : List UInt8} {i : Nat} (h : i < l.length) : byteAt (S l) (i : Int) = ((l[i]'h).toNat : Int) := by
  unfold byteAt
  rw [dif_pos (by rw [S_size, Int.toNat_natCast]; exact h)]
  simp only [Int.toNat_natCast, S]
  rfl
/-- one byte out of a number -/
theorem strOf1 (n : Int) : strOf [[.int n]] = S [UInt8.ofNat n.toNat] := rfl
def dig (d : Nat) : UInt8 := UInt8.ofNat (48 + d)
theorem dig_toNat (d : Nat) (h : d < 10) : (dig d).toNat = 48 + d := by simp [dig, UInt8.toNat_ofNat]; omega
/-- the digits of a number above 0 -/
def digs (n : Nat) : List UInt8 := if n = 0 then [] else digs (n / 10) ++ [dig (n % 10)]
termination_by n
theorem digs_0 : digs 0 = [] := by rw [digs, if_pos rfl]
theorem digs_s {n : Nat} (h : n ≠ 0) : digs n = digs (n / 10) ++ [dig (n % 10)] := by rw [digs, if_neg h]
def dec (n : Nat) : List UInt8 := if n = 0 then [48] else digs n
theorem dec_pos {n : Nat} (h : n ≠ 0) : dec n = digs n := if_neg h
theorem u8_dig {d : Int} (h : 0 ≤ d) (h2 : d < 10) : S [UInt8.ofNat (IntKind.wrap .u8 (48 + d)).toNat] = S [dig d.toNat] := by
  have : IntKind.wrap .u8 (48 + d) = 48 + d := by
    simp only [IntKind.wrap, IntKind.signed, IntKind.bits, Bool.false_and, Bool.false_eq_true, if_false]
    omega
  rw [this]
  unfold dig
  congr 3
  omega
theorem digs_len : ∀ (d n : Nat), n < 10 ^ d → (digs n).length ≤ d := by
  intro d
  induction d with
  | zero => intro n h; have : n = 0 := by simpa using h
            subst this; rw [digs_0]; simp
  | succ d ih =>
    intro n h
    by_cases h0 : n = 0
    · subst h0; rw [digs_0]; simp
    · rw [digs_s h0, List.length_append]
      have := ih (n / 10) (by rw [Nat.pow_succ] at h; omega)
      simp; omega
/-- the text of a mark -/
def mkS (_ : ByteArray) (k : Int) : ByteArray := S (109 :: dec k.toNat)
end Go.Proofs.Ytbmafhpbinjgaaa.Vai
