/- Reading back what was written, for any kind of data; no condition. -/
import Derived.Test.YtbmafhpbinjgaaaPS
namespace Go.Proofs.Ytbmafhpbinjgaaa.Vai
open Go
set_option linter.unusedSimpArgs false
set_option linter.unusedVariables false
set_option linter.unnecessarySimpa false
section
variable {α : Type}
open Classical in
/-- the one thing whose text this is -/
noncomputable def unf (P : α → Prop) (f : α → List UInt8) (s : List UInt8) : Option α := if h : ∃ a, P a ∧ f a = s then some h.choose else none
theorem unf_some {P : α → Prop} {f : α → List UInt8} (inj : ∀ a b, P a → P b → f a = f b → a = b) {s : List UInt8} {a : α} : unf P f s = some a ↔ P a ∧ f a = s := by
  unfold unf
  constructor
  · intro h
    split at h
    · rename_i hx; cases h; exact hx.choose_spec
    · cases h
  · intro h
    have hx : ∃ a, P a ∧ f a = s := ⟨a, h⟩
    rw [dif_pos hx]
    exact congrArg some (inj _ _ hx.choose_spec.1 h.1 (hx.choose_spec.2.trans h.2.symm))
theorem unf_none {P : α → Prop} {f : α → List UInt8} {s : List UInt8} : unf P f s = none ↔ ∀ a, P a → f a ≠ s := by
  unfold unf
  constructor
  · intro h a h1 h2
    rw [dif_pos ⟨a, h1, h2⟩] at h; cases h
  · intro h
    rw [dif_neg]
    rintro ⟨a, h1, h2⟩
    exact h a h1 h2
end
theorem fmt_nosep {b : UInt8} (hb : isDig b = false) (h45 : b ≠ 45) (n : Int) : b ∉ fmt n := fun h => by
  rcases fmt_noDig_ne b h with h | h
  · rw [hb] at h; cases h
  · exact h45 h
/-- a number read: its value, was it one -/
noncomputable def num (s : List UInt8) : Int := (parseI s).getD 0
noncomputable def isN (s : List UInt8) : Bool := (parseI s).isSome
theorem pI_eq (s : List UInt8) : pI s = [.int (num s), .bool (isN s)] := by
  unfold pI num isN
  cases parseI s <;> rfl
theorem isN_num {s : List UInt8} (h : isN s = true) : fmt (num s) = s ∧ (num s).natAbs < 1000000000 := by
  unfold isN at h
  cases hp : parseI s with
  | none => rw [hp] at h; cases h
  | some n =>
    have := parseI_some.mp hp
    unfold num
    rw [hp]
    exact this
theorem num_fmt {n : Int} (h : n.natAbs < 1000000000) : num (fmt n) = n ∧ isN (fmt n) = true := by
  unfold num isN; rw [parseI_fmt h]; exact ⟨rfl, rfl⟩
theorem num_lt (s : List UInt8) : (num s).natAbs < 1000000000 := by
  unfold num
  cases hp : parseI s with
  | none => decide
  | some n => exact (parseI_some.mp hp).2
theorem num_i64 (s : List UInt8) : I64 (num s) := by have := num_lt s; exact ⟨by omega, by omega⟩
theorem num_bad {s : List UInt8} (h : isN s = false) : num s = 0 := by
  unfold isN at h
  unfold num
  cases hp : parseI s with
  | none => rfl
  | some n => rw [hp] at h; cases h
theorem tn_0 : tn 0 = 0 := rfl
theorem tn_1 : tn 1 = 1 := rfl
theorem tn_2 : tn 2 = 2 := rfl
theorem tn_3 : tn 3 = 3 := rfl
theorem tn_4 : tn 4 = 4 := rfl
theorem tn_5 : tn 5 = 5 := rfl
theorem tn_6 : tn 6 = 6 := rfl
theorem tn_7 : tn 7 = 7 := rfl
theorem tn_8 : tn 8 = 8 := rfl
theorem tn_9 : tn 9 = 9 := rfl
theorem eqI_len {α : Type} (e : α → List Dat) (l : List α) (n : Nat) : eqI (lenI (l.map e)) (n : Int) = decide (l.length = n) := by
  unfold eqI; rw [lenI_map]; congr 1; apply propext; omega
theorem list3 {α : Type} {l : List α} (h : l.length = 3) : ∃ a b c, l = [a, b, c] := by
  match l, h with
  | [a, b, c], _ => exact ⟨a, b, c, rfl⟩
theorem list2 {α : Type} {l : List α} (h : l.length = 2) : ∃ a b, l = [a, b] := by
  match l, h with
  | [a, b], _ => exact ⟨a, b, rfl⟩
end Go.Proofs.Ytbmafhpbinjgaaa.Vai
