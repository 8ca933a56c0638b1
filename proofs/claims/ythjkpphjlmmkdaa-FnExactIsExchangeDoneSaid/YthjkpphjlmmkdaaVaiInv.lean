/- Small words for the proofs about the functions; no condition. -/
import Derived.Test.YthjkpphjlmmkdaaVaiRow
namespace Go.Proofs.Ythjkpphjlmmkdaa.Vai
open Go
section
variable {E : Env}
theorem OkDs.nil_inv {ds : List Dat} (h : OkDs E [] ds) : ds = [] := by cases h; rfl
theorem OkDs.inv {l : Leaf} {ls : List Leaf} {ds : List Dat} (h : OkDs E (l :: ls) ds) : ∃ d r, ds = d :: r ∧ OkD E l d ∧ OkDs E ls r := by
  cases h with
  | cons _ d _ r h1 h2 => exact ⟨d, r, rfl, h1, h2⟩
def I64 (n : Int) : Prop := -9223372036854775808 ≤ n ∧ n ≤ 9223372036854775807
theorem OkD.i64 {d : Dat} (h : OkD E (.int .i64) d) : ∃ n, d = .int n ∧ I64 n := by
  cases h with
  | int _ n h =>
    refine ⟨n, rfl, ?_⟩
    simp only [Lit.wf, IntKind.min, IntKind.max, IntKind.signed, IntKind.bits, Bool.and_eq_true, decide_eq_true_eq] at h
    simpa [I64] using h
theorem OkD.bool' {d : Dat} (h : OkD E .bool d) : ∃ b, d = .bool b := by
  cases h with
  | bool b => exact ⟨b, rfl⟩
theorem OkD.str' {d : Dat} (h : OkD E .str d) : ∃ s, d = .str s ∧ s.size ≤ reachBytes := by
  cases h with
  | str s h => exact ⟨s, rfl, h⟩
theorem OkD.sl' {e : TypeId} {te : TI} (ht : E.T e = some te) {d : Dat} (h : OkD E (.sl e) d) : ∃ rows, d = .sl rows ∧ rows.length * te.by_ ≤ reachBytes ∧ ∀ r ∈ rows, OkDs E te.ls r := by
  cases h with
  | sl _ te' rows ht' hn hl h =>
    rw [ht] at ht'
    cases ht'
    refine ⟨rows, rfl, hn, fun r hr => ?_⟩
    have h1 := hl r hr
    have h2 := h r hr
    clear h hl hn ht hr
    generalize te.ls = ls at h1 h2
    induction ls generalizing r with
    | nil =>
      have : r = [] := List.length_eq_zero_iff.mp h1
      subst this
      exact .nil
    | cons l ls ih =>
      match r, h1 with
      | d :: r, h1 => exact .cons _ _ _ _ (by simpa using h2 0 l rfl) (ih r (by simpa using h1) (fun i l' hl' => by simpa using h2 (i + 1) l' (by simpa using hl')))
theorem wrap64 {n : Int} (h : I64 n) : IntKind.wrap .i64 n = n := by
  obtain ⟨h1, h2⟩ := h
  have e : (2 : Int) ^ 64 = 18446744073709551616 := by decide
  have e2 : (2 : Int) ^ (64 - 1) = 9223372036854775808 := by decide
  simp only [IntKind.wrap, IntKind.signed, IntKind.bits, Bool.true_and, decide_eq_true_eq, e, e2]
  split <;> omega
theorem bif_t {α : Type} {b : Bool} (h : b = true) (x y : α) : (bif b then x else y) = x := by rw [h]; rfl
theorem bif_f {α : Type} {b : Bool} (h : b = false) (x y : α) : (bif b then x else y) = y := by rw [h]; rfl
end
end Go.Proofs.Ythjkpphjlmmkdaa.Vai
