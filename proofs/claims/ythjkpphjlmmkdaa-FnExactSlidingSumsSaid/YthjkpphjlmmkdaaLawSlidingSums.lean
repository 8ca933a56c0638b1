/- The law FnExactSlidingSums of the given program answers true for every input; no condition. -/
import Derived.Test.YthjkpphjlmmkdaaRows
import Derived.Test.YthjkpphjlmmkdaaPSlidingSums
namespace Go.Proofs.Ythjkpphjlmmkdaa.fnExactSlidingSums
open Go Go.ChangeShapes Go.WideShapes Go.ChangeAt Go.RowKit Go.Proofs.Ythjkpphjlmmkdaa.Vai
set_option maxRecDepth 100000
theorem own : ownKnob Try.prog.godebug = none := by kernel_rfl
theorem lifted (os : Os) (started : os.Started) (H : Type) (enc : TypeId × Value → H) :
    ReturnsInHanded {} Try.checked os 5 .any (Rows.fnExactSlidingSumsSpec.pre6 enc Try.prog Try.f5 Rows.fnExactSlidingSumsRow.domain false) (Rows.fnExactSlidingSumsSpec.post enc Try.prog Try.f5 false true false false) := by
  refine returnsInHanded_of_change_sized (C := Try.checked) own started (by kernel_rfl) Try.func5
    (ChangeSpec.witness6 (enc := enc) (C := Try.checked) false ⟨#[], #[.slice none 0 0, .int .i64 0], []⟩ 8 (by kernel_rfl) (by kernel_rfl) (by kernel_rfl) (by kernel_rfl)) ?_
  intro W base args ds gs before hval hW hcnd hsz _
  exact law_contract (P := Try.prog) tEok.1 tEok.2 (by kernel_rfl) (f := 5) (tAt 5) rfl rfl (ps := [⟨[.sl 25], 24, false, []⟩, ⟨[.int .i64], 8, false, []⟩]) (by kernel_rfl) (bt := 4) rfl rfl (by kernel_rfl) pure_FnExactSlidingSums (s := Rows.fnExactSlidingSumsSpec) rfl
    (fun ds h => by
      match ds, h with
      | [d0, d1], _ => rfl) hval hW hsz
theorem over : Rows.fnExactSlidingSumsRow.holds Try.pinned (OpenSpec.ofChange Rows.fnExactSlidingSumsSpec) :=
  OpenClaim.holds_of_wide 5 Try.f5 rfl rfl rfl rfl rfl rfl rfl ⟨rfl, rfl, rfl, rfl, rfl⟩ rfl rfl rfl rfl rfl (by kernel_rfl) Try.func5 (by kernel_rfl)
    (of_decide_eq_true (by kernel_rfl)) (by unfold Func.isWrapper; first | (rw [if_pos (by decide +kernel)]; kernel_rfl) | (rw [if_neg (by decide +kernel)]; exact ⟨rfl, rfl⟩))
    (fun os started H enc _ => lifted os started H enc)
#print axioms over
end Go.Proofs.Ythjkpphjlmmkdaa.fnExactSlidingSums
namespace Go.Proofs.Ythjkpphjlmmkdaa
/-- The row, under a short name, for the claim. -/
theorem fnExactSlidingSums_holds : Rows.FnExactSlidingSumsSaid := fnExactSlidingSums.over
end Go.Proofs.Ythjkpphjlmmkdaa
