/- The law FnExactIsExchangeDone of the given program answers true for every input; no condition. -/
import Derived.Test.YthjkpphjlmmkdaaRows
import Derived.Test.YthjkpphjlmmkdaaPIsExchangeDone
import Derived.Test.YthjkpphjlmmkdaaVaiRow
namespace Go.Proofs.Ythjkpphjlmmkdaa.fnExactIsExchangeDone
open Go Go.ChangeShapes Go.WideShapes Go.ChangeAt Go.RowKit Go.Proofs.Ythjkpphjlmmkdaa.Vai
set_option maxRecDepth 100000
theorem own : ownKnob Try.prog.godebug = none := by kernel_rfl
theorem lifted (os : Os) (started : os.Started) (H : Type) (enc : TypeId × Value → H) :
    ReturnsInHanded {} Try.checked os 13 .any (Rows.fnExactIsExchangeDoneSpec.pre6 enc Try.prog Try.f13 Rows.fnExactIsExchangeDoneRow.domain false) (Rows.fnExactIsExchangeDoneSpec.post enc Try.prog Try.f13 false true false false) := by
  refine returnsInHanded_of_change_sized (C := Try.checked) own started (by kernel_rfl) Try.func13
    (ChangeSpec.witness6 (enc := enc) (C := Try.checked) false ⟨#[], #[.agg #[.slice none 0 0, .slice none 0 0, .slice none 0 0, .int .i64 0]], []⟩ 8 (by kernel_rfl) (by kernel_rfl) (by kernel_rfl) (by kernel_rfl)) ?_
  intro W base args ds gs before hval hW hcnd hsz _
  exact law_contract (P := Try.prog) tEok.1 tEok.2 (by kernel_rfl) (f := 13) (tAt 13) rfl rfl (ps := [⟨[.sl 30, .sl 30, .sl 30, .int .i64], 80, true, [(0, 46), (1, 46), (2, 46), (3, 3)]⟩]) (by kernel_rfl) (bt := 4) rfl rfl (by kernel_rfl) pure_FnExactIsExchangeDone (s := Rows.fnExactIsExchangeDoneSpec) rfl
    (fun ds h => by
      match ds, h with
      | [d0], _ => rfl) hval hW hsz
theorem over : Rows.fnExactIsExchangeDoneRow.holds Try.pinned (OpenSpec.ofChange Rows.fnExactIsExchangeDoneSpec) :=
  OpenClaim.holds_of_wide 13 Try.f13 rfl rfl rfl rfl rfl rfl rfl ⟨rfl, rfl, rfl, rfl, rfl⟩ rfl rfl rfl rfl rfl (by kernel_rfl) Try.func13 (by kernel_rfl)
    (of_decide_eq_true (by kernel_rfl)) (by unfold Func.isWrapper; first | (rw [if_pos (by decide +kernel)]; kernel_rfl) | (rw [if_neg (by decide +kernel)]; exact ⟨rfl, rfl⟩))
    (fun os started H enc _ => lifted os started H enc)
#print axioms over
end Go.Proofs.Ythjkpphjlmmkdaa.fnExactIsExchangeDone
namespace Go.Proofs.Ythjkpphjlmmkdaa
/-- The row, under a short name, for the claim. -/
theorem fnExactIsExchangeDone_holds : Rows.FnExactIsExchangeDoneSaid := fnExactIsExchangeDone.over
end Go.Proofs.Ythjkpphjlmmkdaa
