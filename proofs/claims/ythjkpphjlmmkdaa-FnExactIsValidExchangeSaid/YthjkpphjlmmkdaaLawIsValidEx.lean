/- The law FnExactIsValidExchange of the given program answers true for every input; no condition. -/
import Derived.Test.YthjkpphjlmmkdaaRows
import Derived.Test.YthjkpphjlmmkdaaPIsValidExchange
import Derived.Test.YthjkpphjlmmkdaaVaiRow
namespace Go.Proofs.Ythjkpphjlmmkdaa.fnExactIsValidExchange
open Go Go.ChangeShapes Go.WideShapes Go.ChangeAt Go.RowKit Go.Proofs.Ythjkpphjlmmkdaa.Vai
set_option maxRecDepth 100000
theorem own : ownKnob Try.prog.godebug = none := by kernel_rfl
theorem lifted (os : Os) (started : os.Started) (H : Type) (enc : TypeId × Value → H) :
    ReturnsInHanded {} Try.checked os 12 .any (Rows.fnExactIsValidExchangeSpec.pre6 enc Try.prog Try.f12 Rows.fnExactIsValidExchangeRow.domain false) (Rows.fnExactIsValidExchangeSpec.post enc Try.prog Try.f12 false true false false) := by
  refine returnsInHanded_of_change_sized (C := Try.checked) own started (by kernel_rfl) Try.func12
    (ChangeSpec.witness6 (enc := enc) (C := Try.checked) false ⟨#[], #[.agg #[.slice none 0 0, .slice none 0 0, .slice none 0 0, .int .i64 0]], []⟩ 8 (by kernel_rfl) (by kernel_rfl) (by kernel_rfl) (by kernel_rfl)) ?_
  intro W base args ds gs before hval hW hcnd hsz _
  exact law_contract (P := Try.prog) tEok.1 tEok.2 (by kernel_rfl) (f := 12) (tAt 12) rfl rfl (ps := [⟨[.sl 30, .sl 30, .sl 30, .int .i64], 80, true, [(0, 46), (1, 46), (2, 46), (3, 3)]⟩]) (by kernel_rfl) (bt := 4) rfl rfl (by kernel_rfl) pure_FnExactIsValidExchange (s := Rows.fnExactIsValidExchangeSpec) rfl
    (fun ds h => by
      match ds, h with
      | [d0], _ => rfl) hval hW hsz
theorem over : Rows.fnExactIsValidExchangeRow.holds Try.pinned (OpenSpec.ofChange Rows.fnExactIsValidExchangeSpec) :=
  OpenClaim.holds_of_wide 12 Try.f12 rfl rfl rfl rfl rfl rfl rfl ⟨rfl, rfl, rfl, rfl, rfl⟩ rfl rfl rfl rfl rfl (by kernel_rfl) Try.func12 (by kernel_rfl)
    (of_decide_eq_true (by kernel_rfl)) (by unfold Func.isWrapper; first | (rw [if_pos (by decide +kernel)]; kernel_rfl) | (rw [if_neg (by decide +kernel)]; exact ⟨rfl, rfl⟩))
    (fun os started H enc _ => lifted os started H enc)
#print axioms over
end Go.Proofs.Ythjkpphjlmmkdaa.fnExactIsValidExchange
namespace Go.Proofs.Ythjkpphjlmmkdaa
/-- The row, under a short name, for the claim. -/
theorem fnExactIsValidExchange_holds : Rows.FnExactIsValidExchangeSaid := fnExactIsValidExchange.over
end Go.Proofs.Ythjkpphjlmmkdaa
