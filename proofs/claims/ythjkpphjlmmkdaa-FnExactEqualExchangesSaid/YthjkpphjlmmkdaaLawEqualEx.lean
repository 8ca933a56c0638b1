/- The law FnExactEqualExchanges of the given program answers true for every input; no condition. -/
import Derived.Test.YthjkpphjlmmkdaaRows
import Derived.Test.YthjkpphjlmmkdaaPEqualEx
import Derived.Test.YthjkpphjlmmkdaaVaiRow
namespace Go.Proofs.Ythjkpphjlmmkdaa.fnExactEqualExchanges
open Go Go.ChangeShapes Go.WideShapes Go.ChangeAt Go.RowKit Go.Proofs.Ythjkpphjlmmkdaa.Vai
set_option maxRecDepth 100000
theorem own : ownKnob Try.prog.godebug = none := by kernel_rfl
theorem lifted (os : Os) (started : os.Started) (H : Type) (enc : TypeId × Value → H) :
    ReturnsInHanded {} Try.checked os 8 .any (Rows.fnExactEqualExchangesSpec.pre6 enc Try.prog Try.f8 Rows.fnExactEqualExchangesRow.domain false) (Rows.fnExactEqualExchangesSpec.post enc Try.prog Try.f8 false true false false) := by
  refine returnsInHanded_of_change_sized (C := Try.checked) own started (by kernel_rfl) Try.func8
    (ChangeSpec.witness6 (enc := enc) (C := Try.checked) false ⟨#[], #[.agg #[.slice none 0 0, .slice none 0 0, .slice none 0 0, .int .i64 0], .agg #[.slice none 0 0, .slice none 0 0, .slice none 0 0, .int .i64 0]], []⟩ 8 (by kernel_rfl) (by kernel_rfl) (by kernel_rfl) (by kernel_rfl)) ?_
  intro W base args ds gs before hval hW hcnd hsz _
  exact law_contract (P := Try.prog) tEok.1 tEok.2 (by kernel_rfl) (f := 8) (tAt 8) rfl rfl (ps := [⟨[.sl 30, .sl 30, .sl 30, .int .i64], 80, true, [(0, 46), (1, 46), (2, 46), (3, 3)]⟩, ⟨[.sl 30, .sl 30, .sl 30, .int .i64], 80, true, [(0, 46), (1, 46), (2, 46), (3, 3)]⟩]) (by kernel_rfl) (bt := 4) rfl rfl (by kernel_rfl) pure_FnExactEqualExchanges (s := Rows.fnExactEqualExchangesSpec) rfl
    (fun ds h => by
      match ds, h with
      | [d0, d1], _ => rfl) hval hW hsz
theorem over : Rows.fnExactEqualExchangesRow.holds Try.pinned (OpenSpec.ofChange Rows.fnExactEqualExchangesSpec) :=
  OpenClaim.holds_of_wide 8 Try.f8 rfl rfl rfl rfl rfl rfl rfl ⟨rfl, rfl, rfl, rfl, rfl⟩ rfl rfl rfl rfl rfl (by kernel_rfl) Try.func8 (by kernel_rfl)
    (of_decide_eq_true (by kernel_rfl)) (by unfold Func.isWrapper; first | (rw [if_pos (by decide +kernel)]; kernel_rfl) | (rw [if_neg (by decide +kernel)]; exact ⟨rfl, rfl⟩))
    (fun os started H enc _ => lifted os started H enc)
#print axioms over
end Go.Proofs.Ythjkpphjlmmkdaa.fnExactEqualExchanges
namespace Go.Proofs.Ythjkpphjlmmkdaa
/-- The row, under a short name, for the claim. -/
theorem fnExactEqualExchanges_holds : Rows.FnExactEqualExchangesSaid := fnExactEqualExchanges.over
end Go.Proofs.Ythjkpphjlmmkdaa
