/- The law FnExactRowRanks of the given program answers true for every input; no condition. -/
import Derived.Test.YthjkpphjlmmkdaaRows
import Derived.Test.YthjkpphjlmmkdaaPRowRanks
namespace Go.Proofs.Ythjkpphjlmmkdaa.fnExactRowRanks
open Go Go.ChangeShapes Go.WideShapes Go.ChangeAt Go.RowKit Go.Proofs.Ythjkpphjlmmkdaa.Vai
set_option maxRecDepth 100000
theorem own : ownKnob Try.prog.godebug = none := by kernel_rfl
theorem lifted (os : Os) (started : os.Started) (H : Type) (enc : TypeId × Value → H) :
    ReturnsInHanded {} Try.checked os 6 .any (Rows.fnExactRowRanksSpec.pre6 enc Try.prog Try.f6 Rows.fnExactRowRanksRow.domain false) (Rows.fnExactRowRanksSpec.post enc Try.prog Try.f6 false true false false) := by
  refine returnsInHanded_of_change_sized (C := Try.checked) own started (by kernel_rfl) Try.func6
    (ChangeSpec.witness6 (enc := enc) (C := Try.checked) false ⟨#[], #[.slice none 0 0], []⟩ 8 (by kernel_rfl) (by kernel_rfl) (by kernel_rfl) (by kernel_rfl)) ?_
  intro W base args ds gs before hval hW hcnd hsz _
  exact law_contract (P := Try.prog) tEok.1 tEok.2 (by kernel_rfl) (f := 6) (tAt 6) rfl rfl (ps := [⟨[.sl 25], 24, false, []⟩]) (by kernel_rfl) (bt := 4) rfl rfl (by kernel_rfl) pure_FnExactRowRanks (s := Rows.fnExactRowRanksSpec) rfl
    (fun ds h => by
      match ds, h with
      | [d0], _ => rfl) hval hW hsz
theorem over : Rows.fnExactRowRanksRow.holds Try.pinned (OpenSpec.ofChange Rows.fnExactRowRanksSpec) :=
  OpenClaim.holds_of_wide 6 Try.f6 rfl rfl rfl rfl rfl rfl rfl ⟨rfl, rfl, rfl, rfl, rfl⟩ rfl rfl rfl rfl rfl (by kernel_rfl) Try.func6 (by kernel_rfl)
    (of_decide_eq_true (by kernel_rfl)) (by unfold Func.isWrapper; first | (rw [if_pos (by decide +kernel)]; kernel_rfl) | (rw [if_neg (by decide +kernel)]; exact ⟨rfl, rfl⟩))
    (fun os started H enc _ => lifted os started H enc)
#print axioms over
end Go.Proofs.Ythjkpphjlmmkdaa.fnExactRowRanks
namespace Go.Proofs.Ythjkpphjlmmkdaa
/-- The row, under a short name, for the claim. -/
theorem fnExactRowRanks_holds : Rows.FnExactRowRanksSaid := fnExactRowRanks.over
end Go.Proofs.Ythjkpphjlmmkdaa
