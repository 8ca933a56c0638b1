/- The law FnExchangeSteps of the given program answers true for every input; no condition. -/
import Derived.Test.YtbmafhpbinjgaaaRows
import Derived.Test.YtbmafhpbinjgaaaLE
import Derived.Test.YtbmafhpbinjgaaaFac
namespace Go.Proofs.Ytbmafhpbinjgaaa.fnExchangeSteps
open Go Go.ChangeShapes Go.WideShapes Go.ChangeAt Go.RowKit Go.Proofs.Ytbmafhpbinjgaaa.Vai
set_option maxRecDepth 100000
theorem lifted (os : Os) (started : os.Started) (H : Type) (enc : TypeId × Value → H) :
    ReturnsInHanded {} Try.checked os 16 .any (Rows.fnExchangeStepsSpec.pre6 enc Try.prog Try.f16 Rows.fnExchangeStepsRow.domain false) (Rows.fnExchangeStepsSpec.post enc Try.prog Try.f16 false true false false) := by
  refine returnsInHanded_of_change_sized (C := Try.checked) facOwn started (by kernel_rfl) Try.func16
    (ChangeSpec.witness6 (enc := enc) (C := Try.checked) false ⟨#[], #[.slice none 0 0], []⟩ 8 (by kernel_rfl) (by kernel_rfl) (by kernel_rfl) (by kernel_rfl)) ?_
  intro W base args ds gs before hval hW hcnd hsz _
  exact law_contract (P := Try.prog) tEok.1 tEok.2 (by kernel_rfl) (f := 16) (tAt 16) rfl rfl (ps := [⟨[.sl 5], 24, false, []⟩]) (by kernel_rfl) (bt := 4) rfl rfl (by kernel_rfl) pure_FnExchangeSteps (s := Rows.fnExchangeStepsSpec) rfl
    (fun ds h => by
      match ds, h with
      | [d0], _ => rfl) hval hW hsz
theorem k0 : (Rows.fnExchangeStepsRow.wf (OpenSpec.ofChange Rows.fnExchangeStepsSpec)) = true := by kernel_rfl
theorem k3 : (Try.f16.params.all (Try.prog.readableRec ·)) = true := by kernel_rfl
theorem k4 : (namedTie Try.prog Rows.fnExchangeStepsRow.named Rows.fnExchangeStepsSpec.vars) = true := by kernel_rfl
theorem k5 : ((Rows.fnExchangeStepsRow.stops == [])) = true := by kernel_rfl
theorem k7 : ((Rows.fnExchangeStepsRow.knobs == [])) = true := by kernel_rfl
theorem k9 : ((Rows.fnExchangeStepsRow.inPlace == Try.prog.inPlace 16)) = true := by kernel_rfl
theorem k10 : ((Rows.fnExchangeStepsRow.unfollowed == Try.prog.unfollowed 16)) = true := by kernel_rfl
theorem k11 : ((Rows.fnExchangeStepsRow.recurses == Try.prog.recurses 16)) = true := by kernel_rfl
theorem k12 : ((Rows.fnExchangeStepsRow.named == Try.prog.varsNamed 16)) = true := by kernel_rfl
theorem k13 : ((Rows.fnExchangeStepsRow.maps == (Try.f16.params.toList ++ Rows.fnExchangeStepsSpec.plain.varTypes Try.prog).any (Try.prog.mapsRec ·))) = true := by kernel_rfl
theorem k14 : ((Rows.fnExchangeStepsRow.ifaces == (Try.f16.params.toList ++ Rows.fnExchangeStepsSpec.plain.varTypes Try.prog).any (Try.prog.ifacesRec ·))) = true := by kernel_rfl
theorem k15 : ((Rows.fnExchangeStepsRow.mapsOut == Try.prog.mapsAmong Try.f16.resultTypes.toList)) = true := by kernel_rfl
theorem k16 : ((Rows.fnExchangeStepsRow.loops == (Try.f16.params.toList ++ Rows.fnExchangeStepsSpec.plain.varTypes Try.prog).any (Try.prog.loopsFrom ·))) = true := by kernel_rfl
theorem k17 : ((Rows.fnExchangeStepsRow.wideKeys == (Try.f16.params.toList ++ Rows.fnExchangeStepsSpec.plain.varTypes Try.prog ++ Try.f16.resultTypes.toList).any (Try.prog.wideKeysFrom ·))) = true := by kernel_rfl
theorem k18 : (Rows.fnExchangeStepsSpec.vars.all (Try.prog.varReadable ·)) = true := by kernel_rfl
theorem k19 : (Try.f16.resultTypes.all (fun t => Try.prog.readableRec t && decide (t < Try.prog.types.size))) = true := by kernel_rfl
theorem k20 : ((Rows.fnExchangeStepsRow.ifacesOut == Try.f16.resultTypes.toList.any (Try.prog.ifacesRec ·))) = true := by kernel_rfl
theorem k21 : ((Rows.fnExchangeStepsRow.loopsOut == Try.f16.resultTypes.toList.any (Try.prog.loopsFrom ·))) = true := by kernel_rfl
theorem k22 : ((Rows.fnExchangeStepsRow.plainKeys == Try.prog.plainKeys)) = true := by kernel_rfl
theorem k23 : (Rows.fnExchangeStepsRow.shortTexts.isNone) = true := by kernel_rfl
theorem k26 : ((Rows.fnExchangeStepsRow.lifted == Try.prog.liftsFinal)) = true := by rw [facLifts]; kernel_rfl
theorem k27 : ((Try.prog.make == some Rows.fnExchangeStepsRow.make)) = true := by rw [facMake]; kernel_rfl
theorem k28 : ((Rows.fnExchangeStepsRow.kinds == (if Rows.fnExchangeStepsRow.domain.isEmpty then [] else Try.f16.params.toList.map fun t => match Try.prog.underlying t with | some (.int k) => some k | _ => none))) = true := by kernel_rfl
theorem k29 : ((Rows.fnExchangeStepsRow.pinned == Rows.fnExchangeStepsRow.pinnedBy)) = true := by kernel_rfl
theorem k30 : ((Rows.fnExchangeStepsRow.veiled == (Try.f16.params.toList ++ Rows.fnExchangeStepsSpec.plain.varTypes Try.prog ++ Try.f16.resultTypes.toList).any (Try.prog.veiledRec ·))) = true := by kernel_rfl
theorem k31 : (Rows.fnExchangeStepsRow.veiledFits Try.prog Try.f16.params.toList (Try.f16.params.toList ++ Rows.fnExchangeStepsSpec.plain.varTypes Try.prog ++ Try.f16.resultTypes.toList)) = true := by kernel_rfl
theorem closed : joinedFacts Try.pinned.checked.prog 16 Try.f16 Rows.fnExchangeStepsSpec Rows.fnExchangeStepsRow = true := (and2 (and2 (and2 (and2 (and2 (and2 (and2 (and2 (and2 (and2 (and2 (and2 (and2 (and2 (and2 (and2 (and2 (and2 (and2 (and2 (and2 (and2 (and2 (and2 (and2 (and2 (and2 (and2 (and2 (and2 (and2 k0 fac_laidOut) fac_maps) k3) k4) k5) fac_stops) k7) fac_knobs) k9) k10) k11) k12) k13) k14) k15) k16) k17) k18) k19) k20) k21) k22) k23) fac_heard) facEnter) k26) k27) k28) k29) k30) k31)
theorem named : Try.pinned.checked.prog.funcNamed Rows.fnExchangeStepsRow.func = some 16 := by kernel_rfl
theorem over : Rows.fnExchangeStepsRow.holds Try.pinned (OpenSpec.ofChange Rows.fnExchangeStepsSpec) :=
  OpenClaim.holds_of_wide 16 Try.f16 rfl rfl rfl rfl rfl rfl rfl ⟨rfl, rfl, rfl, rfl, rfl⟩ rfl rfl rfl rfl rfl named Try.func16 closed
    (of_decide_eq_true (by kernel_rfl)) (by unfold Func.isWrapper; first | (rw [if_pos (by decide +kernel)]; kernel_rfl) | (rw [if_neg (by decide +kernel)]; exact ⟨rfl, rfl⟩))
    (fun os started H enc _ => lifted os started H enc)
#print axioms over
end Go.Proofs.Ytbmafhpbinjgaaa.fnExchangeSteps
namespace Go.Proofs.Ytbmafhpbinjgaaa
/-- The row, under a short name, for the claim. -/
theorem fnExchangeSteps_holds : Rows.FnExchangeStepsSaid := fnExchangeSteps.over
end Go.Proofs.Ytbmafhpbinjgaaa
