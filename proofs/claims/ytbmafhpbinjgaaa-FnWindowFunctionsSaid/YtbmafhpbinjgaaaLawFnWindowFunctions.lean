/- The law FnWindowFunctions of the given program answers true for every input; no condition. -/
import Derived.Test.YtbmafhpbinjgaaaRows
import Derived.Test.YtbmafhpbinjgaaaLW
import Derived.Test.YtbmafhpbinjgaaaFac
namespace Go.Proofs.Ytbmafhpbinjgaaa.fnWindowFunctions
open Go Go.ChangeShapes Go.WideShapes Go.ChangeAt Go.RowKit Go.Proofs.Ytbmafhpbinjgaaa.Vai
set_option maxRecDepth 100000
theorem lifted (os : Os) (started : os.Started) (H : Type) (enc : TypeId × Value → H) :
    ReturnsInHanded {} Try.checked os 6 .any (Rows.fnWindowFunctionsSpec.pre6 enc Try.prog Try.f6 Rows.fnWindowFunctionsRow.domain false) (Rows.fnWindowFunctionsSpec.post enc Try.prog Try.f6 false true false false) := by
  refine returnsInHanded_of_change_sized (C := Try.checked) facOwn started (by kernel_rfl) Try.func6
    (ChangeSpec.witness6 (enc := enc) (C := Try.checked) false ⟨#[], #[.slice none 0 0], []⟩ 8 (by kernel_rfl) (by kernel_rfl) (by kernel_rfl) (by kernel_rfl)) ?_
  intro W base args ds gs before hval hW hcnd hsz _
  exact law_contract (P := Try.prog) tEok.1 tEok.2 (by kernel_rfl) (f := 6) (tAt 6) rfl rfl (ps := [⟨[.sl 5], 24, false, []⟩]) (by kernel_rfl) (bt := 4) rfl rfl (by kernel_rfl) pure_FnWindowFunctions (s := Rows.fnWindowFunctionsSpec) rfl
    (fun ds h => by
      match ds, h with
      | [d0], _ => rfl) hval hW hsz
theorem k0 : (Rows.fnWindowFunctionsRow.wf (OpenSpec.ofChange Rows.fnWindowFunctionsSpec)) = true := by kernel_rfl
theorem k3 : (Try.f6.params.all (Try.prog.readableRec ·)) = true := by kernel_rfl
theorem k4 : (namedTie Try.prog Rows.fnWindowFunctionsRow.named Rows.fnWindowFunctionsSpec.vars) = true := by kernel_rfl
theorem k5 : ((Rows.fnWindowFunctionsRow.stops == [])) = true := by kernel_rfl
theorem k7 : ((Rows.fnWindowFunctionsRow.knobs == [])) = true := by kernel_rfl
theorem k9 : ((Rows.fnWindowFunctionsRow.inPlace == Try.prog.inPlace 6)) = true := by kernel_rfl
theorem k10 : ((Rows.fnWindowFunctionsRow.unfollowed == Try.prog.unfollowed 6)) = true := by kernel_rfl
theorem k11 : ((Rows.fnWindowFunctionsRow.recurses == Try.prog.recurses 6)) = true := by kernel_rfl
theorem k12 : ((Rows.fnWindowFunctionsRow.named == Try.prog.varsNamed 6)) = true := by kernel_rfl
theorem k13 : ((Rows.fnWindowFunctionsRow.maps == (Try.f6.params.toList ++ Rows.fnWindowFunctionsSpec.plain.varTypes Try.prog).any (Try.prog.mapsRec ·))) = true := by kernel_rfl
theorem k14 : ((Rows.fnWindowFunctionsRow.ifaces == (Try.f6.params.toList ++ Rows.fnWindowFunctionsSpec.plain.varTypes Try.prog).any (Try.prog.ifacesRec ·))) = true := by kernel_rfl
theorem k15 : ((Rows.fnWindowFunctionsRow.mapsOut == Try.prog.mapsAmong Try.f6.resultTypes.toList)) = true := by kernel_rfl
theorem k16 : ((Rows.fnWindowFunctionsRow.loops == (Try.f6.params.toList ++ Rows.fnWindowFunctionsSpec.plain.varTypes Try.prog).any (Try.prog.loopsFrom ·))) = true := by kernel_rfl
theorem k17 : ((Rows.fnWindowFunctionsRow.wideKeys == (Try.f6.params.toList ++ Rows.fnWindowFunctionsSpec.plain.varTypes Try.prog ++ Try.f6.resultTypes.toList).any (Try.prog.wideKeysFrom ·))) = true := by kernel_rfl
theorem k18 : (Rows.fnWindowFunctionsSpec.vars.all (Try.prog.varReadable ·)) = true := by kernel_rfl
theorem k19 : (Try.f6.resultTypes.all (fun t => Try.prog.readableRec t && decide (t < Try.prog.types.size))) = true := by kernel_rfl
theorem k20 : ((Rows.fnWindowFunctionsRow.ifacesOut == Try.f6.resultTypes.toList.any (Try.prog.ifacesRec ·))) = true := by kernel_rfl
theorem k21 : ((Rows.fnWindowFunctionsRow.loopsOut == Try.f6.resultTypes.toList.any (Try.prog.loopsFrom ·))) = true := by kernel_rfl
theorem k22 : ((Rows.fnWindowFunctionsRow.plainKeys == Try.prog.plainKeys)) = true := by kernel_rfl
theorem k23 : (Rows.fnWindowFunctionsRow.shortTexts.isNone) = true := by kernel_rfl
theorem k26 : ((Rows.fnWindowFunctionsRow.lifted == Try.prog.liftsFinal)) = true := by rw [facLifts]; kernel_rfl
theorem k27 : ((Try.prog.make == some Rows.fnWindowFunctionsRow.make)) = true := by rw [facMake]; kernel_rfl
theorem k28 : ((Rows.fnWindowFunctionsRow.kinds == (if Rows.fnWindowFunctionsRow.domain.isEmpty then [] else Try.f6.params.toList.map fun t => match Try.prog.underlying t with | some (.int k) => some k | _ => none))) = true := by kernel_rfl
theorem k29 : ((Rows.fnWindowFunctionsRow.pinned == Rows.fnWindowFunctionsRow.pinnedBy)) = true := by kernel_rfl
theorem k30 : ((Rows.fnWindowFunctionsRow.veiled == (Try.f6.params.toList ++ Rows.fnWindowFunctionsSpec.plain.varTypes Try.prog ++ Try.f6.resultTypes.toList).any (Try.prog.veiledRec ·))) = true := by kernel_rfl
theorem k31 : (Rows.fnWindowFunctionsRow.veiledFits Try.prog Try.f6.params.toList (Try.f6.params.toList ++ Rows.fnWindowFunctionsSpec.plain.varTypes Try.prog ++ Try.f6.resultTypes.toList)) = true := by kernel_rfl
theorem closed : joinedFacts Try.pinned.checked.prog 6 Try.f6 Rows.fnWindowFunctionsSpec Rows.fnWindowFunctionsRow = true := (and2 (and2 (and2 (and2 (and2 (and2 (and2 (and2 (and2 (and2 (and2 (and2 (and2 (and2 (and2 (and2 (and2 (and2 (and2 (and2 (and2 (and2 (and2 (and2 (and2 (and2 (and2 (and2 (and2 (and2 (and2 k0 fac_laidOut) fac_maps) k3) k4) k5) fac_stops) k7) fac_knobs) k9) k10) k11) k12) k13) k14) k15) k16) k17) k18) k19) k20) k21) k22) k23) fac_heard) facEnter) k26) k27) k28) k29) k30) k31)
theorem named : Try.pinned.checked.prog.funcNamed Rows.fnWindowFunctionsRow.func = some 6 := by kernel_rfl
theorem over : Rows.fnWindowFunctionsRow.holds Try.pinned (OpenSpec.ofChange Rows.fnWindowFunctionsSpec) :=
  OpenClaim.holds_of_wide 6 Try.f6 rfl rfl rfl rfl rfl rfl rfl ⟨rfl, rfl, rfl, rfl, rfl⟩ rfl rfl rfl rfl rfl named Try.func6 closed
    (of_decide_eq_true (by kernel_rfl)) (by unfold Func.isWrapper; first | (rw [if_pos (by decide +kernel)]; kernel_rfl) | (rw [if_neg (by decide +kernel)]; exact ⟨rfl, rfl⟩))
    (fun os started H enc _ => lifted os started H enc)
#print axioms over
end Go.Proofs.Ytbmafhpbinjgaaa.fnWindowFunctions
namespace Go.Proofs.Ytbmafhpbinjgaaa
/-- The row, under a short name, for the claim. -/
theorem fnWindowFunctions_holds : Rows.FnWindowFunctionsSaid := fnWindowFunctions.over
end Go.Proofs.Ytbmafhpbinjgaaa
