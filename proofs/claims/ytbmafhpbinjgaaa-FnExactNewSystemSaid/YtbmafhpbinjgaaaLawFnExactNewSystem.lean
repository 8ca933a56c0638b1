/- The law FnExactNewSystem of the given program answers true for every input; no condition. -/
import Derived.Test.YtbmafhpbinjgaaaRows
import Derived.Test.YtbmafhpbinjgaaaLN
import Derived.Test.YtbmafhpbinjgaaaFac
namespace Go.Proofs.Ytbmafhpbinjgaaa.fnExactNewSystem
open Go Go.ChangeShapes Go.WideShapes Go.ChangeAt Go.RowKit Go.Proofs.Ytbmafhpbinjgaaa.Vai
set_option maxRecDepth 100000
theorem lifted (os : Os) (started : os.Started) (H : Type) (enc : TypeId × Value → H) :
    ReturnsInHanded {} Try.checked os 24 .any (Rows.fnExactNewSystemSpec.pre6 enc Try.prog Try.f24 Rows.fnExactNewSystemRow.domain false) (Rows.fnExactNewSystemSpec.post enc Try.prog Try.f24 false true false false) := by
  refine returnsInHanded_of_change_sized (C := Try.checked) facOwn started (by kernel_rfl) Try.func24
    (ChangeSpec.witness6 (enc := enc) (C := Try.checked) false ⟨#[], #[.int .i64 0], []⟩ 8 (by kernel_rfl) (by kernel_rfl) (by kernel_rfl) (by kernel_rfl)) ?_
  intro W base args ds gs before hval hW hcnd hsz _
  exact law_contract (P := Try.prog) tEok.1 tEok.2 (by kernel_rfl) (f := 24) (tAt 24) rfl rfl (ps := [⟨[.int .i64], 8, false, []⟩]) (by kernel_rfl) (bt := 4) rfl rfl (by kernel_rfl) pure_FnExactNewSystem (s := Rows.fnExactNewSystemSpec) rfl
    (fun ds h => by
      match ds, h with
      | [d0], _ => rfl) hval hW hsz
theorem k0 : (Rows.fnExactNewSystemRow.wf (OpenSpec.ofChange Rows.fnExactNewSystemSpec)) = true := by kernel_rfl
theorem k3 : (Try.f24.params.all (Try.prog.readableRec ·)) = true := by kernel_rfl
theorem k4 : (namedTie Try.prog Rows.fnExactNewSystemRow.named Rows.fnExactNewSystemSpec.vars) = true := by kernel_rfl
theorem k5 : ((Rows.fnExactNewSystemRow.stops == [])) = true := by kernel_rfl
theorem k7 : ((Rows.fnExactNewSystemRow.knobs == [])) = true := by kernel_rfl
theorem k9 : ((Rows.fnExactNewSystemRow.inPlace == Try.prog.inPlace 24)) = true := by kernel_rfl
theorem k10 : ((Rows.fnExactNewSystemRow.unfollowed == Try.prog.unfollowed 24)) = true := by kernel_rfl
theorem k11 : ((Rows.fnExactNewSystemRow.recurses == Try.prog.recurses 24)) = true := by kernel_rfl
theorem k12 : ((Rows.fnExactNewSystemRow.named == Try.prog.varsNamed 24)) = true := by kernel_rfl
theorem k13 : ((Rows.fnExactNewSystemRow.maps == (Try.f24.params.toList ++ Rows.fnExactNewSystemSpec.plain.varTypes Try.prog).any (Try.prog.mapsRec ·))) = true := by kernel_rfl
theorem k14 : ((Rows.fnExactNewSystemRow.ifaces == (Try.f24.params.toList ++ Rows.fnExactNewSystemSpec.plain.varTypes Try.prog).any (Try.prog.ifacesRec ·))) = true := by kernel_rfl
theorem k15 : ((Rows.fnExactNewSystemRow.mapsOut == Try.prog.mapsAmong Try.f24.resultTypes.toList)) = true := by kernel_rfl
theorem k16 : ((Rows.fnExactNewSystemRow.loops == (Try.f24.params.toList ++ Rows.fnExactNewSystemSpec.plain.varTypes Try.prog).any (Try.prog.loopsFrom ·))) = true := by kernel_rfl
theorem k17 : ((Rows.fnExactNewSystemRow.wideKeys == (Try.f24.params.toList ++ Rows.fnExactNewSystemSpec.plain.varTypes Try.prog ++ Try.f24.resultTypes.toList).any (Try.prog.wideKeysFrom ·))) = true := by kernel_rfl
theorem k18 : (Rows.fnExactNewSystemSpec.vars.all (Try.prog.varReadable ·)) = true := by kernel_rfl
theorem k19 : (Try.f24.resultTypes.all (fun t => Try.prog.readableRec t && decide (t < Try.prog.types.size))) = true := by kernel_rfl
theorem k20 : ((Rows.fnExactNewSystemRow.ifacesOut == Try.f24.resultTypes.toList.any (Try.prog.ifacesRec ·))) = true := by kernel_rfl
theorem k21 : ((Rows.fnExactNewSystemRow.loopsOut == Try.f24.resultTypes.toList.any (Try.prog.loopsFrom ·))) = true := by kernel_rfl
theorem k22 : ((Rows.fnExactNewSystemRow.plainKeys == Try.prog.plainKeys)) = true := by kernel_rfl
theorem k23 : (Rows.fnExactNewSystemRow.shortTexts.isNone) = true := by kernel_rfl
theorem k26 : ((Rows.fnExactNewSystemRow.lifted == Try.prog.liftsFinal)) = true := by rw [facLifts]; kernel_rfl
theorem k27 : ((Try.prog.make == some Rows.fnExactNewSystemRow.make)) = true := by rw [facMake]; kernel_rfl
theorem k28 : ((Rows.fnExactNewSystemRow.kinds == (if Rows.fnExactNewSystemRow.domain.isEmpty then [] else Try.f24.params.toList.map fun t => match Try.prog.underlying t with | some (.int k) => some k | _ => none))) = true := by kernel_rfl
theorem k29 : ((Rows.fnExactNewSystemRow.pinned == Rows.fnExactNewSystemRow.pinnedBy)) = true := by kernel_rfl
theorem k30 : ((Rows.fnExactNewSystemRow.veiled == (Try.f24.params.toList ++ Rows.fnExactNewSystemSpec.plain.varTypes Try.prog ++ Try.f24.resultTypes.toList).any (Try.prog.veiledRec ·))) = true := by kernel_rfl
theorem k31 : (Rows.fnExactNewSystemRow.veiledFits Try.prog Try.f24.params.toList (Try.f24.params.toList ++ Rows.fnExactNewSystemSpec.plain.varTypes Try.prog ++ Try.f24.resultTypes.toList)) = true := by kernel_rfl
theorem closed : joinedFacts Try.pinned.checked.prog 24 Try.f24 Rows.fnExactNewSystemSpec Rows.fnExactNewSystemRow = true := (and2 (and2 (and2 (and2 (and2 (and2 (and2 (and2 (and2 (and2 (and2 (and2 (and2 (and2 (and2 (and2 (and2 (and2 (and2 (and2 (and2 (and2 (and2 (and2 (and2 (and2 (and2 (and2 (and2 (and2 (and2 k0 fac_laidOut) fac_maps) k3) k4) k5) fac_stops) k7) fac_knobs) k9) k10) k11) k12) k13) k14) k15) k16) k17) k18) k19) k20) k21) k22) k23) fac_heard) facEnter) k26) k27) k28) k29) k30) k31)
theorem named : Try.pinned.checked.prog.funcNamed Rows.fnExactNewSystemRow.func = some 24 := by kernel_rfl
theorem over : Rows.fnExactNewSystemRow.holds Try.pinned (OpenSpec.ofChange Rows.fnExactNewSystemSpec) :=
  OpenClaim.holds_of_wide 24 Try.f24 rfl rfl rfl rfl rfl rfl rfl ⟨rfl, rfl, rfl, rfl, rfl⟩ rfl rfl rfl rfl rfl named Try.func24 closed
    (of_decide_eq_true (by kernel_rfl)) (by unfold Func.isWrapper; first | (rw [if_pos (by decide +kernel)]; kernel_rfl) | (rw [if_neg (by decide +kernel)]; exact ⟨rfl, rfl⟩))
    (fun os started H enc _ => lifted os started H enc)
#print axioms over
end Go.Proofs.Ytbmafhpbinjgaaa.fnExactNewSystem
namespace Go.Proofs.Ytbmafhpbinjgaaa
/-- The row, under a short name, for the claim. -/
theorem fnExactNewSystem_holds : Rows.FnExactNewSystemSaid := fnExactNewSystem.over
end Go.Proofs.Ytbmafhpbinjgaaa
