/- The law FnTopK of the given program answers true for every input; no condition. -/
import Derived.Test.YtbmafhpbinjgaaaRows
import Derived.Test.YtbmafhpbinjgaaaLT
import Derived.Test.YtbmafhpbinjgaaaFac
namespace Go.Proofs.Ytbmafhpbinjgaaa.fnTopK
open Go Go.ChangeShapes Go.WideShapes Go.ChangeAt Go.RowKit Go.Proofs.Ytbmafhpbinjgaaa.Vai
set_option maxRecDepth 100000
theorem lifted (os : Os) (started : os.Started) (H : Type) (enc : TypeId × Value → H) :
    ReturnsInHanded {} Try.checked os 10 .any (Rows.fnTopKSpec.pre6 enc Try.prog Try.f10 Rows.fnTopKRow.domain false) (Rows.fnTopKSpec.post enc Try.prog Try.f10 false true false false) := by
  refine returnsInHanded_of_change_sized (C := Try.checked) facOwn started (by kernel_rfl) Try.func10
    (ChangeSpec.witness6 (enc := enc) (C := Try.checked) false ⟨#[], #[.slice none 0 0], []⟩ 8 (by kernel_rfl) (by kernel_rfl) (by kernel_rfl) (by kernel_rfl)) ?_
  intro W base args ds gs before hval hW hcnd hsz _
  exact law_contract (P := Try.prog) tEok.1 tEok.2 (by kernel_rfl) (f := 10) (tAt 10) rfl rfl (ps := [⟨[.sl 5], 24, false, []⟩]) (by kernel_rfl) (bt := 4) rfl rfl (by kernel_rfl) pure_FnTopK (s := Rows.fnTopKSpec) rfl
    (fun ds h => by
      match ds, h with
      | [d0], _ => rfl) hval hW hsz
theorem k0 : (Rows.fnTopKRow.wf (OpenSpec.ofChange Rows.fnTopKSpec)) = true := by kernel_rfl
theorem k3 : (Try.f10.params.all (Try.prog.readableRec ·)) = true := by kernel_rfl
theorem k4 : (namedTie Try.prog Rows.fnTopKRow.named Rows.fnTopKSpec.vars) = true := by kernel_rfl
theorem k5 : ((Rows.fnTopKRow.stops == [])) = true := by kernel_rfl
theorem k7 : ((Rows.fnTopKRow.knobs == [])) = true := by kernel_rfl
theorem k9 : ((Rows.fnTopKRow.inPlace == Try.prog.inPlace 10)) = true := by kernel_rfl
theorem k10 : ((Rows.fnTopKRow.unfollowed == Try.prog.unfollowed 10)) = true := by kernel_rfl
theorem k11 : ((Rows.fnTopKRow.recurses == Try.prog.recurses 10)) = true := by kernel_rfl
theorem k12 : ((Rows.fnTopKRow.named == Try.prog.varsNamed 10)) = true := by kernel_rfl
theorem k13 : ((Rows.fnTopKRow.maps == (Try.f10.params.toList ++ Rows.fnTopKSpec.plain.varTypes Try.prog).any (Try.prog.mapsRec ·))) = true := by kernel_rfl
theorem k14 : ((Rows.fnTopKRow.ifaces == (Try.f10.params.toList ++ Rows.fnTopKSpec.plain.varTypes Try.prog).any (Try.prog.ifacesRec ·))) = true := by kernel_rfl
theorem k15 : ((Rows.fnTopKRow.mapsOut == Try.prog.mapsAmong Try.f10.resultTypes.toList)) = true := by kernel_rfl
theorem k16 : ((Rows.fnTopKRow.loops == (Try.f10.params.toList ++ Rows.fnTopKSpec.plain.varTypes Try.prog).any (Try.prog.loopsFrom ·))) = true := by kernel_rfl
theorem k17 : ((Rows.fnTopKRow.wideKeys == (Try.f10.params.toList ++ Rows.fnTopKSpec.plain.varTypes Try.prog ++ Try.f10.resultTypes.toList).any (Try.prog.wideKeysFrom ·))) = true := by kernel_rfl
theorem k18 : (Rows.fnTopKSpec.vars.all (Try.prog.varReadable ·)) = true := by kernel_rfl
theorem k19 : (Try.f10.resultTypes.all (fun t => Try.prog.readableRec t && decide (t < Try.prog.types.size))) = true := by kernel_rfl
theorem k20 : ((Rows.fnTopKRow.ifacesOut == Try.f10.resultTypes.toList.any (Try.prog.ifacesRec ·))) = true := by kernel_rfl
theorem k21 : ((Rows.fnTopKRow.loopsOut == Try.f10.resultTypes.toList.any (Try.prog.loopsFrom ·))) = true := by kernel_rfl
theorem k22 : ((Rows.fnTopKRow.plainKeys == Try.prog.plainKeys)) = true := by kernel_rfl
theorem k23 : (Rows.fnTopKRow.shortTexts.isNone) = true := by kernel_rfl
theorem k26 : ((Rows.fnTopKRow.lifted == Try.prog.liftsFinal)) = true := by rw [facLifts]; kernel_rfl
theorem k27 : ((Try.prog.make == some Rows.fnTopKRow.make)) = true := by rw [facMake]; kernel_rfl
theorem k28 : ((Rows.fnTopKRow.kinds == (if Rows.fnTopKRow.domain.isEmpty then [] else Try.f10.params.toList.map fun t => match Try.prog.underlying t with | some (.int k) => some k | _ => none))) = true := by kernel_rfl
theorem k29 : ((Rows.fnTopKRow.pinned == Rows.fnTopKRow.pinnedBy)) = true := by kernel_rfl
theorem k30 : ((Rows.fnTopKRow.veiled == (Try.f10.params.toList ++ Rows.fnTopKSpec.plain.varTypes Try.prog ++ Try.f10.resultTypes.toList).any (Try.prog.veiledRec ·))) = true := by kernel_rfl
theorem k31 : (Rows.fnTopKRow.veiledFits Try.prog Try.f10.params.toList (Try.f10.params.toList ++ Rows.fnTopKSpec.plain.varTypes Try.prog ++ Try.f10.resultTypes.toList)) = true := by kernel_rfl
theorem closed : joinedFacts Try.pinned.checked.prog 10 Try.f10 Rows.fnTopKSpec Rows.fnTopKRow = true := (and2 (and2 (and2 (and2 (and2 (and2 (and2 (and2 (and2 (and2 (and2 (and2 (and2 (and2 (and2 (and2 (and2 (and2 (and2 (and2 (and2 (and2 (and2 (and2 (and2 (and2 (and2 (and2 (and2 (and2 (and2 k0 fac_laidOut) fac_maps) k3) k4) k5) fac_stops) k7) fac_knobs) k9) k10) k11) k12) k13) k14) k15) k16) k17) k18) k19) k20) k21) k22) k23) fac_heard) facEnter) k26) k27) k28) k29) k30) k31)
theorem named : Try.pinned.checked.prog.funcNamed Rows.fnTopKRow.func = some 10 := by kernel_rfl
theorem over : Rows.fnTopKRow.holds Try.pinned (OpenSpec.ofChange Rows.fnTopKSpec) :=
  OpenClaim.holds_of_wide 10 Try.f10 rfl rfl rfl rfl rfl rfl rfl ⟨rfl, rfl, rfl, rfl, rfl⟩ rfl rfl rfl rfl rfl named Try.func10 closed
    (of_decide_eq_true (by kernel_rfl)) (by unfold Func.isWrapper; first | (rw [if_pos (by decide +kernel)]; kernel_rfl) | (rw [if_neg (by decide +kernel)]; exact ⟨rfl, rfl⟩))
    (fun os started H enc _ => lifted os started H enc)
#print axioms over
end Go.Proofs.Ytbmafhpbinjgaaa.fnTopK
namespace Go.Proofs.Ytbmafhpbinjgaaa
/-- The row, under a short name, for the claim. -/
theorem fnTopK_holds : Rows.FnTopKSaid := fnTopK.over
end Go.Proofs.Ytbmafhpbinjgaaa
