/- The law FnExactAppendRecord of the given program answers true for every input; no condition. -/
import Derived.Test.YtbmafhpbinjgaaaRows
import Derived.Test.YtbmafhpbinjgaaaLJ
import Derived.Test.YtbmafhpbinjgaaaFac
namespace Go.Proofs.Ytbmafhpbinjgaaa.fnExactAppendRecord
open Go Go.ChangeShapes Go.WideShapes Go.ChangeAt Go.RowKit Go.Proofs.Ytbmafhpbinjgaaa.Vai
set_option maxRecDepth 100000
theorem lifted (os : Os) (started : os.Started) (H : Type) (enc : TypeId × Value → H) :
    ReturnsInHanded {} Try.checked os 4 .any (Rows.fnExactAppendRecordSpec.pre6 enc Try.prog Try.f4 Rows.fnExactAppendRecordRow.domain false) (Rows.fnExactAppendRecordSpec.post enc Try.prog Try.f4 false true false false) := by
  refine returnsInHanded_of_change_sized (C := Try.checked) facOwn started (by kernel_rfl) Try.func4
    (ChangeSpec.witness6 (enc := enc) (C := Try.checked) false ⟨#[], #[.string ByteArray.empty, .string ByteArray.empty], []⟩ 8 (by kernel_rfl) (by kernel_rfl) (by kernel_rfl) (by kernel_rfl)) ?_
  intro W base args ds gs before hval hW hcnd hsz _
  exact law_contract (P := Try.prog) tEok.1 tEok.2 (by kernel_rfl) (f := 4) (tAt 4) rfl rfl (ps := [⟨[.str], 16, false, []⟩, ⟨[.str], 16, false, []⟩]) (by kernel_rfl) (bt := 4) rfl rfl (by kernel_rfl) pure_FnExactAppendRecord (s := Rows.fnExactAppendRecordSpec) rfl
    (fun ds h => by
      match ds, h with
      | [d0, d1], _ => rfl) hval hW hsz
theorem k0 : (Rows.fnExactAppendRecordRow.wf (OpenSpec.ofChange Rows.fnExactAppendRecordSpec)) = true := by kernel_rfl
theorem k3 : (Try.f4.params.all (Try.prog.readableRec ·)) = true := by kernel_rfl
theorem k4 : (namedTie Try.prog Rows.fnExactAppendRecordRow.named Rows.fnExactAppendRecordSpec.vars) = true := by kernel_rfl
theorem k5 : ((Rows.fnExactAppendRecordRow.stops == [])) = true := by kernel_rfl
theorem k7 : ((Rows.fnExactAppendRecordRow.knobs == [])) = true := by kernel_rfl
theorem k9 : ((Rows.fnExactAppendRecordRow.inPlace == Try.prog.inPlace 4)) = true := by kernel_rfl
theorem k10 : ((Rows.fnExactAppendRecordRow.unfollowed == Try.prog.unfollowed 4)) = true := by kernel_rfl
theorem k11 : ((Rows.fnExactAppendRecordRow.recurses == Try.prog.recurses 4)) = true := by kernel_rfl
theorem k12 : ((Rows.fnExactAppendRecordRow.named == Try.prog.varsNamed 4)) = true := by kernel_rfl
theorem k13 : ((Rows.fnExactAppendRecordRow.maps == (Try.f4.params.toList ++ Rows.fnExactAppendRecordSpec.plain.varTypes Try.prog).any (Try.prog.mapsRec ·))) = true := by kernel_rfl
theorem k14 : ((Rows.fnExactAppendRecordRow.ifaces == (Try.f4.params.toList ++ Rows.fnExactAppendRecordSpec.plain.varTypes Try.prog).any (Try.prog.ifacesRec ·))) = true := by kernel_rfl
theorem k15 : ((Rows.fnExactAppendRecordRow.mapsOut == Try.prog.mapsAmong Try.f4.resultTypes.toList)) = true := by kernel_rfl
theorem k16 : ((Rows.fnExactAppendRecordRow.loops == (Try.f4.params.toList ++ Rows.fnExactAppendRecordSpec.plain.varTypes Try.prog).any (Try.prog.loopsFrom ·))) = true := by kernel_rfl
theorem k17 : ((Rows.fnExactAppendRecordRow.wideKeys == (Try.f4.params.toList ++ Rows.fnExactAppendRecordSpec.plain.varTypes Try.prog ++ Try.f4.resultTypes.toList).any (Try.prog.wideKeysFrom ·))) = true := by kernel_rfl
theorem k18 : (Rows.fnExactAppendRecordSpec.vars.all (Try.prog.varReadable ·)) = true := by kernel_rfl
theorem k19 : (Try.f4.resultTypes.all (fun t => Try.prog.readableRec t && decide (t < Try.prog.types.size))) = true := by kernel_rfl
theorem k20 : ((Rows.fnExactAppendRecordRow.ifacesOut == Try.f4.resultTypes.toList.any (Try.prog.ifacesRec ·))) = true := by kernel_rfl
theorem k21 : ((Rows.fnExactAppendRecordRow.loopsOut == Try.f4.resultTypes.toList.any (Try.prog.loopsFrom ·))) = true := by kernel_rfl
theorem k22 : ((Rows.fnExactAppendRecordRow.plainKeys == Try.prog.plainKeys)) = true := by kernel_rfl
theorem k23 : (Rows.fnExactAppendRecordRow.shortTexts.isNone) = true := by kernel_rfl
theorem k26 : ((Rows.fnExactAppendRecordRow.lifted == Try.prog.liftsFinal)) = true := by rw [facLifts]; kernel_rfl
theorem k27 : ((Try.prog.make == some Rows.fnExactAppendRecordRow.make)) = true := by rw [facMake]; kernel_rfl
theorem k28 : ((Rows.fnExactAppendRecordRow.kinds == (if Rows.fnExactAppendRecordRow.domain.isEmpty then [] else Try.f4.params.toList.map fun t => match Try.prog.underlying t with | some (.int k) => some k | _ => none))) = true := by kernel_rfl
theorem k29 : ((Rows.fnExactAppendRecordRow.pinned == Rows.fnExactAppendRecordRow.pinnedBy)) = true := by kernel_rfl
theorem k30 : ((Rows.fnExactAppendRecordRow.veiled == (Try.f4.params.toList ++ Rows.fnExactAppendRecordSpec.plain.varTypes Try.prog ++ Try.f4.resultTypes.toList).any (Try.prog.veiledRec ·))) = true := by kernel_rfl
theorem k31 : (Rows.fnExactAppendRecordRow.veiledFits Try.prog Try.f4.params.toList (Try.f4.params.toList ++ Rows.fnExactAppendRecordSpec.plain.varTypes Try.prog ++ Try.f4.resultTypes.toList)) = true := by kernel_rfl
theorem closed : joinedFacts Try.pinned.checked.prog 4 Try.f4 Rows.fnExactAppendRecordSpec Rows.fnExactAppendRecordRow = true := (and2 (and2 (and2 (and2 (and2 (and2 (and2 (and2 (and2 (and2 (and2 (and2 (and2 (and2 (and2 (and2 (and2 (and2 (and2 (and2 (and2 (and2 (and2 (and2 (and2 (and2 (and2 (and2 (and2 (and2 (and2 k0 fac_laidOut) fac_maps) k3) k4) k5) fac_stops) k7) fac_knobs) k9) k10) k11) k12) k13) k14) k15) k16) k17) k18) k19) k20) k21) k22) k23) fac_heard) facEnter) k26) k27) k28) k29) k30) k31)
theorem named : Try.pinned.checked.prog.funcNamed Rows.fnExactAppendRecordRow.func = some 4 := by kernel_rfl
theorem over : Rows.fnExactAppendRecordRow.holds Try.pinned (OpenSpec.ofChange Rows.fnExactAppendRecordSpec) :=
  OpenClaim.holds_of_wide 4 Try.f4 rfl rfl rfl rfl rfl rfl rfl ⟨rfl, rfl, rfl, rfl, rfl⟩ rfl rfl rfl rfl rfl named Try.func4 closed
    (of_decide_eq_true (by kernel_rfl)) (by unfold Func.isWrapper; first | (rw [if_pos (by decide +kernel)]; kernel_rfl) | (rw [if_neg (by decide +kernel)]; exact ⟨rfl, rfl⟩))
    (fun os started H enc _ => lifted os started H enc)
#print axioms over
end Go.Proofs.Ytbmafhpbinjgaaa.fnExactAppendRecord
namespace Go.Proofs.Ytbmafhpbinjgaaa
/-- The row, under a short name, for the claim. -/
theorem fnExactAppendRecord_holds : Rows.FnExactAppendRecordSaid := fnExactAppendRecord.over
end Go.Proofs.Ytbmafhpbinjgaaa
