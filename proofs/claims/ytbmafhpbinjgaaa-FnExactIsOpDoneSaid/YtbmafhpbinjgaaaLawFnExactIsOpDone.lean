/- The law FnExactIsOpDone of the given program answers true for every input; no condition. -/
import Derived.Test.YtbmafhpbinjgaaaRows
import Derived.Test.YtbmafhpbinjgaaaLO
import Derived.Test.YtbmafhpbinjgaaaFac
namespace Go.Proofs.Ytbmafhpbinjgaaa.fnExactIsOpDone
open Go Go.ChangeShapes Go.WideShapes Go.ChangeAt Go.RowKit Go.Proofs.Ytbmafhpbinjgaaa.Vai
set_option maxRecDepth 100000
theorem lifted (os : Os) (started : os.Started) (H : Type) (enc : TypeId × Value → H) :
    ReturnsInHanded {} Try.checked os 18 .any (Rows.fnExactIsOpDoneSpec.pre6 enc Try.prog Try.f18 Rows.fnExactIsOpDoneRow.domain false) (Rows.fnExactIsOpDoneSpec.post enc Try.prog Try.f18 false true false false) := by
  refine returnsInHanded_of_change_sized (C := Try.checked) facOwn started (by kernel_rfl) Try.func18
    (ChangeSpec.witness6 (enc := enc) (C := Try.checked) false ⟨#[], #[.agg #[.int .i64 0, .slice none 0 0, .int .i64 0, .slice none 0 0, .slice none 0 0, .slice none 0 0, .slice none 0 0, .int .i64 0, .int .i64 0, .int .i64 0, .int .i64 0, .slice none 0 0, .int .i64 0, .int .i64 0, .slice none 0 0, .int .i64 0, .bool false]], []⟩ 8 (by kernel_rfl) (by kernel_rfl) (by kernel_rfl) (by kernel_rfl)) ?_
  intro W base args ds gs before hval hW hcnd hsz _
  exact law_contract (P := Try.prog) tEok.1 tEok.2 (by kernel_rfl) (f := 18) (tAt 18) rfl rfl (ps := [⟨[.int .i64, .sl 65, .int .i64, .sl 65, .sl 65, .sl 65, .sl 314, .int .i64, .int .i64, .int .i64, .int .i64, .sl 317, .int .i64, .int .i64, .sl 320, .int .i64, .bool], 248, true, [(0, 3), (1, 116), (11, 119), (14, 122)]⟩]) (by kernel_rfl) (bt := 4) rfl rfl (by kernel_rfl) pure_FnExactIsOpDone (s := Rows.fnExactIsOpDoneSpec) rfl
    (fun ds h => by
      match ds, h with
      | [d0], _ => rfl) hval hW hsz
theorem k0 : (Rows.fnExactIsOpDoneRow.wf (OpenSpec.ofChange Rows.fnExactIsOpDoneSpec)) = true := by kernel_rfl
theorem k3 : (Try.f18.params.all (Try.prog.readableRec ·)) = true := by kernel_rfl
theorem k4 : (namedTie Try.prog Rows.fnExactIsOpDoneRow.named Rows.fnExactIsOpDoneSpec.vars) = true := by kernel_rfl
theorem k5 : ((Rows.fnExactIsOpDoneRow.stops == [])) = true := by kernel_rfl
theorem k7 : ((Rows.fnExactIsOpDoneRow.knobs == [])) = true := by kernel_rfl
theorem k9 : ((Rows.fnExactIsOpDoneRow.inPlace == Try.prog.inPlace 18)) = true := by kernel_rfl
theorem k10 : ((Rows.fnExactIsOpDoneRow.unfollowed == Try.prog.unfollowed 18)) = true := by kernel_rfl
theorem k11 : ((Rows.fnExactIsOpDoneRow.recurses == Try.prog.recurses 18)) = true := by kernel_rfl
theorem k12 : ((Rows.fnExactIsOpDoneRow.named == Try.prog.varsNamed 18)) = true := by kernel_rfl
theorem k13 : ((Rows.fnExactIsOpDoneRow.maps == (Try.f18.params.toList ++ Rows.fnExactIsOpDoneSpec.plain.varTypes Try.prog).any (Try.prog.mapsRec ·))) = true := by kernel_rfl
theorem k14 : ((Rows.fnExactIsOpDoneRow.ifaces == (Try.f18.params.toList ++ Rows.fnExactIsOpDoneSpec.plain.varTypes Try.prog).any (Try.prog.ifacesRec ·))) = true := by kernel_rfl
theorem k15 : ((Rows.fnExactIsOpDoneRow.mapsOut == Try.prog.mapsAmong Try.f18.resultTypes.toList)) = true := by kernel_rfl
theorem k16 : ((Rows.fnExactIsOpDoneRow.loops == (Try.f18.params.toList ++ Rows.fnExactIsOpDoneSpec.plain.varTypes Try.prog).any (Try.prog.loopsFrom ·))) = true := by kernel_rfl
theorem k17 : ((Rows.fnExactIsOpDoneRow.wideKeys == (Try.f18.params.toList ++ Rows.fnExactIsOpDoneSpec.plain.varTypes Try.prog ++ Try.f18.resultTypes.toList).any (Try.prog.wideKeysFrom ·))) = true := by kernel_rfl
theorem k18 : (Rows.fnExactIsOpDoneSpec.vars.all (Try.prog.varReadable ·)) = true := by kernel_rfl
theorem k19 : (Try.f18.resultTypes.all (fun t => Try.prog.readableRec t && decide (t < Try.prog.types.size))) = true := by kernel_rfl
theorem k20 : ((Rows.fnExactIsOpDoneRow.ifacesOut == Try.f18.resultTypes.toList.any (Try.prog.ifacesRec ·))) = true := by kernel_rfl
theorem k21 : ((Rows.fnExactIsOpDoneRow.loopsOut == Try.f18.resultTypes.toList.any (Try.prog.loopsFrom ·))) = true := by kernel_rfl
theorem k22 : ((Rows.fnExactIsOpDoneRow.plainKeys == Try.prog.plainKeys)) = true := by kernel_rfl
theorem k23 : (Rows.fnExactIsOpDoneRow.shortTexts.isNone) = true := by kernel_rfl
theorem k26 : ((Rows.fnExactIsOpDoneRow.lifted == Try.prog.liftsFinal)) = true := by rw [facLifts]; kernel_rfl
theorem k27 : ((Try.prog.make == some Rows.fnExactIsOpDoneRow.make)) = true := by rw [facMake]; kernel_rfl
theorem k28 : ((Rows.fnExactIsOpDoneRow.kinds == (if Rows.fnExactIsOpDoneRow.domain.isEmpty then [] else Try.f18.params.toList.map fun t => match Try.prog.underlying t with | some (.int k) => some k | _ => none))) = true := by kernel_rfl
theorem k29 : ((Rows.fnExactIsOpDoneRow.pinned == Rows.fnExactIsOpDoneRow.pinnedBy)) = true := by kernel_rfl
theorem k30 : ((Rows.fnExactIsOpDoneRow.veiled == (Try.f18.params.toList ++ Rows.fnExactIsOpDoneSpec.plain.varTypes Try.prog ++ Try.f18.resultTypes.toList).any (Try.prog.veiledRec ·))) = true := by kernel_rfl
theorem k31 : (Rows.fnExactIsOpDoneRow.veiledFits Try.prog Try.f18.params.toList (Try.f18.params.toList ++ Rows.fnExactIsOpDoneSpec.plain.varTypes Try.prog ++ Try.f18.resultTypes.toList)) = true := by kernel_rfl
theorem closed : joinedFacts Try.pinned.checked.prog 18 Try.f18 Rows.fnExactIsOpDoneSpec Rows.fnExactIsOpDoneRow = true := (and2 (and2 (and2 (and2 (and2 (and2 (and2 (and2 (and2 (and2 (and2 (and2 (and2 (and2 (and2 (and2 (and2 (and2 (and2 (and2 (and2 (and2 (and2 (and2 (and2 (and2 (and2 (and2 (and2 (and2 (and2 k0 fac_laidOut) fac_maps) k3) k4) k5) fac_stops) k7) fac_knobs) k9) k10) k11) k12) k13) k14) k15) k16) k17) k18) k19) k20) k21) k22) k23) fac_heard) facEnter) k26) k27) k28) k29) k30) k31)
theorem named : Try.pinned.checked.prog.funcNamed Rows.fnExactIsOpDoneRow.func = some 18 := by kernel_rfl
theorem over : Rows.fnExactIsOpDoneRow.holds Try.pinned (OpenSpec.ofChange Rows.fnExactIsOpDoneSpec) :=
  OpenClaim.holds_of_wide 18 Try.f18 rfl rfl rfl rfl rfl rfl rfl ⟨rfl, rfl, rfl, rfl, rfl⟩ rfl rfl rfl rfl rfl named Try.func18 closed
    (of_decide_eq_true (by kernel_rfl)) (by unfold Func.isWrapper; first | (rw [if_pos (by decide +kernel)]; kernel_rfl) | (rw [if_neg (by decide +kernel)]; exact ⟨rfl, rfl⟩))
    (fun os started H enc _ => lifted os started H enc)
#print axioms over
end Go.Proofs.Ytbmafhpbinjgaaa.fnExactIsOpDone
namespace Go.Proofs.Ytbmafhpbinjgaaa
/-- The row, under a short name, for the claim. -/
theorem fnExactIsOpDone_holds : Rows.FnExactIsOpDoneSaid := fnExactIsOpDone.over
end Go.Proofs.Ytbmafhpbinjgaaa
