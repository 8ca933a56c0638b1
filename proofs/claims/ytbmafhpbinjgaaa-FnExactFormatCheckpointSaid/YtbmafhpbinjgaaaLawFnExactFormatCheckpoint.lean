/- The law FnExactFormatCheckpoint of the given program answers true for every input; no condition. -/
import Derived.Test.YtbmafhpbinjgaaaRows
import Derived.Test.YtbmafhpbinjgaaaPkFnExactFormatCheckpoint2
import Derived.Test.YtbmafhpbinjgaaaFac
namespace Go.Proofs.Ytbmafhpbinjgaaa.fnExactFormatCheckpoint
open Go Go.ChangeShapes Go.WideShapes Go.ChangeAt Go.RowKit Go.Proofs.Ytbmafhpbinjgaaa.Vai
set_option maxRecDepth 100000
theorem lifted (os : Os) (started : os.Started) (H : Type) (enc : TypeId × Value → H) :
    ReturnsInHanded {} Try.checked os 26 .any (Rows.fnExactFormatCheckpointSpec.pre6 enc Try.prog Try.f26 Rows.fnExactFormatCheckpointRow.domain false) (Rows.fnExactFormatCheckpointSpec.post enc Try.prog Try.f26 false true false false) := by
  refine returnsInHanded_of_change_sized (C := Try.checked) facOwn started (by kernel_rfl) Try.func26
    (ChangeSpec.witness6 (enc := enc) (C := Try.checked) false ⟨#[], #[.agg #[.slice none 0 0, .int .i64 0, .slice none 0 0, .slice none 0 0, .slice none 0 0, .slice none 0 0, .int .i64 0, .int .i64 0, .int .i64 0, .int .i64 0, .slice none 0 0]], []⟩ 8 (by kernel_rfl) (by kernel_rfl) (by kernel_rfl) (by kernel_rfl)) ?_
  intro W base args ds gs before hval hW hcnd hsz _
  exact law_contract (P := Try.prog) tEok.1 tEok.2 (by kernel_rfl) (f := 26) (tAt 26) rfl rfl (ps := [⟨[.sl 65, .int .i64, .sl 65, .sl 65, .sl 65, .sl 314, .int .i64, .int .i64, .int .i64, .int .i64, .sl 65], 184, true, [(0, 116), (10, 58)]⟩]) (by kernel_rfl) (bt := 4) rfl rfl (by kernel_rfl) pure_FnExactFormatCheckpoint (s := Rows.fnExactFormatCheckpointSpec) rfl
    (fun ds h => by
      match ds, h with
      | [d0], _ => rfl) hval hW hsz
theorem k0 : (Rows.fnExactFormatCheckpointRow.wf (OpenSpec.ofChange Rows.fnExactFormatCheckpointSpec)) = true := by kernel_rfl
theorem k3 : (Try.f26.params.all (Try.prog.readableRec ·)) = true := by kernel_rfl
theorem k4 : (namedTie Try.prog Rows.fnExactFormatCheckpointRow.named Rows.fnExactFormatCheckpointSpec.vars) = true := by kernel_rfl
theorem k5 : ((Rows.fnExactFormatCheckpointRow.stops == [])) = true := by kernel_rfl
theorem k7 : ((Rows.fnExactFormatCheckpointRow.knobs == [])) = true := by kernel_rfl
theorem k9 : ((Rows.fnExactFormatCheckpointRow.inPlace == Try.prog.inPlace 26)) = true := by kernel_rfl
theorem k10 : ((Rows.fnExactFormatCheckpointRow.unfollowed == Try.prog.unfollowed 26)) = true := by kernel_rfl
theorem k11 : ((Rows.fnExactFormatCheckpointRow.recurses == Try.prog.recurses 26)) = true := by kernel_rfl
theorem k12 : ((Rows.fnExactFormatCheckpointRow.named == Try.prog.varsNamed 26)) = true := by kernel_rfl
theorem k13 : ((Rows.fnExactFormatCheckpointRow.maps == (Try.f26.params.toList ++ Rows.fnExactFormatCheckpointSpec.plain.varTypes Try.prog).any (Try.prog.mapsRec ·))) = true := by kernel_rfl
theorem k14 : ((Rows.fnExactFormatCheckpointRow.ifaces == (Try.f26.params.toList ++ Rows.fnExactFormatCheckpointSpec.plain.varTypes Try.prog).any (Try.prog.ifacesRec ·))) = true := by kernel_rfl
theorem k15 : ((Rows.fnExactFormatCheckpointRow.mapsOut == Try.prog.mapsAmong Try.f26.resultTypes.toList)) = true := by kernel_rfl
theorem k16 : ((Rows.fnExactFormatCheckpointRow.loops == (Try.f26.params.toList ++ Rows.fnExactFormatCheckpointSpec.plain.varTypes Try.prog).any (Try.prog.loopsFrom ·))) = true := by kernel_rfl
theorem k17 : ((Rows.fnExactFormatCheckpointRow.wideKeys == (Try.f26.params.toList ++ Rows.fnExactFormatCheckpointSpec.plain.varTypes Try.prog ++ Try.f26.resultTypes.toList).any (Try.prog.wideKeysFrom ·))) = true := by kernel_rfl
theorem k18 : (Rows.fnExactFormatCheckpointSpec.vars.all (Try.prog.varReadable ·)) = true := by kernel_rfl
theorem k19 : (Try.f26.resultTypes.all (fun t => Try.prog.readableRec t && decide (t < Try.prog.types.size))) = true := by kernel_rfl
theorem k20 : ((Rows.fnExactFormatCheckpointRow.ifacesOut == Try.f26.resultTypes.toList.any (Try.prog.ifacesRec ·))) = true := by kernel_rfl
theorem k21 : ((Rows.fnExactFormatCheckpointRow.loopsOut == Try.f26.resultTypes.toList.any (Try.prog.loopsFrom ·))) = true := by kernel_rfl
theorem k22 : ((Rows.fnExactFormatCheckpointRow.plainKeys == Try.prog.plainKeys)) = true := by kernel_rfl
theorem k23 : (Rows.fnExactFormatCheckpointRow.shortTexts.isNone) = true := by kernel_rfl
theorem k26 : ((Rows.fnExactFormatCheckpointRow.lifted == Try.prog.liftsFinal)) = true := by rw [facLifts]; kernel_rfl
theorem k27 : ((Try.prog.make == some Rows.fnExactFormatCheckpointRow.make)) = true := by rw [facMake]; kernel_rfl
theorem k28 : ((Rows.fnExactFormatCheckpointRow.kinds == (if Rows.fnExactFormatCheckpointRow.domain.isEmpty then [] else Try.f26.params.toList.map fun t => match Try.prog.underlying t with | some (.int k) => some k | _ => none))) = true := by kernel_rfl
theorem k29 : ((Rows.fnExactFormatCheckpointRow.pinned == Rows.fnExactFormatCheckpointRow.pinnedBy)) = true := by kernel_rfl
theorem k30 : ((Rows.fnExactFormatCheckpointRow.veiled == (Try.f26.params.toList ++ Rows.fnExactFormatCheckpointSpec.plain.varTypes Try.prog ++ Try.f26.resultTypes.toList).any (Try.prog.veiledRec ·))) = true := by kernel_rfl
theorem k31 : (Rows.fnExactFormatCheckpointRow.veiledFits Try.prog Try.f26.params.toList (Try.f26.params.toList ++ Rows.fnExactFormatCheckpointSpec.plain.varTypes Try.prog ++ Try.f26.resultTypes.toList)) = true := by kernel_rfl
theorem closed : joinedFacts Try.pinned.checked.prog 26 Try.f26 Rows.fnExactFormatCheckpointSpec Rows.fnExactFormatCheckpointRow = true := (and2 (and2 (and2 (and2 (and2 (and2 (and2 (and2 (and2 (and2 (and2 (and2 (and2 (and2 (and2 (and2 (and2 (and2 (and2 (and2 (and2 (and2 (and2 (and2 (and2 (and2 (and2 (and2 (and2 (and2 (and2 k0 fac_laidOut) fac_maps) k3) k4) k5) fac_stops) k7) fac_knobs) k9) k10) k11) k12) k13) k14) k15) k16) k17) k18) k19) k20) k21) k22) k23) fac_heard) facEnter) k26) k27) k28) k29) k30) k31)
theorem named : Try.pinned.checked.prog.funcNamed Rows.fnExactFormatCheckpointRow.func = some 26 := by kernel_rfl
theorem over : Rows.fnExactFormatCheckpointRow.holds Try.pinned (OpenSpec.ofChange Rows.fnExactFormatCheckpointSpec) :=
  OpenClaim.holds_of_wide 26 Try.f26 rfl rfl rfl rfl rfl rfl rfl ⟨rfl, rfl, rfl, rfl, rfl⟩ rfl rfl rfl rfl rfl named Try.func26 closed
    (of_decide_eq_true (by kernel_rfl)) (by unfold Func.isWrapper; first | (rw [if_pos (by decide +kernel)]; kernel_rfl) | (rw [if_neg (by decide +kernel)]; exact ⟨rfl, rfl⟩))
    (fun os started H enc _ => lifted os started H enc)
#print axioms over
end Go.Proofs.Ytbmafhpbinjgaaa.fnExactFormatCheckpoint
namespace Go.Proofs.Ytbmafhpbinjgaaa
/-- The row, under a short name, for the claim. -/
theorem fnExactFormatCheckpoint_holds : Rows.FnExactFormatCheckpointSaid := fnExactFormatCheckpoint.over
end Go.Proofs.Ytbmafhpbinjgaaa
