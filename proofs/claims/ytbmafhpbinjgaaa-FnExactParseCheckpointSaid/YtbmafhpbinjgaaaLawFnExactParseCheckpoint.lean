/- The law FnExactParseCheckpoint of the given program answers true for every input; no condition. -/
import Derived.Test.YtbmafhpbinjgaaaRows
import Derived.Test.YtbmafhpbinjgaaaPkFnExactParseCheckpoint2
import Derived.Test.YtbmafhpbinjgaaaFac
namespace Go.Proofs.Ytbmafhpbinjgaaa.fnExactParseCheckpoint
open Go Go.ChangeShapes Go.WideShapes Go.ChangeAt Go.RowKit Go.Proofs.Ytbmafhpbinjgaaa.Vai
set_option maxRecDepth 100000
theorem lifted (os : Os) (started : os.Started) (H : Type) (enc : TypeId × Value → H) :
    ReturnsInHanded {} Try.checked os 27 .any (Rows.fnExactParseCheckpointSpec.pre6 enc Try.prog Try.f27 Rows.fnExactParseCheckpointRow.domain false) (Rows.fnExactParseCheckpointSpec.post enc Try.prog Try.f27 false true false false) := by
  refine returnsInHanded_of_change_sized (C := Try.checked) facOwn started (by kernel_rfl) Try.func27
    (ChangeSpec.witness6 (enc := enc) (C := Try.checked) false ⟨#[], #[.string ByteArray.empty], []⟩ 8 (by kernel_rfl) (by kernel_rfl) (by kernel_rfl) (by kernel_rfl)) ?_
  intro W base args ds gs before hval hW hcnd hsz _
  exact law_contract (P := Try.prog) tEok.1 tEok.2 (by kernel_rfl) (f := 27) (tAt 27) rfl rfl (ps := [⟨[.str], 16, false, []⟩]) (by kernel_rfl) (bt := 4) rfl rfl (by kernel_rfl) pure_FnExactParseCheckpoint (s := Rows.fnExactParseCheckpointSpec) rfl
    (fun ds h => by
      match ds, h with
      | [d0], _ => rfl) hval hW hsz
theorem k0 : (Rows.fnExactParseCheckpointRow.wf (OpenSpec.ofChange Rows.fnExactParseCheckpointSpec)) = true := by kernel_rfl
theorem k3 : (Try.f27.params.all (Try.prog.readableRec ·)) = true := by kernel_rfl
theorem k4 : (namedTie Try.prog Rows.fnExactParseCheckpointRow.named Rows.fnExactParseCheckpointSpec.vars) = true := by kernel_rfl
theorem k5 : ((Rows.fnExactParseCheckpointRow.stops == [])) = true := by kernel_rfl
theorem k7 : ((Rows.fnExactParseCheckpointRow.knobs == [])) = true := by kernel_rfl
theorem k9 : ((Rows.fnExactParseCheckpointRow.inPlace == Try.prog.inPlace 27)) = true := by kernel_rfl
theorem k10 : ((Rows.fnExactParseCheckpointRow.unfollowed == Try.prog.unfollowed 27)) = true := by kernel_rfl
theorem k11 : ((Rows.fnExactParseCheckpointRow.recurses == Try.prog.recurses 27)) = true := by kernel_rfl
theorem k12 : ((Rows.fnExactParseCheckpointRow.named == Try.prog.varsNamed 27)) = true := by kernel_rfl
theorem k13 : ((Rows.fnExactParseCheckpointRow.maps == (Try.f27.params.toList ++ Rows.fnExactParseCheckpointSpec.plain.varTypes Try.prog).any (Try.prog.mapsRec ·))) = true := by kernel_rfl
theorem k14 : ((Rows.fnExactParseCheckpointRow.ifaces == (Try.f27.params.toList ++ Rows.fnExactParseCheckpointSpec.plain.varTypes Try.prog).any (Try.prog.ifacesRec ·))) = true := by kernel_rfl
theorem k15 : ((Rows.fnExactParseCheckpointRow.mapsOut == Try.prog.mapsAmong Try.f27.resultTypes.toList)) = true := by kernel_rfl
theorem k16 : ((Rows.fnExactParseCheckpointRow.loops == (Try.f27.params.toList ++ Rows.fnExactParseCheckpointSpec.plain.varTypes Try.prog).any (Try.prog.loopsFrom ·))) = true := by kernel_rfl
theorem k17 : ((Rows.fnExactParseCheckpointRow.wideKeys == (Try.f27.params.toList ++ Rows.fnExactParseCheckpointSpec.plain.varTypes Try.prog ++ Try.f27.resultTypes.toList).any (Try.prog.wideKeysFrom ·))) = true := by kernel_rfl
theorem k18 : (Rows.fnExactParseCheckpointSpec.vars.all (Try.prog.varReadable ·)) = true := by kernel_rfl
theorem k19 : (Try.f27.resultTypes.all (fun t => Try.prog.readableRec t && decide (t < Try.prog.types.size))) = true := by kernel_rfl
theorem k20 : ((Rows.fnExactParseCheckpointRow.ifacesOut == Try.f27.resultTypes.toList.any (Try.prog.ifacesRec ·))) = true := by kernel_rfl
theorem k21 : ((Rows.fnExactParseCheckpointRow.loopsOut == Try.f27.resultTypes.toList.any (Try.prog.loopsFrom ·))) = true := by kernel_rfl
theorem k22 : ((Rows.fnExactParseCheckpointRow.plainKeys == Try.prog.plainKeys)) = true := by kernel_rfl
theorem k23 : (Rows.fnExactParseCheckpointRow.shortTexts.isNone) = true := by kernel_rfl
theorem k26 : ((Rows.fnExactParseCheckpointRow.lifted == Try.prog.liftsFinal)) = true := by rw [facLifts]; kernel_rfl
theorem k27 : ((Try.prog.make == some Rows.fnExactParseCheckpointRow.make)) = true := by rw [facMake]; kernel_rfl
theorem k28 : ((Rows.fnExactParseCheckpointRow.kinds == (if Rows.fnExactParseCheckpointRow.domain.isEmpty then [] else Try.f27.params.toList.map fun t => match Try.prog.underlying t with | some (.int k) => some k | _ => none))) = true := by kernel_rfl
theorem k29 : ((Rows.fnExactParseCheckpointRow.pinned == Rows.fnExactParseCheckpointRow.pinnedBy)) = true := by kernel_rfl
theorem k30 : ((Rows.fnExactParseCheckpointRow.veiled == (Try.f27.params.toList ++ Rows.fnExactParseCheckpointSpec.plain.varTypes Try.prog ++ Try.f27.resultTypes.toList).any (Try.prog.veiledRec ·))) = true := by kernel_rfl
theorem k31 : (Rows.fnExactParseCheckpointRow.veiledFits Try.prog Try.f27.params.toList (Try.f27.params.toList ++ Rows.fnExactParseCheckpointSpec.plain.varTypes Try.prog ++ Try.f27.resultTypes.toList)) = true := by kernel_rfl
theorem closed : joinedFacts Try.pinned.checked.prog 27 Try.f27 Rows.fnExactParseCheckpointSpec Rows.fnExactParseCheckpointRow = true := (and2 (and2 (and2 (and2 (and2 (and2 (and2 (and2 (and2 (and2 (and2 (and2 (and2 (and2 (and2 (and2 (and2 (and2 (and2 (and2 (and2 (and2 (and2 (and2 (and2 (and2 (and2 (and2 (and2 (and2 (and2 k0 fac_laidOut) fac_maps) k3) k4) k5) fac_stops) k7) fac_knobs) k9) k10) k11) k12) k13) k14) k15) k16) k17) k18) k19) k20) k21) k22) k23) fac_heard) facEnter) k26) k27) k28) k29) k30) k31)
theorem named : Try.pinned.checked.prog.funcNamed Rows.fnExactParseCheckpointRow.func = some 27 := by kernel_rfl
theorem over : Rows.fnExactParseCheckpointRow.holds Try.pinned (OpenSpec.ofChange Rows.fnExactParseCheckpointSpec) :=
  OpenClaim.holds_of_wide 27 Try.f27 rfl rfl rfl rfl rfl rfl rfl ⟨rfl, rfl, rfl, rfl, rfl⟩ rfl rfl rfl rfl rfl named Try.func27 closed
    (of_decide_eq_true (by kernel_rfl)) (by unfold Func.isWrapper; first | (rw [if_pos (by decide +kernel)]; kernel_rfl) | (rw [if_neg (by decide +kernel)]; exact ⟨rfl, rfl⟩))
    (fun os started H enc _ => lifted os started H enc)
#print axioms over
end Go.Proofs.Ytbmafhpbinjgaaa.fnExactParseCheckpoint
namespace Go.Proofs.Ytbmafhpbinjgaaa
/-- The row, under a short name, for the claim. -/
theorem fnExactParseCheckpoint_holds : Rows.FnExactParseCheckpointSaid := fnExactParseCheckpoint.over
end Go.Proofs.Ytbmafhpbinjgaaa
