/- The law FnExactResumeSort of the given program answers true for every input; no condition. -/
import Derived.Test.YtceoogjanfbdcaaGreatRows
import Derived.Test.YtceoogjanfbdcaaGreatPkFnExactResumeSort2
import Derived.Test.YtceoogjanfbdcaaGreatFac
namespace Go.Proofs.YtceoogjanfbdcaaGreat.fnExactResumeSort
open Go Go.ChangeShapes Go.WideShapes Go.ChangeAt Go.RowKit Go.Proofs.YtceoogjanfbdcaaGreat.Vai
set_option maxRecDepth 100000
theorem lifted (os : Os) (started : os.Started) (H : Type) (enc : TypeId × Value → H) :
    ReturnsInHanded {} Tryz.checked os 6 .any (Rows.fnExactResumeSortSpec.pre6 enc Tryz.prog Tryz.f6 Rows.fnExactResumeSortRow.domain false) (Rows.fnExactResumeSortSpec.post enc Tryz.prog Tryz.f6 false true false false) := by
  refine returnsInHanded_of_change_sized (C := Tryz.checked) facOwn started (by kernel_rfl) Tryz.func6
    (ChangeSpec.witness6 (enc := enc) (C := Tryz.checked) false ⟨#[], #[.string ByteArray.empty, .slice none 0 0, .slice none 0 0], []⟩ 8 (by kernel_rfl) (by kernel_rfl) (by kernel_rfl) (by kernel_rfl)) ?_
  intro W base args ds gs before hval hW hcnd hsz _
  exact law_contract (P := Tryz.prog) tEok.1 tEok.2 (by kernel_rfl) (f := 6) (tAt 6) rfl rfl (ps := [⟨[.str], 16, false, []⟩, ⟨[.sl 120], 24, false, []⟩, ⟨[.sl 3], 24, false, []⟩]) (by kernel_rfl) (bt := 4) rfl rfl (by kernel_rfl) pure_FnExactResumeSort (s := Rows.fnExactResumeSortSpec) rfl
    (fun ds h => by
      match ds, h with
      | [d0, d1, d2], _ => rfl) hval hW hsz
theorem k0 : (Rows.fnExactResumeSortRow.wf (OpenSpec.ofChange Rows.fnExactResumeSortSpec)) = true := by kernel_rfl
theorem k3 : (Tryz.f6.params.all (Tryz.prog.readableRec ·)) = true := by kernel_rfl
theorem k4 : (namedTie Tryz.prog Rows.fnExactResumeSortRow.named Rows.fnExactResumeSortSpec.vars) = true := by kernel_rfl
theorem k5 : ((Rows.fnExactResumeSortRow.stops == [])) = true := by kernel_rfl
theorem k7 : ((Rows.fnExactResumeSortRow.knobs == [])) = true := by kernel_rfl
theorem k9 : ((Rows.fnExactResumeSortRow.inPlace == Tryz.prog.inPlace 6)) = true := by kernel_rfl
theorem k10 : ((Rows.fnExactResumeSortRow.unfollowed == Tryz.prog.unfollowed 6)) = true := by kernel_rfl
theorem k11 : ((Rows.fnExactResumeSortRow.recurses == Tryz.prog.recurses 6)) = true := by kernel_rfl
theorem k12 : ((Rows.fnExactResumeSortRow.named == Tryz.prog.varsNamed 6)) = true := by kernel_rfl
theorem k13 : ((Rows.fnExactResumeSortRow.maps == (Tryz.f6.params.toList ++ Rows.fnExactResumeSortSpec.plain.varTypes Tryz.prog).any (Tryz.prog.mapsRec ·))) = true := by kernel_rfl
theorem k14 : ((Rows.fnExactResumeSortRow.ifaces == (Tryz.f6.params.toList ++ Rows.fnExactResumeSortSpec.plain.varTypes Tryz.prog).any (Tryz.prog.ifacesRec ·))) = true := by kernel_rfl
theorem k15 : ((Rows.fnExactResumeSortRow.mapsOut == Tryz.prog.mapsAmong Tryz.f6.resultTypes.toList)) = true := by kernel_rfl
theorem k16 : ((Rows.fnExactResumeSortRow.loops == (Tryz.f6.params.toList ++ Rows.fnExactResumeSortSpec.plain.varTypes Tryz.prog).any (Tryz.prog.loopsFrom ·))) = true := by kernel_rfl
theorem k17 : ((Rows.fnExactResumeSortRow.wideKeys == (Tryz.f6.params.toList ++ Rows.fnExactResumeSortSpec.plain.varTypes Tryz.prog ++ Tryz.f6.resultTypes.toList).any (Tryz.prog.wideKeysFrom ·))) = true := by kernel_rfl
theorem k18 : (Rows.fnExactResumeSortSpec.vars.all (Tryz.prog.varReadable ·)) = true := by kernel_rfl
theorem k19 : (Tryz.f6.resultTypes.all (fun t => Tryz.prog.readableRec t && decide (t < Tryz.prog.types.size))) = true := by kernel_rfl
theorem k20 : ((Rows.fnExactResumeSortRow.ifacesOut == Tryz.f6.resultTypes.toList.any (Tryz.prog.ifacesRec ·))) = true := by kernel_rfl
theorem k21 : ((Rows.fnExactResumeSortRow.loopsOut == Tryz.f6.resultTypes.toList.any (Tryz.prog.loopsFrom ·))) = true := by kernel_rfl
theorem k22 : ((Rows.fnExactResumeSortRow.plainKeys == Tryz.prog.plainKeys)) = true := by kernel_rfl
theorem k23 : (Rows.fnExactResumeSortRow.shortTexts.isNone) = true := by kernel_rfl
theorem k26 : ((Rows.fnExactResumeSortRow.lifted == Tryz.prog.liftsFinal)) = true := by rw [facLifts]; kernel_rfl
theorem k27 : ((Tryz.prog.make == some Rows.fnExactResumeSortRow.make)) = true := by rw [facMake]; kernel_rfl
theorem k28 : ((Rows.fnExactResumeSortRow.kinds == (if Rows.fnExactResumeSortRow.domain.isEmpty then [] else Tryz.f6.params.toList.map fun t => match Tryz.prog.underlying t with | some (.int k) => some k | _ => none))) = true := by kernel_rfl
theorem k29 : ((Rows.fnExactResumeSortRow.pinned == Rows.fnExactResumeSortRow.pinnedBy)) = true := by kernel_rfl
theorem k30 : ((Rows.fnExactResumeSortRow.veiled == (Tryz.f6.params.toList ++ Rows.fnExactResumeSortSpec.plain.varTypes Tryz.prog ++ Tryz.f6.resultTypes.toList).any (Tryz.prog.veiledRec ·))) = true := by kernel_rfl
theorem k31 : (Rows.fnExactResumeSortRow.veiledFits Tryz.prog Tryz.f6.params.toList (Tryz.f6.params.toList ++ Rows.fnExactResumeSortSpec.plain.varTypes Tryz.prog ++ Tryz.f6.resultTypes.toList)) = true := by kernel_rfl
theorem closed : joinedFacts Tryz.pinned.checked.prog 6 Tryz.f6 Rows.fnExactResumeSortSpec Rows.fnExactResumeSortRow = true := (and2 (and2 (and2 (and2 (and2 (and2 (and2 (and2 (and2 (and2 (and2 (and2 (and2 (and2 (and2 (and2 (and2 (and2 (and2 (and2 (and2 (and2 (and2 (and2 (and2 (and2 (and2 (and2 (and2 (and2 (and2 k0 fac_laidOut) fac_maps) k3) k4) k5) fac_stops) k7) fac_knobs) k9) k10) k11) k12) k13) k14) k15) k16) k17) k18) k19) k20) k21) k22) k23) fac_heard) facEnter) k26) k27) k28) k29) k30) k31)
theorem named : Tryz.pinned.checked.prog.funcNamed Rows.fnExactResumeSortRow.func = some 6 := by kernel_rfl
theorem over : Rows.fnExactResumeSortRow.holds Tryz.pinned (OpenSpec.ofChange Rows.fnExactResumeSortSpec) :=
  OpenClaim.holds_of_wide 6 Tryz.f6 rfl rfl rfl rfl rfl rfl rfl ⟨rfl, rfl, rfl, rfl, rfl⟩ rfl rfl rfl rfl rfl named Tryz.func6 closed
    (of_decide_eq_true (by kernel_rfl)) (by unfold Func.isWrapper; first | (rw [if_pos (by decide +kernel)]; kernel_rfl) | (rw [if_neg (by decide +kernel)]; exact ⟨rfl, rfl⟩))
    (fun os started H enc _ => lifted os started H enc)
#print axioms over
end Go.Proofs.YtceoogjanfbdcaaGreat.fnExactResumeSort
namespace Go.Proofs.YtceoogjanfbdcaaGreat
/-- The row, under a short name, for the claim. -/
theorem fnExactResumeSort_holds : Rows.FnExactResumeSortSaid := fnExactResumeSort.over
end Go.Proofs.YtceoogjanfbdcaaGreat
