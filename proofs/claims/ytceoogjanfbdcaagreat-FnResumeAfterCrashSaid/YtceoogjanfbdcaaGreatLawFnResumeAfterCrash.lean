/- The law FnResumeAfterCrash of the given program answers true for every input; no condition. -/
import Derived.Test.YtceoogjanfbdcaaGreatRows
import Derived.Test.YtceoogjanfbdcaaGreatPkFnResumeAfterCrash3
import Derived.Test.YtceoogjanfbdcaaGreatFac
namespace Go.Proofs.YtceoogjanfbdcaaGreat.fnResumeAfterCrash
open Go Go.ChangeShapes Go.WideShapes Go.ChangeAt Go.RowKit Go.Proofs.YtceoogjanfbdcaaGreat.Vai
set_option maxRecDepth 100000
theorem lifted (os : Os) (started : os.Started) (H : Type) (enc : TypeId × Value → H) :
    ReturnsInHanded {} Tryz.checked os 3 .any (Rows.fnResumeAfterCrashSpec.pre6 enc Tryz.prog Tryz.f3 Rows.fnResumeAfterCrashRow.domain false) (Rows.fnResumeAfterCrashSpec.post enc Tryz.prog Tryz.f3 false true false false) := by
  refine returnsInHanded_of_change_sized (C := Tryz.checked) facOwn started (by kernel_rfl) Tryz.func3
    (ChangeSpec.witness6 (enc := enc) (C := Tryz.checked) false ⟨#[], #[.slice none 0 0], []⟩ 8 (by kernel_rfl) (by kernel_rfl) (by kernel_rfl) (by kernel_rfl)) ?_
  intro W base args ds gs before hval hW hcnd hsz _
  exact law_contract (P := Tryz.prog) tEok.1 tEok.2 (by kernel_rfl) (f := 3) (tAt 3) rfl rfl (ps := [⟨[.sl 5], 24, false, []⟩]) (by kernel_rfl) (bt := 4) rfl rfl (by kernel_rfl) pure_FnResumeAfterCrash (s := Rows.fnResumeAfterCrashSpec) rfl
    (fun ds h => by
      match ds, h with
      | [d0], _ => rfl) hval hW hsz
theorem k0 : (Rows.fnResumeAfterCrashRow.wf (OpenSpec.ofChange Rows.fnResumeAfterCrashSpec)) = true := by kernel_rfl
theorem k3 : (Tryz.f3.params.all (Tryz.prog.readableRec ·)) = true := by kernel_rfl
theorem k4 : (namedTie Tryz.prog Rows.fnResumeAfterCrashRow.named Rows.fnResumeAfterCrashSpec.vars) = true := by kernel_rfl
theorem k5 : ((Rows.fnResumeAfterCrashRow.stops == [])) = true := by kernel_rfl
theorem k7 : ((Rows.fnResumeAfterCrashRow.knobs == [])) = true := by kernel_rfl
theorem k9 : ((Rows.fnResumeAfterCrashRow.inPlace == Tryz.prog.inPlace 3)) = true := by kernel_rfl
theorem k10 : ((Rows.fnResumeAfterCrashRow.unfollowed == Tryz.prog.unfollowed 3)) = true := by kernel_rfl
theorem k11 : ((Rows.fnResumeAfterCrashRow.recurses == Tryz.prog.recurses 3)) = true := by kernel_rfl
theorem k12 : ((Rows.fnResumeAfterCrashRow.named == Tryz.prog.varsNamed 3)) = true := by kernel_rfl
theorem k13 : ((Rows.fnResumeAfterCrashRow.maps == (Tryz.f3.params.toList ++ Rows.fnResumeAfterCrashSpec.plain.varTypes Tryz.prog).any (Tryz.prog.mapsRec ·))) = true := by kernel_rfl
theorem k14 : ((Rows.fnResumeAfterCrashRow.ifaces == (Tryz.f3.params.toList ++ Rows.fnResumeAfterCrashSpec.plain.varTypes Tryz.prog).any (Tryz.prog.ifacesRec ·))) = true := by kernel_rfl
theorem k15 : ((Rows.fnResumeAfterCrashRow.mapsOut == Tryz.prog.mapsAmong Tryz.f3.resultTypes.toList)) = true := by kernel_rfl
theorem k16 : ((Rows.fnResumeAfterCrashRow.loops == (Tryz.f3.params.toList ++ Rows.fnResumeAfterCrashSpec.plain.varTypes Tryz.prog).any (Tryz.prog.loopsFrom ·))) = true := by kernel_rfl
theorem k17 : ((Rows.fnResumeAfterCrashRow.wideKeys == (Tryz.f3.params.toList ++ Rows.fnResumeAfterCrashSpec.plain.varTypes Tryz.prog ++ Tryz.f3.resultTypes.toList).any (Tryz.prog.wideKeysFrom ·))) = true := by kernel_rfl
theorem k18 : (Rows.fnResumeAfterCrashSpec.vars.all (Tryz.prog.varReadable ·)) = true := by kernel_rfl
theorem k19 : (Tryz.f3.resultTypes.all (fun t => Tryz.prog.readableRec t && decide (t < Tryz.prog.types.size))) = true := by kernel_rfl
theorem k20 : ((Rows.fnResumeAfterCrashRow.ifacesOut == Tryz.f3.resultTypes.toList.any (Tryz.prog.ifacesRec ·))) = true := by kernel_rfl
theorem k21 : ((Rows.fnResumeAfterCrashRow.loopsOut == Tryz.f3.resultTypes.toList.any (Tryz.prog.loopsFrom ·))) = true := by kernel_rfl
theorem k22 : ((Rows.fnResumeAfterCrashRow.plainKeys == Tryz.prog.plainKeys)) = true := by kernel_rfl
theorem k23 : (Rows.fnResumeAfterCrashRow.shortTexts.isNone) = true := by kernel_rfl
theorem k26 : ((Rows.fnResumeAfterCrashRow.lifted == Tryz.prog.liftsFinal)) = true := by rw [facLifts]; kernel_rfl
theorem k27 : ((Tryz.prog.make == some Rows.fnResumeAfterCrashRow.make)) = true := by rw [facMake]; kernel_rfl
theorem k28 : ((Rows.fnResumeAfterCrashRow.kinds == (if Rows.fnResumeAfterCrashRow.domain.isEmpty then [] else Tryz.f3.params.toList.map fun t => match Tryz.prog.underlying t with | some (.int k) => some k | _ => none))) = true := by kernel_rfl
theorem k29 : ((Rows.fnResumeAfterCrashRow.pinned == Rows.fnResumeAfterCrashRow.pinnedBy)) = true := by kernel_rfl
theorem k30 : ((Rows.fnResumeAfterCrashRow.veiled == (Tryz.f3.params.toList ++ Rows.fnResumeAfterCrashSpec.plain.varTypes Tryz.prog ++ Tryz.f3.resultTypes.toList).any (Tryz.prog.veiledRec ·))) = true := by kernel_rfl
theorem k31 : (Rows.fnResumeAfterCrashRow.veiledFits Tryz.prog Tryz.f3.params.toList (Tryz.f3.params.toList ++ Rows.fnResumeAfterCrashSpec.plain.varTypes Tryz.prog ++ Tryz.f3.resultTypes.toList)) = true := by kernel_rfl
theorem closed : joinedFacts Tryz.pinned.checked.prog 3 Tryz.f3 Rows.fnResumeAfterCrashSpec Rows.fnResumeAfterCrashRow = true := (and2 (and2 (and2 (and2 (and2 (and2 (and2 (and2 (and2 (and2 (and2 (and2 (and2 (and2 (and2 (and2 (and2 (and2 (and2 (and2 (and2 (and2 (and2 (and2 (and2 (and2 (and2 (and2 (and2 (and2 (and2 k0 fac_laidOut) fac_maps) k3) k4) k5) fac_stops) k7) fac_knobs) k9) k10) k11) k12) k13) k14) k15) k16) k17) k18) k19) k20) k21) k22) k23) fac_heard) facEnter) k26) k27) k28) k29) k30) k31)
theorem named : Tryz.pinned.checked.prog.funcNamed Rows.fnResumeAfterCrashRow.func = some 3 := by kernel_rfl
theorem over : Rows.fnResumeAfterCrashRow.holds Tryz.pinned (OpenSpec.ofChange Rows.fnResumeAfterCrashSpec) :=
  OpenClaim.holds_of_wide 3 Tryz.f3 rfl rfl rfl rfl rfl rfl rfl ⟨rfl, rfl, rfl, rfl, rfl⟩ rfl rfl rfl rfl rfl named Tryz.func3 closed
    (of_decide_eq_true (by kernel_rfl)) (by unfold Func.isWrapper; first | (rw [if_pos (by decide +kernel)]; kernel_rfl) | (rw [if_neg (by decide +kernel)]; exact ⟨rfl, rfl⟩))
    (fun os started H enc _ => lifted os started H enc)
#print axioms over
end Go.Proofs.YtceoogjanfbdcaaGreat.fnResumeAfterCrash
namespace Go.Proofs.YtceoogjanfbdcaaGreat
/-- The row, under a short name, for the claim. -/
theorem fnResumeAfterCrash_holds : Rows.FnResumeAfterCrashSaid := fnResumeAfterCrash.over
end Go.Proofs.YtceoogjanfbdcaaGreat
