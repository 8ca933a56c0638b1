/- The law FnExactIsValidSystem of the given program answers true for every input; no condition. -/
import Derived.Test.YtceoogjanfbdcaaGreatRows
import Derived.Test.YtceoogjanfbdcaaGreatPkFnExactIsValidSystem2
import Derived.Test.YtceoogjanfbdcaaGreatFac
namespace Go.Proofs.YtceoogjanfbdcaaGreat.fnExactIsValidSystem
open Go Go.ChangeShapes Go.WideShapes Go.ChangeAt Go.RowKit Go.Proofs.YtceoogjanfbdcaaGreat.Vai
set_option maxRecDepth 100000
theorem lifted (os : Os) (started : os.Started) (H : Type) (enc : TypeId × Value → H) :
    ReturnsInHanded {} Tryz.checked os 7 .any (Rows.fnExactIsValidSystemSpec.pre6 enc Tryz.prog Tryz.f7 Rows.fnExactIsValidSystemRow.domain false) (Rows.fnExactIsValidSystemSpec.post enc Tryz.prog Tryz.f7 false true false false) := by
  refine returnsInHanded_of_change_sized (C := Tryz.checked) facOwn started (by kernel_rfl) Tryz.func7
    (ChangeSpec.witness6 (enc := enc) (C := Tryz.checked) false ⟨#[], #[.agg #[.int .i64 0, .int .i64 0, .slice none 0 0, .slice none 0 0, .slice none 0 0, .int .i64 0]], []⟩ 8 (by kernel_rfl) (by kernel_rfl) (by kernel_rfl) (by kernel_rfl)) ?_
  intro W base args ds gs before hval hW hcnd hsz _
  exact law_contract (P := Tryz.prog) tEok.1 tEok.2 (by kernel_rfl) (f := 7) (tAt 7) rfl rfl (ps := [⟨[.int .i64, .int .i64, .sl 250, .sl 250, .sl 208, .int .i64], 96, true, [(0, 61), (4, 62), (5, 3)]⟩]) (by kernel_rfl) (bt := 4) rfl rfl (by kernel_rfl) pure_FnExactIsValidSystem (s := Rows.fnExactIsValidSystemSpec) rfl
    (fun ds h => by
      match ds, h with
      | [d0], _ => rfl) hval hW hsz
theorem k0 : (Rows.fnExactIsValidSystemRow.wf (OpenSpec.ofChange Rows.fnExactIsValidSystemSpec)) = true := by kernel_rfl
theorem k3 : (Tryz.f7.params.all (Tryz.prog.readableRec ·)) = true := by kernel_rfl
theorem k4 : (namedTie Tryz.prog Rows.fnExactIsValidSystemRow.named Rows.fnExactIsValidSystemSpec.vars) = true := by kernel_rfl
theorem k5 : ((Rows.fnExactIsValidSystemRow.stops == [])) = true := by kernel_rfl
theorem k7 : ((Rows.fnExactIsValidSystemRow.knobs == [])) = true := by kernel_rfl
theorem k9 : ((Rows.fnExactIsValidSystemRow.inPlace == Tryz.prog.inPlace 7)) = true := by kernel_rfl
theorem k10 : ((Rows.fnExactIsValidSystemRow.unfollowed == Tryz.prog.unfollowed 7)) = true := by kernel_rfl
theorem k11 : ((Rows.fnExactIsValidSystemRow.recurses == Tryz.prog.recurses 7)) = true := by kernel_rfl
theorem k12 : ((Rows.fnExactIsValidSystemRow.named == Tryz.prog.varsNamed 7)) = true := by kernel_rfl
theorem k13 : ((Rows.fnExactIsValidSystemRow.maps == (Tryz.f7.params.toList ++ Rows.fnExactIsValidSystemSpec.plain.varTypes Tryz.prog).any (Tryz.prog.mapsRec ·))) = true := by kernel_rfl
theorem k14 : ((Rows.fnExactIsValidSystemRow.ifaces == (Tryz.f7.params.toList ++ Rows.fnExactIsValidSystemSpec.plain.varTypes Tryz.prog).any (Tryz.prog.ifacesRec ·))) = true := by kernel_rfl
theorem k15 : ((Rows.fnExactIsValidSystemRow.mapsOut == Tryz.prog.mapsAmong Tryz.f7.resultTypes.toList)) = true := by kernel_rfl
theorem k16 : ((Rows.fnExactIsValidSystemRow.loops == (Tryz.f7.params.toList ++ Rows.fnExactIsValidSystemSpec.plain.varTypes Tryz.prog).any (Tryz.prog.loopsFrom ·))) = true := by kernel_rfl
theorem k17 : ((Rows.fnExactIsValidSystemRow.wideKeys == (Tryz.f7.params.toList ++ Rows.fnExactIsValidSystemSpec.plain.varTypes Tryz.prog ++ Tryz.f7.resultTypes.toList).any (Tryz.prog.wideKeysFrom ·))) = true := by kernel_rfl
theorem k18 : (Rows.fnExactIsValidSystemSpec.vars.all (Tryz.prog.varReadable ·)) = true := by kernel_rfl
theorem k19 : (Tryz.f7.resultTypes.all (fun t => Tryz.prog.readableRec t && decide (t < Tryz.prog.types.size))) = true := by kernel_rfl
theorem k20 : ((Rows.fnExactIsValidSystemRow.ifacesOut == Tryz.f7.resultTypes.toList.any (Tryz.prog.ifacesRec ·))) = true := by kernel_rfl
theorem k21 : ((Rows.fnExactIsValidSystemRow.loopsOut == Tryz.f7.resultTypes.toList.any (Tryz.prog.loopsFrom ·))) = true := by kernel_rfl
theorem k22 : ((Rows.fnExactIsValidSystemRow.plainKeys == Tryz.prog.plainKeys)) = true := by kernel_rfl
theorem k23 : (Rows.fnExactIsValidSystemRow.shortTexts.isNone) = true := by kernel_rfl
theorem k26 : ((Rows.fnExactIsValidSystemRow.lifted == Tryz.prog.liftsFinal)) = true := by rw [facLifts]; kernel_rfl
theorem k27 : ((Tryz.prog.make == some Rows.fnExactIsValidSystemRow.make)) = true := by rw [facMake]; kernel_rfl
theorem k28 : ((Rows.fnExactIsValidSystemRow.kinds == (if Rows.fnExactIsValidSystemRow.domain.isEmpty then [] else Tryz.f7.params.toList.map fun t => match Tryz.prog.underlying t with | some (.int k) => some k | _ => none))) = true := by kernel_rfl
theorem k29 : ((Rows.fnExactIsValidSystemRow.pinned == Rows.fnExactIsValidSystemRow.pinnedBy)) = true := by kernel_rfl
theorem k30 : ((Rows.fnExactIsValidSystemRow.veiled == (Tryz.f7.params.toList ++ Rows.fnExactIsValidSystemSpec.plain.varTypes Tryz.prog ++ Tryz.f7.resultTypes.toList).any (Tryz.prog.veiledRec ·))) = true := by kernel_rfl
theorem k31 : (Rows.fnExactIsValidSystemRow.veiledFits Tryz.prog Tryz.f7.params.toList (Tryz.f7.params.toList ++ Rows.fnExactIsValidSystemSpec.plain.varTypes Tryz.prog ++ Tryz.f7.resultTypes.toList)) = true := by kernel_rfl
theorem closed : joinedFacts Tryz.pinned.checked.prog 7 Tryz.f7 Rows.fnExactIsValidSystemSpec Rows.fnExactIsValidSystemRow = true := (and2 (and2 (and2 (and2 (and2 (and2 (and2 (and2 (and2 (and2 (and2 (and2 (and2 (and2 (and2 (and2 (and2 (and2 (and2 (and2 (and2 (and2 (and2 (and2 (and2 (and2 (and2 (and2 (and2 (and2 (and2 k0 fac_laidOut) fac_maps) k3) k4) k5) fac_stops) k7) fac_knobs) k9) k10) k11) k12) k13) k14) k15) k16) k17) k18) k19) k20) k21) k22) k23) fac_heard) facEnter) k26) k27) k28) k29) k30) k31)
theorem named : Tryz.pinned.checked.prog.funcNamed Rows.fnExactIsValidSystemRow.func = some 7 := by kernel_rfl
theorem over : Rows.fnExactIsValidSystemRow.holds Tryz.pinned (OpenSpec.ofChange Rows.fnExactIsValidSystemSpec) :=
  OpenClaim.holds_of_wide 7 Tryz.f7 rfl rfl rfl rfl rfl rfl rfl ⟨rfl, rfl, rfl, rfl, rfl⟩ rfl rfl rfl rfl rfl named Tryz.func7 closed
    (of_decide_eq_true (by kernel_rfl)) (by unfold Func.isWrapper; first | (rw [if_pos (by decide +kernel)]; kernel_rfl) | (rw [if_neg (by decide +kernel)]; exact ⟨rfl, rfl⟩))
    (fun os started H enc _ => lifted os started H enc)
#print axioms over
end Go.Proofs.YtceoogjanfbdcaaGreat.fnExactIsValidSystem
namespace Go.Proofs.YtceoogjanfbdcaaGreat
/-- The row, under a short name, for the claim. -/
theorem fnExactIsValidSystem_holds : Rows.FnExactIsValidSystemSaid := fnExactIsValidSystem.over
end Go.Proofs.YtceoogjanfbdcaaGreat
