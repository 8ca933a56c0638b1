/- The law FnExactRunWithCheckpoints of the given program answers true for every input; no condition. -/
import Derived.Test.YtnihikajdbcoaaaGreatRows
import Derived.Test.YtnihikajdbcoaaaGreatPkFnExactRunWithCheckpoints2
import Derived.Test.YtnihikajdbcoaaaGreatFac
namespace Go.Proofs.YtnihikajdbcoaaaGreat.fnExactRunWithCheckpoints
open Go Go.ChangeShapes Go.WideShapes Go.ChangeAt Go.RowKit Go.Proofs.YtnihikajdbcoaaaGreat.Vai
set_option maxRecDepth 100000
theorem lifted (os : Os) (started : os.Started) (H : Type) (enc : TypeId × Value → H) :
    ReturnsInHanded {} Tryz.checked os 13 .any (Rows.fnExactRunWithCheckpointsSpec.pre6 enc Tryz.prog Tryz.f13 Rows.fnExactRunWithCheckpointsRow.domain false) (Rows.fnExactRunWithCheckpointsSpec.post enc Tryz.prog Tryz.f13 false true false false) := by
  refine returnsInHanded_of_change_sized (C := Tryz.checked) facOwn started (by kernel_rfl) Tryz.func13
    (ChangeSpec.witness6 (enc := enc) (C := Tryz.checked) false ⟨#[], #[.slice none 0 0, .slice none 0 0, .int .i64 0], []⟩ 8 (by kernel_rfl) (by kernel_rfl) (by kernel_rfl) (by kernel_rfl)) ?_
  intro W base args ds gs before hval hW hcnd hsz _
  exact law_contract (P := Tryz.prog) tEok.1 tEok.2 (by kernel_rfl) (f := 13) (tAt 13) rfl rfl (ps := [⟨[.sl 242], 24, false, []⟩, ⟨[.sl 3], 24, false, []⟩, ⟨[.int .i64], 8, false, []⟩]) (by kernel_rfl) (bt := 4) rfl rfl (by kernel_rfl) pure_FnExactRunWithCheckpoints (s := Rows.fnExactRunWithCheckpointsSpec) rfl
    (fun ds h => by
      match ds, h with
      | [d0, d1, d2], _ => rfl) hval hW hsz
theorem k0 : (Rows.fnExactRunWithCheckpointsRow.wf (OpenSpec.ofChange Rows.fnExactRunWithCheckpointsSpec)) = true := by kernel_rfl
theorem k3 : (Tryz.f13.params.all (Tryz.prog.readableRec ·)) = true := by kernel_rfl
theorem k4 : (namedTie Tryz.prog Rows.fnExactRunWithCheckpointsRow.named Rows.fnExactRunWithCheckpointsSpec.vars) = true := by kernel_rfl
theorem k5 : ((Rows.fnExactRunWithCheckpointsRow.stops == [])) = true := by kernel_rfl
theorem k7 : ((Rows.fnExactRunWithCheckpointsRow.knobs == [])) = true := by kernel_rfl
theorem k9 : ((Rows.fnExactRunWithCheckpointsRow.inPlace == Tryz.prog.inPlace 13)) = true := by kernel_rfl
theorem k10 : ((Rows.fnExactRunWithCheckpointsRow.unfollowed == Tryz.prog.unfollowed 13)) = true := by kernel_rfl
theorem k11 : ((Rows.fnExactRunWithCheckpointsRow.recurses == Tryz.prog.recurses 13)) = true := by kernel_rfl
theorem k12 : ((Rows.fnExactRunWithCheckpointsRow.named == Tryz.prog.varsNamed 13)) = true := by kernel_rfl
theorem k13 : ((Rows.fnExactRunWithCheckpointsRow.maps == (Tryz.f13.params.toList ++ Rows.fnExactRunWithCheckpointsSpec.plain.varTypes Tryz.prog).any (Tryz.prog.mapsRec ·))) = true := by kernel_rfl
theorem k14 : ((Rows.fnExactRunWithCheckpointsRow.ifaces == (Tryz.f13.params.toList ++ Rows.fnExactRunWithCheckpointsSpec.plain.varTypes Tryz.prog).any (Tryz.prog.ifacesRec ·))) = true := by kernel_rfl
theorem k15 : ((Rows.fnExactRunWithCheckpointsRow.mapsOut == Tryz.prog.mapsAmong Tryz.f13.resultTypes.toList)) = true := by kernel_rfl
theorem k16 : ((Rows.fnExactRunWithCheckpointsRow.loops == (Tryz.f13.params.toList ++ Rows.fnExactRunWithCheckpointsSpec.plain.varTypes Tryz.prog).any (Tryz.prog.loopsFrom ·))) = true := by kernel_rfl
theorem k17 : ((Rows.fnExactRunWithCheckpointsRow.wideKeys == (Tryz.f13.params.toList ++ Rows.fnExactRunWithCheckpointsSpec.plain.varTypes Tryz.prog ++ Tryz.f13.resultTypes.toList).any (Tryz.prog.wideKeysFrom ·))) = true := by kernel_rfl
theorem k18 : (Rows.fnExactRunWithCheckpointsSpec.vars.all (Tryz.prog.varReadable ·)) = true := by kernel_rfl
theorem k19 : (Tryz.f13.resultTypes.all (fun t => Tryz.prog.readableRec t && decide (t < Tryz.prog.types.size))) = true := by kernel_rfl
theorem k20 : ((Rows.fnExactRunWithCheckpointsRow.ifacesOut == Tryz.f13.resultTypes.toList.any (Tryz.prog.ifacesRec ·))) = true := by kernel_rfl
theorem k21 : ((Rows.fnExactRunWithCheckpointsRow.loopsOut == Tryz.f13.resultTypes.toList.any (Tryz.prog.loopsFrom ·))) = true := by kernel_rfl
theorem k22 : ((Rows.fnExactRunWithCheckpointsRow.plainKeys == Tryz.prog.plainKeys)) = true := by kernel_rfl
theorem k23 : (Rows.fnExactRunWithCheckpointsRow.shortTexts.isNone) = true := by kernel_rfl
theorem k26 : ((Rows.fnExactRunWithCheckpointsRow.lifted == Tryz.prog.liftsFinal)) = true := by rw [facLifts]; kernel_rfl
theorem k27 : ((Tryz.prog.make == some Rows.fnExactRunWithCheckpointsRow.make)) = true := by rw [facMake]; kernel_rfl
theorem k28 : ((Rows.fnExactRunWithCheckpointsRow.kinds == (if Rows.fnExactRunWithCheckpointsRow.domain.isEmpty then [] else Tryz.f13.params.toList.map fun t => match Tryz.prog.underlying t with | some (.int k) => some k | _ => none))) = true := by kernel_rfl
theorem k29 : ((Rows.fnExactRunWithCheckpointsRow.pinned == Rows.fnExactRunWithCheckpointsRow.pinnedBy)) = true := by kernel_rfl
theorem k30 : ((Rows.fnExactRunWithCheckpointsRow.veiled == (Tryz.f13.params.toList ++ Rows.fnExactRunWithCheckpointsSpec.plain.varTypes Tryz.prog ++ Tryz.f13.resultTypes.toList).any (Tryz.prog.veiledRec ·))) = true := by kernel_rfl
theorem k31 : (Rows.fnExactRunWithCheckpointsRow.veiledFits Tryz.prog Tryz.f13.params.toList (Tryz.f13.params.toList ++ Rows.fnExactRunWithCheckpointsSpec.plain.varTypes Tryz.prog ++ Tryz.f13.resultTypes.toList)) = true := by kernel_rfl
theorem closed : joinedFacts Tryz.pinned.checked.prog 13 Tryz.f13 Rows.fnExactRunWithCheckpointsSpec Rows.fnExactRunWithCheckpointsRow = true := (and2 (and2 (and2 (and2 (and2 (and2 (and2 (and2 (and2 (and2 (and2 (and2 (and2 (and2 (and2 (and2 (and2 (and2 (and2 (and2 (and2 (and2 (and2 (and2 (and2 (and2 (and2 (and2 (and2 (and2 (and2 k0 fac_laidOut) fac_maps) k3) k4) k5) fac_stops) k7) fac_knobs) k9) k10) k11) k12) k13) k14) k15) k16) k17) k18) k19) k20) k21) k22) k23) fac_heard) facEnter) k26) k27) k28) k29) k30) k31)
theorem named : Tryz.pinned.checked.prog.funcNamed Rows.fnExactRunWithCheckpointsRow.func = some 13 := by kernel_rfl
theorem over : Rows.fnExactRunWithCheckpointsRow.holds Tryz.pinned (OpenSpec.ofChange Rows.fnExactRunWithCheckpointsSpec) :=
  OpenClaim.holds_of_wide 13 Tryz.f13 rfl rfl rfl rfl rfl rfl rfl ⟨rfl, rfl, rfl, rfl, rfl⟩ rfl rfl rfl rfl rfl named Tryz.func13 closed
    (of_decide_eq_true (by kernel_rfl)) (by unfold Func.isWrapper; first | (rw [if_pos (by decide +kernel)]; kernel_rfl) | (rw [if_neg (by decide +kernel)]; exact ⟨rfl, rfl⟩))
    (fun os started H enc _ => lifted os started H enc)
#print axioms over
end Go.Proofs.YtnihikajdbcoaaaGreat.fnExactRunWithCheckpoints
namespace Go.Proofs.YtnihikajdbcoaaaGreat
/-- The row, under a short name, for the claim. -/
theorem fnExactRunWithCheckpoints_holds : Rows.FnExactRunWithCheckpointsSaid := fnExactRunWithCheckpoints.over
end Go.Proofs.YtnihikajdbcoaaaGreat
