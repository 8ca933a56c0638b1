/- The law FnCheckpointRoundTrip of the given program answers true for every input; no condition. -/
import Derived.Test.YtnihikajdbcoaaaGreatRows
import Derived.Test.YtnihikajdbcoaaaGreatPkFnCheckpointRoundTrip2
import Derived.Test.YtnihikajdbcoaaaGreatFac
namespace Go.Proofs.YtnihikajdbcoaaaGreat.fnCheckpointRoundTrip
open Go Go.ChangeShapes Go.WideShapes Go.ChangeAt Go.RowKit Go.Proofs.YtnihikajdbcoaaaGreat.Vai
set_option maxRecDepth 100000
theorem lifted (os : Os) (started : os.Started) (H : Type) (enc : TypeId × Value → H) :
    ReturnsInHanded {} Tryz.checked os 12 .any (Rows.fnCheckpointRoundTripSpec.pre6 enc Tryz.prog Tryz.f12 Rows.fnCheckpointRoundTripRow.domain false) (Rows.fnCheckpointRoundTripSpec.post enc Tryz.prog Tryz.f12 false true false false) := by
  refine returnsInHanded_of_change_sized (C := Tryz.checked) facOwn started (by kernel_rfl) Tryz.func12
    (ChangeSpec.witness6 (enc := enc) (C := Tryz.checked) false ⟨#[], #[.slice none 0 0], []⟩ 8 (by kernel_rfl) (by kernel_rfl) (by kernel_rfl) (by kernel_rfl)) ?_
  intro W base args ds gs before hval hW hcnd hsz _
  exact law_contract (P := Tryz.prog) tEok.1 tEok.2 (by kernel_rfl) (f := 12) (tAt 12) rfl rfl (ps := [⟨[.sl 5], 24, false, []⟩]) (by kernel_rfl) (bt := 4) rfl rfl (by kernel_rfl) pure_FnCheckpointRoundTrip (s := Rows.fnCheckpointRoundTripSpec) rfl
    (fun ds h => by
      match ds, h with
      | [d0], _ => rfl) hval hW hsz
theorem k0 : (Rows.fnCheckpointRoundTripRow.wf (OpenSpec.ofChange Rows.fnCheckpointRoundTripSpec)) = true := by kernel_rfl
theorem k3 : (Tryz.f12.params.all (Tryz.prog.readableRec ·)) = true := by kernel_rfl
theorem k4 : (namedTie Tryz.prog Rows.fnCheckpointRoundTripRow.named Rows.fnCheckpointRoundTripSpec.vars) = true := by kernel_rfl
theorem k5 : ((Rows.fnCheckpointRoundTripRow.stops == [])) = true := by kernel_rfl
theorem k7 : ((Rows.fnCheckpointRoundTripRow.knobs == [])) = true := by kernel_rfl
theorem k9 : ((Rows.fnCheckpointRoundTripRow.inPlace == Tryz.prog.inPlace 12)) = true := by kernel_rfl
theorem k10 : ((Rows.fnCheckpointRoundTripRow.unfollowed == Tryz.prog.unfollowed 12)) = true := by kernel_rfl
theorem k11 : ((Rows.fnCheckpointRoundTripRow.recurses == Tryz.prog.recurses 12)) = true := by kernel_rfl
theorem k12 : ((Rows.fnCheckpointRoundTripRow.named == Tryz.prog.varsNamed 12)) = true := by kernel_rfl
theorem k13 : ((Rows.fnCheckpointRoundTripRow.maps == (Tryz.f12.params.toList ++ Rows.fnCheckpointRoundTripSpec.plain.varTypes Tryz.prog).any (Tryz.prog.mapsRec ·))) = true := by kernel_rfl
theorem k14 : ((Rows.fnCheckpointRoundTripRow.ifaces == (Tryz.f12.params.toList ++ Rows.fnCheckpointRoundTripSpec.plain.varTypes Tryz.prog).any (Tryz.prog.ifacesRec ·))) = true := by kernel_rfl
theorem k15 : ((Rows.fnCheckpointRoundTripRow.mapsOut == Tryz.prog.mapsAmong Tryz.f12.resultTypes.toList)) = true := by kernel_rfl
theorem k16 : ((Rows.fnCheckpointRoundTripRow.loops == (Tryz.f12.params.toList ++ Rows.fnCheckpointRoundTripSpec.plain.varTypes Tryz.prog).any (Tryz.prog.loopsFrom ·))) = true := by kernel_rfl
theorem k17 : ((Rows.fnCheckpointRoundTripRow.wideKeys == (Tryz.f12.params.toList ++ Rows.fnCheckpointRoundTripSpec.plain.varTypes Tryz.prog ++ Tryz.f12.resultTypes.toList).any (Tryz.prog.wideKeysFrom ·))) = true := by kernel_rfl
theorem k18 : (Rows.fnCheckpointRoundTripSpec.vars.all (Tryz.prog.varReadable ·)) = true := by kernel_rfl
theorem k19 : (Tryz.f12.resultTypes.all (fun t => Tryz.prog.readableRec t && decide (t < Tryz.prog.types.size))) = true := by kernel_rfl
theorem k20 : ((Rows.fnCheckpointRoundTripRow.ifacesOut == Tryz.f12.resultTypes.toList.any (Tryz.prog.ifacesRec ·))) = true := by kernel_rfl
theorem k21 : ((Rows.fnCheckpointRoundTripRow.loopsOut == Tryz.f12.resultTypes.toList.any (Tryz.prog.loopsFrom ·))) = true := by kernel_rfl
theorem k22 : ((Rows.fnCheckpointRoundTripRow.plainKeys == Tryz.prog.plainKeys)) = true := by kernel_rfl
theorem k23 : (Rows.fnCheckpointRoundTripRow.shortTexts.isNone) = true := by kernel_rfl
theorem k26 : ((Rows.fnCheckpointRoundTripRow.lifted == Tryz.prog.liftsFinal)) = true := by rw [facLifts]; kernel_rfl
theorem k27 : ((Tryz.prog.make == some Rows.fnCheckpointRoundTripRow.make)) = true := by rw [facMake]; kernel_rfl
theorem k28 : ((Rows.fnCheckpointRoundTripRow.kinds == (if Rows.fnCheckpointRoundTripRow.domain.isEmpty then [] else Tryz.f12.params.toList.map fun t => match Tryz.prog.underlying t with | some (.int k) => some k | _ => none))) = true := by kernel_rfl
theorem k29 : ((Rows.fnCheckpointRoundTripRow.pinned == Rows.fnCheckpointRoundTripRow.pinnedBy)) = true := by kernel_rfl
theorem k30 : ((Rows.fnCheckpointRoundTripRow.veiled == (Tryz.f12.params.toList ++ Rows.fnCheckpointRoundTripSpec.plain.varTypes Tryz.prog ++ Tryz.f12.resultTypes.toList).any (Tryz.prog.veiledRec ·))) = true := by kernel_rfl
theorem k31 : (Rows.fnCheckpointRoundTripRow.veiledFits Tryz.prog Tryz.f12.params.toList (Tryz.f12.params.toList ++ Rows.fnCheckpointRoundTripSpec.plain.varTypes Tryz.prog ++ Tryz.f12.resultTypes.toList)) = true := by kernel_rfl
theorem closed : joinedFacts Tryz.pinned.checked.prog 12 Tryz.f12 Rows.fnCheckpointRoundTripSpec Rows.fnCheckpointRoundTripRow = true := (and2 (and2 (and2 (and2 (and2 (and2 (and2 (and2 (and2 (and2 (and2 (and2 (and2 (and2 (and2 (and2 (and2 (and2 (and2 (and2 (and2 (and2 (and2 (and2 (and2 (and2 (and2 (and2 (and2 (and2 (and2 k0 fac_laidOut) fac_maps) k3) k4) k5) fac_stops) k7) fac_knobs) k9) k10) k11) k12) k13) k14) k15) k16) k17) k18) k19) k20) k21) k22) k23) fac_heard) facEnter) k26) k27) k28) k29) k30) k31)
theorem named : Tryz.pinned.checked.prog.funcNamed Rows.fnCheckpointRoundTripRow.func = some 12 := by kernel_rfl
theorem over : Rows.fnCheckpointRoundTripRow.holds Tryz.pinned (OpenSpec.ofChange Rows.fnCheckpointRoundTripSpec) :=
  OpenClaim.holds_of_wide 12 Tryz.f12 rfl rfl rfl rfl rfl rfl rfl ⟨rfl, rfl, rfl, rfl, rfl⟩ rfl rfl rfl rfl rfl named Tryz.func12 closed
    (of_decide_eq_true (by kernel_rfl)) (by unfold Func.isWrapper; first | (rw [if_pos (by decide +kernel)]; kernel_rfl) | (rw [if_neg (by decide +kernel)]; exact ⟨rfl, rfl⟩))
    (fun os started H enc _ => lifted os started H enc)
#print axioms over
end Go.Proofs.YtnihikajdbcoaaaGreat.fnCheckpointRoundTrip
namespace Go.Proofs.YtnihikajdbcoaaaGreat
/-- The row, under a short name, for the claim. -/
theorem fnCheckpointRoundTrip_holds : Rows.FnCheckpointRoundTripSaid := fnCheckpointRoundTrip.over
end Go.Proofs.YtnihikajdbcoaaaGreat
