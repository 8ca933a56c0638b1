/- The law FnExactRoundBound of the given program answers true for every input; no condition. -/
import Derived.Test.YtceoogjanfbdcaaGreatRows
import Derived.Test.YtceoogjanfbdcaaGreatPkFnExactRoundBound2
import Derived.Test.YtceoogjanfbdcaaGreatFac
namespace Go.Proofs.YtceoogjanfbdcaaGreat.fnExactRoundBound
open Go Go.ChangeShapes Go.WideShapes Go.ChangeAt Go.RowKit Go.Proofs.YtceoogjanfbdcaaGreat.Vai
set_option maxRecDepth 100000
theorem lifted (os : Os) (started : os.Started) (H : Type) (enc : TypeId × Value → H) :
    ReturnsInHanded {} Tryz.checked os 11 .any (Rows.fnExactRoundBoundSpec.pre6 enc Tryz.prog Tryz.f11 Rows.fnExactRoundBoundRow.domain false) (Rows.fnExactRoundBoundSpec.post enc Tryz.prog Tryz.f11 false true false false) := by
  refine returnsInHanded_of_change_sized (C := Tryz.checked) facOwn started (by kernel_rfl) Tryz.func11
    (ChangeSpec.witness6 (enc := enc) (C := Tryz.checked) false ⟨#[], #[.agg #[.int .i64 0, .int .i64 0, .slice none 0 0, .slice none 0 0, .slice none 0 0, .int .i64 0]], []⟩ 8 (by kernel_rfl) (by kernel_rfl) (by kernel_rfl) (by kernel_rfl)) ?_
  intro W base args ds gs before hval hW hcnd hsz _
  exact law_contract (P := Tryz.prog) tEok.1 tEok.2 (by kernel_rfl) (f := 11) (tAt 11) rfl rfl (ps := [⟨[.int .i64, .int .i64, .sl 250, .sl 250, .sl 208, .int .i64], 96, true, [(0, 61), (4, 62), (5, 3)]⟩]) (by kernel_rfl) (bt := 4) rfl rfl (by kernel_rfl) pure_FnExactRoundBound (s := Rows.fnExactRoundBoundSpec) rfl
    (fun ds h => by
      match ds, h with
      | [d0], _ => rfl) hval hW hsz
theorem k0 : (Rows.fnExactRoundBoundRow.wf (OpenSpec.ofChange Rows.fnExactRoundBoundSpec)) = true := by kernel_rfl
theorem k3 : (Tryz.f11.params.all (Tryz.prog.readableRec ·)) = true := by kernel_rfl
theorem k4 : (namedTie Tryz.prog Rows.fnExactRoundBoundRow.named Rows.fnExactRoundBoundSpec.vars) = true := by kernel_rfl
theorem k5 : ((Rows.fnExactRoundBoundRow.stops == [])) = true := by kernel_rfl
theorem k7 : ((Rows.fnExactRoundBoundRow.knobs == [])) = true := by kernel_rfl
theorem k9 : ((Rows.fnExactRoundBoundRow.inPlace == Tryz.prog.inPlace 11)) = true := by kernel_rfl
theorem k10 : ((Rows.fnExactRoundBoundRow.unfollowed == Tryz.prog.unfollowed 11)) = true := by kernel_rfl
theorem k11 : ((Rows.fnExactRoundBoundRow.recurses == Tryz.prog.recurses 11)) = true := by kernel_rfl
theorem k12 : ((Rows.fnExactRoundBoundRow.named == Tryz.prog.varsNamed 11)) = true := by kernel_rfl
theorem k13 : ((Rows.fnExactRoundBoundRow.maps == (Tryz.f11.params.toList ++ Rows.fnExactRoundBoundSpec.plain.varTypes Tryz.prog).any (Tryz.prog.mapsRec ·))) = true := by kernel_rfl
theorem k14 : ((Rows.fnExactRoundBoundRow.ifaces == (Tryz.f11.params.toList ++ Rows.fnExactRoundBoundSpec.plain.varTypes Tryz.prog).any (Tryz.prog.ifacesRec ·))) = true := by kernel_rfl
theorem k15 : ((Rows.fnExactRoundBoundRow.mapsOut == Tryz.prog.mapsAmong Tryz.f11.resultTypes.toList)) = true := by kernel_rfl
theorem k16 : ((Rows.fnExactRoundBoundRow.loops == (Tryz.f11.params.toList ++ Rows.fnExactRoundBoundSpec.plain.varTypes Tryz.prog).any (Tryz.prog.loopsFrom ·))) = true := by kernel_rfl
theorem k17 : ((Rows.fnExactRoundBoundRow.wideKeys == (Tryz.f11.params.toList ++ Rows.fnExactRoundBoundSpec.plain.varTypes Tryz.prog ++ Tryz.f11.resultTypes.toList).any (Tryz.prog.wideKeysFrom ·))) = true := by kernel_rfl
theorem k18 : (Rows.fnExactRoundBoundSpec.vars.all (Tryz.prog.varReadable ·)) = true := by kernel_rfl
theorem k19 : (Tryz.f11.resultTypes.all (fun t => Tryz.prog.readableRec t && decide (t < Tryz.prog.types.size))) = true := by kernel_rfl
theorem k20 : ((Rows.fnExactRoundBoundRow.ifacesOut == Tryz.f11.resultTypes.toList.any (Tryz.prog.ifacesRec ·))) = true := by kernel_rfl
theorem k21 : ((Rows.fnExactRoundBoundRow.loopsOut == Tryz.f11.resultTypes.toList.any (Tryz.prog.loopsFrom ·))) = true := by kernel_rfl
theorem k22 : ((Rows.fnExactRoundBoundRow.plainKeys == Tryz.prog.plainKeys)) = true := by kernel_rfl
theorem k23 : (Rows.fnExactRoundBoundRow.shortTexts.isNone) = true := by kernel_rfl
theorem k26 : ((Rows.fnExactRoundBoundRow.lifted == Tryz.prog.liftsFinal)) = true := by rw [facLifts]; kernel_rfl
theorem k27 : ((Tryz.prog.make == some Rows.fnExactRoundBoundRow.make)) = true := by rw [facMake]; kernel_rfl
theorem k28 : ((Rows.fnExactRoundBoundRow.kinds == (if Rows.fnExactRoundBoundRow.domain.isEmpty then [] else Tryz.f11.params.toList.map fun t => match Tryz.prog.underlying t with | some (.int k) => some k | _ => none))) = true := by kernel_rfl
theorem k29 : ((Rows.fnExactRoundBoundRow.pinned == Rows.fnExactRoundBoundRow.pinnedBy)) = true := by kernel_rfl
theorem k30 : ((Rows.fnExactRoundBoundRow.veiled == (Tryz.f11.params.toList ++ Rows.fnExactRoundBoundSpec.plain.varTypes Tryz.prog ++ Tryz.f11.resultTypes.toList).any (Tryz.prog.veiledRec ·))) = true := by kernel_rfl
theorem k31 : (Rows.fnExactRoundBoundRow.veiledFits Tryz.prog Tryz.f11.params.toList (Tryz.f11.params.toList ++ Rows.fnExactRoundBoundSpec.plain.varTypes Tryz.prog ++ Tryz.f11.resultTypes.toList)) = true := by kernel_rfl
theorem closed : joinedFacts Tryz.pinned.checked.prog 11 Tryz.f11 Rows.fnExactRoundBoundSpec Rows.fnExactRoundBoundRow = true := (and2 (and2 (and2 (and2 (and2 (and2 (and2 (and2 (and2 (and2 (and2 (and2 (and2 (and2 (and2 (and2 (and2 (and2 (and2 (and2 (and2 (and2 (and2 (and2 (and2 (and2 (and2 (and2 (and2 (and2 (and2 k0 fac_laidOut) fac_maps) k3) k4) k5) fac_stops) k7) fac_knobs) k9) k10) k11) k12) k13) k14) k15) k16) k17) k18) k19) k20) k21) k22) k23) fac_heard) facEnter) k26) k27) k28) k29) k30) k31)
theorem named : Tryz.pinned.checked.prog.funcNamed Rows.fnExactRoundBoundRow.func = some 11 := by kernel_rfl
theorem over : Rows.fnExactRoundBoundRow.holds Tryz.pinned (OpenSpec.ofChange Rows.fnExactRoundBoundSpec) :=
  OpenClaim.holds_of_wide 11 Tryz.f11 rfl rfl rfl rfl rfl rfl rfl ⟨rfl, rfl, rfl, rfl, rfl⟩ rfl rfl rfl rfl rfl named Tryz.func11 closed
    (of_decide_eq_true (by kernel_rfl)) (by unfold Func.isWrapper; first | (rw [if_pos (by decide +kernel)]; kernel_rfl) | (rw [if_neg (by decide +kernel)]; exact ⟨rfl, rfl⟩))
    (fun os started H enc _ => lifted os started H enc)
#print axioms over
end Go.Proofs.YtceoogjanfbdcaaGreat.fnExactRoundBound
namespace Go.Proofs.YtceoogjanfbdcaaGreat
/-- The row, under a short name, for the claim. -/
theorem fnExactRoundBound_holds : Rows.FnExactRoundBoundSaid := fnExactRoundBound.over
end Go.Proofs.YtceoogjanfbdcaaGreat
