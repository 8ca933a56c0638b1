/- The law FnExactAllDone of the given program answers true for every input; no condition. -/
import Derived.Test.YtceoogjanfbdcaaGreatRows
import Derived.Test.YtceoogjanfbdcaaGreatPkFnExactAllDone2
import Derived.Test.YtceoogjanfbdcaaGreatFac
namespace Go.Proofs.YtceoogjanfbdcaaGreat.fnExactAllDone
open Go Go.ChangeShapes Go.WideShapes Go.ChangeAt Go.RowKit Go.Proofs.YtceoogjanfbdcaaGreat.Vai
set_option maxRecDepth 100000
theorem lifted (os : Os) (started : os.Started) (H : Type) (enc : TypeId × Value → H) :
    ReturnsInHanded {} Tryz.checked os 9 .any (Rows.fnExactAllDoneSpec.pre6 enc Tryz.prog Tryz.f9 Rows.fnExactAllDoneRow.domain false) (Rows.fnExactAllDoneSpec.post enc Tryz.prog Tryz.f9 false true false false) := by
  refine returnsInHanded_of_change_sized (C := Tryz.checked) facOwn started (by kernel_rfl) Tryz.func9
    (ChangeSpec.witness6 (enc := enc) (C := Tryz.checked) false ⟨#[], #[.agg #[.int .i64 0, .int .i64 0, .slice none 0 0, .slice none 0 0, .slice none 0 0, .int .i64 0]], []⟩ 8 (by kernel_rfl) (by kernel_rfl) (by kernel_rfl) (by kernel_rfl)) ?_
  intro W base args ds gs before hval hW hcnd hsz _
  exact law_contract (P := Tryz.prog) tEok.1 tEok.2 (by kernel_rfl) (f := 9) (tAt 9) rfl rfl (ps := [⟨[.int .i64, .int .i64, .sl 250, .sl 250, .sl 208, .int .i64], 96, true, [(0, 61), (4, 62), (5, 3)]⟩]) (by kernel_rfl) (bt := 4) rfl rfl (by kernel_rfl) pure_FnExactAllDone (s := Rows.fnExactAllDoneSpec) rfl
    (fun ds h => by
      match ds, h with
      | [d0], _ => rfl) hval hW hsz
theorem k0 : (Rows.fnExactAllDoneRow.wf (OpenSpec.ofChange Rows.fnExactAllDoneSpec)) = true := by kernel_rfl
theorem k3 : (Tryz.f9.params.all (Tryz.prog.readableRec ·)) = true := by kernel_rfl
theorem k4 : (namedTie Tryz.prog Rows.fnExactAllDoneRow.named Rows.fnExactAllDoneSpec.vars) = true := by kernel_rfl
theorem k5 : ((Rows.fnExactAllDoneRow.stops == [])) = true := by kernel_rfl
theorem k7 : ((Rows.fnExactAllDoneRow.knobs == [])) = true := by kernel_rfl
theorem k9 : ((Rows.fnExactAllDoneRow.inPlace == Tryz.prog.inPlace 9)) = true := by kernel_rfl
theorem k10 : ((Rows.fnExactAllDoneRow.unfollowed == Tryz.prog.unfollowed 9)) = true := by kernel_rfl
theorem k11 : ((Rows.fnExactAllDoneRow.recurses == Tryz.prog.recurses 9)) = true := by kernel_rfl
theorem k12 : ((Rows.fnExactAllDoneRow.named == Tryz.prog.varsNamed 9)) = true := by kernel_rfl
theorem k13 : ((Rows.fnExactAllDoneRow.maps == (Tryz.f9.params.toList ++ Rows.fnExactAllDoneSpec.plain.varTypes Tryz.prog).any (Tryz.prog.mapsRec ·))) = true := by kernel_rfl
theorem k14 : ((Rows.fnExactAllDoneRow.ifaces == (Tryz.f9.params.toList ++ Rows.fnExactAllDoneSpec.plain.varTypes Tryz.prog).any (Tryz.prog.ifacesRec ·))) = true := by kernel_rfl
theorem k15 : ((Rows.fnExactAllDoneRow.mapsOut == Tryz.prog.mapsAmong Tryz.f9.resultTypes.toList)) = true := by kernel_rfl
theorem k16 : ((Rows.fnExactAllDoneRow.loops == (Tryz.f9.params.toList ++ Rows.fnExactAllDoneSpec.plain.varTypes Tryz.prog).any (Tryz.prog.loopsFrom ·))) = true := by kernel_rfl
theorem k17 : ((Rows.fnExactAllDoneRow.wideKeys == (Tryz.f9.params.toList ++ Rows.fnExactAllDoneSpec.plain.varTypes Tryz.prog ++ Tryz.f9.resultTypes.toList).any (Tryz.prog.wideKeysFrom ·))) = true := by kernel_rfl
theorem k18 : (Rows.fnExactAllDoneSpec.vars.all (Tryz.prog.varReadable ·)) = true := by kernel_rfl
theorem k19 : (Tryz.f9.resultTypes.all (fun t => Tryz.prog.readableRec t && decide (t < Tryz.prog.types.size))) = true := by kernel_rfl
theorem k20 : ((Rows.fnExactAllDoneRow.ifacesOut == Tryz.f9.resultTypes.toList.any (Tryz.prog.ifacesRec ·))) = true := by kernel_rfl
theorem k21 : ((Rows.fnExactAllDoneRow.loopsOut == Tryz.f9.resultTypes.toList.any (Tryz.prog.loopsFrom ·))) = true := by kernel_rfl
theorem k22 : ((Rows.fnExactAllDoneRow.plainKeys == Tryz.prog.plainKeys)) = true := by kernel_rfl
theorem k23 : (Rows.fnExactAllDoneRow.shortTexts.isNone) = true := by kernel_rfl
theorem k26 : ((Rows.fnExactAllDoneRow.lifted == Tryz.prog.liftsFinal)) = true := by rw [facLifts]; kernel_rfl
theorem k27 : ((Tryz.prog.make == some Rows.fnExactAllDoneRow.make)) = true := by rw [facMake]; kernel_rfl
theorem k28 : ((Rows.fnExactAllDoneRow.kinds == (if Rows.fnExactAllDoneRow.domain.isEmpty then [] else Tryz.f9.params.toList.map fun t => match Tryz.prog.underlying t with | some (.int k) => some k | _ => none))) = true := by kernel_rfl
theorem k29 : ((Rows.fnExactAllDoneRow.pinned == Rows.fnExactAllDoneRow.pinnedBy)) = true := by kernel_rfl
theorem k30 : ((Rows.fnExactAllDoneRow.veiled == (Tryz.f9.params.toList ++ Rows.fnExactAllDoneSpec.plain.varTypes Tryz.prog ++ Tryz.f9.resultTypes.toList).any (Tryz.prog.veiledRec ·))) = true := by kernel_rfl
theorem k31 : (Rows.fnExactAllDoneRow.veiledFits Tryz.prog Tryz.f9.params.toList (Tryz.f9.params.toList ++ Rows.fnExactAllDoneSpec.plain.varTypes Tryz.prog ++ Tryz.f9.resultTypes.toList)) = true := by kernel_rfl
theorem closed : joinedFacts Tryz.pinned.checked.prog 9 Tryz.f9 Rows.fnExactAllDoneSpec Rows.fnExactAllDoneRow = true := (and2 (and2 (and2 (and2 (and2 (and2 (and2 (and2 (and2 (and2 (and2 (and2 (and2 (and2 (and2 (and2 (and2 (and2 (and2 (and2 (and2 (and2 (and2 (and2 (and2 (and2 (and2 (and2 (and2 (and2 (and2 k0 fac_laidOut) fac_maps) k3) k4) k5) fac_stops) k7) fac_knobs) k9) k10) k11) k12) k13) k14) k15) k16) k17) k18) k19) k20) k21) k22) k23) fac_heard) facEnter) k26) k27) k28) k29) k30) k31)
theorem named : Tryz.pinned.checked.prog.funcNamed Rows.fnExactAllDoneRow.func = some 9 := by kernel_rfl
theorem over : Rows.fnExactAllDoneRow.holds Tryz.pinned (OpenSpec.ofChange Rows.fnExactAllDoneSpec) :=
  OpenClaim.holds_of_wide 9 Tryz.f9 rfl rfl rfl rfl rfl rfl rfl ⟨rfl, rfl, rfl, rfl, rfl⟩ rfl rfl rfl rfl rfl named Tryz.func9 closed
    (of_decide_eq_true (by kernel_rfl)) (by unfold Func.isWrapper; first | (rw [if_pos (by decide +kernel)]; kernel_rfl) | (rw [if_neg (by decide +kernel)]; exact ⟨rfl, rfl⟩))
    (fun os started H enc _ => lifted os started H enc)
#print axioms over
end Go.Proofs.YtceoogjanfbdcaaGreat.fnExactAllDone
namespace Go.Proofs.YtceoogjanfbdcaaGreat
/-- The row, under a short name, for the claim. -/
theorem fnExactAllDone_holds : Rows.FnExactAllDoneSaid := fnExactAllDone.over
end Go.Proofs.YtceoogjanfbdcaaGreat
