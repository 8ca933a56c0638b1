/- The law FnExactOpWriteBound of the given program answers true for every input; no condition. -/
import Derived.Test.YtnihikajdbcoaaaRows
import Derived.Test.YtnihikajdbcoaaaPkFnExactOpWriteBound1
import Derived.Test.YtnihikajdbcoaaaFac
namespace Go.Proofs.Ytnihikajdbcoaaa.fnExactOpWriteBound
open Go Go.ChangeShapes Go.WideShapes Go.ChangeAt Go.RowKit Go.Proofs.Ytnihikajdbcoaaa.Vai
set_option maxRecDepth 100000
theorem lifted (os : Os) (started : os.Started) (H : Type) (enc : TypeId × Value → H) :
    ReturnsInHanded {} Try.checked os 3 .any (Rows.fnExactOpWriteBoundSpec.pre6 enc Try.prog Try.f3 Rows.fnExactOpWriteBoundRow.domain false) (Rows.fnExactOpWriteBoundSpec.post enc Try.prog Try.f3 false true false false) := by
  refine returnsInHanded_of_change_sized (C := Try.checked) facOwn started (by kernel_rfl) Try.func3
    (ChangeSpec.witness6 (enc := enc) (C := Try.checked) false ⟨#[], #[.agg #[.int .i64 0, .slice none 0 0, .int .i64 0, .slice none 0 0, .slice none 0 0, .slice none 0 0, .slice none 0 0, .int .i64 0, .int .i64 0, .int .i64 0, .int .i64 0, .slice none 0 0, .int .i64 0, .int .i64 0, .slice none 0 0, .int .i64 0, .bool false]], []⟩ 8 (by kernel_rfl) (by kernel_rfl) (by kernel_rfl) (by kernel_rfl)) ?_
  intro W base args ds gs before hval hW hcnd hsz _
  exact law_contract (P := Try.prog) tEok.1 tEok.2 (by kernel_rfl) (f := 3) (tAt 3) rfl rfl (ps := [⟨[.int .i64, .sl 95, .int .i64, .sl 95, .sl 95, .sl 95, .sl 84, .int .i64, .int .i64, .int .i64, .int .i64, .sl 87, .int .i64, .int .i64, .sl 90, .int .i64, .bool], 248, true, [(0, 3), (1, 25), (11, 28), (14, 31)]⟩]) (by kernel_rfl) (bt := 4) rfl rfl (by kernel_rfl) pure_FnExactOpWriteBound (s := Rows.fnExactOpWriteBoundSpec) rfl
    (fun ds h => by
      match ds, h with
      | [d0], _ => rfl) hval hW hsz
theorem k0 : (Rows.fnExactOpWriteBoundRow.wf (OpenSpec.ofChange Rows.fnExactOpWriteBoundSpec)) = true := by kernel_rfl
theorem k3 : (Try.f3.params.all (Try.prog.readableRec ·)) = true := by kernel_rfl
theorem k4 : (namedTie Try.prog Rows.fnExactOpWriteBoundRow.named Rows.fnExactOpWriteBoundSpec.vars) = true := by kernel_rfl
theorem k5 : ((Rows.fnExactOpWriteBoundRow.stops == [])) = true := by kernel_rfl
theorem k7 : ((Rows.fnExactOpWriteBoundRow.knobs == [])) = true := by kernel_rfl
theorem k9 : ((Rows.fnExactOpWriteBoundRow.inPlace == Try.prog.inPlace 3)) = true := by kernel_rfl
theorem k10 : ((Rows.fnExactOpWriteBoundRow.unfollowed == Try.prog.unfollowed 3)) = true := by kernel_rfl
theorem k11 : ((Rows.fnExactOpWriteBoundRow.recurses == Try.prog.recurses 3)) = true := by kernel_rfl
theorem k12 : ((Rows.fnExactOpWriteBoundRow.named == Try.prog.varsNamed 3)) = true := by kernel_rfl
theorem k13 : ((Rows.fnExactOpWriteBoundRow.maps == (Try.f3.params.toList ++ Rows.fnExactOpWriteBoundSpec.plain.varTypes Try.prog).any (Try.prog.mapsRec ·))) = true := by kernel_rfl
theorem k14 : ((Rows.fnExactOpWriteBoundRow.ifaces == (Try.f3.params.toList ++ Rows.fnExactOpWriteBoundSpec.plain.varTypes Try.prog).any (Try.prog.ifacesRec ·))) = true := by kernel_rfl
theorem k15 : ((Rows.fnExactOpWriteBoundRow.mapsOut == Try.prog.mapsAmong Try.f3.resultTypes.toList)) = true := by kernel_rfl
theorem k16 : ((Rows.fnExactOpWriteBoundRow.loops == (Try.f3.params.toList ++ Rows.fnExactOpWriteBoundSpec.plain.varTypes Try.prog).any (Try.prog.loopsFrom ·))) = true := by kernel_rfl
theorem k17 : ((Rows.fnExactOpWriteBoundRow.wideKeys == (Try.f3.params.toList ++ Rows.fnExactOpWriteBoundSpec.plain.varTypes Try.prog ++ Try.f3.resultTypes.toList).any (Try.prog.wideKeysFrom ·))) = true := by kernel_rfl
theorem k18 : (Rows.fnExactOpWriteBoundSpec.vars.all (Try.prog.varReadable ·)) = true := by kernel_rfl
theorem k19 : (Try.f3.resultTypes.all (fun t => Try.prog.readableRec t && decide (t < Try.prog.types.size))) = true := by kernel_rfl
theorem k20 : ((Rows.fnExactOpWriteBoundRow.ifacesOut == Try.f3.resultTypes.toList.any (Try.prog.ifacesRec ·))) = true := by kernel_rfl
theorem k21 : ((Rows.fnExactOpWriteBoundRow.loopsOut == Try.f3.resultTypes.toList.any (Try.prog.loopsFrom ·))) = true := by kernel_rfl
theorem k22 : ((Rows.fnExactOpWriteBoundRow.plainKeys == Try.prog.plainKeys)) = true := by kernel_rfl
theorem k23 : (Rows.fnExactOpWriteBoundRow.shortTexts.isNone) = true := by kernel_rfl
theorem k26 : ((Rows.fnExactOpWriteBoundRow.lifted == Try.prog.liftsFinal)) = true := by rw [facLifts]; kernel_rfl
theorem k27 : ((Try.prog.make == some Rows.fnExactOpWriteBoundRow.make)) = true := by rw [facMake]; kernel_rfl
theorem k28 : ((Rows.fnExactOpWriteBoundRow.kinds == (if Rows.fnExactOpWriteBoundRow.domain.isEmpty then [] else Try.f3.params.toList.map fun t => match Try.prog.underlying t with | some (.int k) => some k | _ => none))) = true := by kernel_rfl
theorem k29 : ((Rows.fnExactOpWriteBoundRow.pinned == Rows.fnExactOpWriteBoundRow.pinnedBy)) = true := by kernel_rfl
theorem k30 : ((Rows.fnExactOpWriteBoundRow.veiled == (Try.f3.params.toList ++ Rows.fnExactOpWriteBoundSpec.plain.varTypes Try.prog ++ Try.f3.resultTypes.toList).any (Try.prog.veiledRec ·))) = true := by kernel_rfl
theorem k31 : (Rows.fnExactOpWriteBoundRow.veiledFits Try.prog Try.f3.params.toList (Try.f3.params.toList ++ Rows.fnExactOpWriteBoundSpec.plain.varTypes Try.prog ++ Try.f3.resultTypes.toList)) = true := by kernel_rfl
theorem closed : joinedFacts Try.pinned.checked.prog 3 Try.f3 Rows.fnExactOpWriteBoundSpec Rows.fnExactOpWriteBoundRow = true := (and2 (and2 (and2 (and2 (and2 (and2 (and2 (and2 (and2 (and2 (and2 (and2 (and2 (and2 (and2 (and2 (and2 (and2 (and2 (and2 (and2 (and2 (and2 (and2 (and2 (and2 (and2 (and2 (and2 (and2 (and2 k0 fac_laidOut) fac_maps) k3) k4) k5) fac_stops) k7) fac_knobs) k9) k10) k11) k12) k13) k14) k15) k16) k17) k18) k19) k20) k21) k22) k23) fac_heard) facEnter) k26) k27) k28) k29) k30) k31)
theorem named : Try.pinned.checked.prog.funcNamed Rows.fnExactOpWriteBoundRow.func = some 3 := by kernel_rfl
theorem over : Rows.fnExactOpWriteBoundRow.holds Try.pinned (OpenSpec.ofChange Rows.fnExactOpWriteBoundSpec) :=
  OpenClaim.holds_of_wide 3 Try.f3 rfl rfl rfl rfl rfl rfl rfl ⟨rfl, rfl, rfl, rfl, rfl⟩ rfl rfl rfl rfl rfl named Try.func3 closed
    (of_decide_eq_true (by kernel_rfl)) (by unfold Func.isWrapper; first | (rw [if_pos (by decide +kernel)]; kernel_rfl) | (rw [if_neg (by decide +kernel)]; exact ⟨rfl, rfl⟩))
    (fun os started H enc _ => lifted os started H enc)
#print axioms over
end Go.Proofs.Ytnihikajdbcoaaa.fnExactOpWriteBound
namespace Go.Proofs.Ytnihikajdbcoaaa
/-- The row, under a short name, for the claim. -/
theorem fnExactOpWriteBound_holds : Rows.FnExactOpWriteBoundSaid := fnExactOpWriteBound.over
end Go.Proofs.Ytnihikajdbcoaaa
