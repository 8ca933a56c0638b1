/- The law FnExactOutputOf of the given program answers true for every input; no condition. -/
import Derived.Test.YtnihikajdbcoaaaGreatRows
import Derived.Test.YtnihikajdbcoaaaGreatPkFnExactOutputOf2
import Derived.Test.YtnihikajdbcoaaaGreatFac
namespace Go.Proofs.YtnihikajdbcoaaaGreat.fnExactOutputOf
open Go Go.ChangeShapes Go.WideShapes Go.ChangeAt Go.RowKit Go.Proofs.YtnihikajdbcoaaaGreat.Vai
set_option maxRecDepth 100000
theorem lifted (os : Os) (started : os.Started) (H : Type) (enc : TypeId × Value → H) :
    ReturnsInHanded {} Tryz.checked os 14 .any (Rows.fnExactOutputOfSpec.pre6 enc Tryz.prog Tryz.f14 Rows.fnExactOutputOfRow.domain false) (Rows.fnExactOutputOfSpec.post enc Tryz.prog Tryz.f14 false true false false) := by
  refine returnsInHanded_of_change_sized (C := Tryz.checked) facOwn started (by kernel_rfl) Tryz.func14
    (ChangeSpec.witness6 (enc := enc) (C := Tryz.checked) false ⟨#[], #[.agg #[.int .i64 0, .int .i64 0, .slice none 0 0, .slice none 0 0, .slice none 0 0, .int .i64 0], .int .i64 0], []⟩ 8 (by kernel_rfl) (by kernel_rfl) (by kernel_rfl) (by kernel_rfl)) ?_
  intro W base args ds gs before hval hW hcnd hsz _
  exact law_contract (P := Tryz.prog) tEok.1 tEok.2 (by kernel_rfl) (f := 14) (tAt 14) rfl rfl (ps := [⟨[.int .i64, .int .i64, .sl 355, .sl 355, .sl 253, .int .i64], 96, true, [(0, 24), (4, 25), (5, 3)]⟩, ⟨[.int .i64], 8, false, []⟩]) (by kernel_rfl) (bt := 4) rfl rfl (by kernel_rfl) pure_FnExactOutputOf (s := Rows.fnExactOutputOfSpec) rfl
    (fun ds h => by
      match ds, h with
      | [d0, d1], _ => rfl) hval hW hsz
theorem k0 : (Rows.fnExactOutputOfRow.wf (OpenSpec.ofChange Rows.fnExactOutputOfSpec)) = true := by kernel_rfl
theorem k3 : (Tryz.f14.params.all (Tryz.prog.readableRec ·)) = true := by kernel_rfl
theorem k4 : (namedTie Tryz.prog Rows.fnExactOutputOfRow.named Rows.fnExactOutputOfSpec.vars) = true := by kernel_rfl
theorem k5 : ((Rows.fnExactOutputOfRow.stops == [])) = true := by kernel_rfl
theorem k7 : ((Rows.fnExactOutputOfRow.knobs == [])) = true := by kernel_rfl
theorem k9 : ((Rows.fnExactOutputOfRow.inPlace == Tryz.prog.inPlace 14)) = true := by kernel_rfl
theorem k10 : ((Rows.fnExactOutputOfRow.unfollowed == Tryz.prog.unfollowed 14)) = true := by kernel_rfl
theorem k11 : ((Rows.fnExactOutputOfRow.recurses == Tryz.prog.recurses 14)) = true := by kernel_rfl
theorem k12 : ((Rows.fnExactOutputOfRow.named == Tryz.prog.varsNamed 14)) = true := by kernel_rfl
theorem k13 : ((Rows.fnExactOutputOfRow.maps == (Tryz.f14.params.toList ++ Rows.fnExactOutputOfSpec.plain.varTypes Tryz.prog).any (Tryz.prog.mapsRec ·))) = true := by kernel_rfl
theorem k14 : ((Rows.fnExactOutputOfRow.ifaces == (Tryz.f14.params.toList ++ Rows.fnExactOutputOfSpec.plain.varTypes Tryz.prog).any (Tryz.prog.ifacesRec ·))) = true := by kernel_rfl
theorem k15 : ((Rows.fnExactOutputOfRow.mapsOut == Tryz.prog.mapsAmong Tryz.f14.resultTypes.toList)) = true := by kernel_rfl
theorem k16 : ((Rows.fnExactOutputOfRow.loops == (Tryz.f14.params.toList ++ Rows.fnExactOutputOfSpec.plain.varTypes Tryz.prog).any (Tryz.prog.loopsFrom ·))) = true := by kernel_rfl
theorem k17 : ((Rows.fnExactOutputOfRow.wideKeys == (Tryz.f14.params.toList ++ Rows.fnExactOutputOfSpec.plain.varTypes Tryz.prog ++ Tryz.f14.resultTypes.toList).any (Tryz.prog.wideKeysFrom ·))) = true := by kernel_rfl
theorem k18 : (Rows.fnExactOutputOfSpec.vars.all (Tryz.prog.varReadable ·)) = true := by kernel_rfl
theorem k19 : (Tryz.f14.resultTypes.all (fun t => Tryz.prog.readableRec t && decide (t < Tryz.prog.types.size))) = true := by kernel_rfl
theorem k20 : ((Rows.fnExactOutputOfRow.ifacesOut == Tryz.f14.resultTypes.toList.any (Tryz.prog.ifacesRec ·))) = true := by kernel_rfl
theorem k21 : ((Rows.fnExactOutputOfRow.loopsOut == Tryz.f14.resultTypes.toList.any (Tryz.prog.loopsFrom ·))) = true := by kernel_rfl
theorem k22 : ((Rows.fnExactOutputOfRow.plainKeys == Tryz.prog.plainKeys)) = true := by kernel_rfl
theorem k23 : (Rows.fnExactOutputOfRow.shortTexts.isNone) = true := by kernel_rfl
theorem k26 : ((Rows.fnExactOutputOfRow.lifted == Tryz.prog.liftsFinal)) = true := by rw [facLifts]; kernel_rfl
theorem k27 : ((Tryz.prog.make == some Rows.fnExactOutputOfRow.make)) = true := by rw [facMake]; kernel_rfl
theorem k28 : ((Rows.fnExactOutputOfRow.kinds == (if Rows.fnExactOutputOfRow.domain.isEmpty then [] else Tryz.f14.params.toList.map fun t => match Tryz.prog.underlying t with | some (.int k) => some k | _ => none))) = true := by kernel_rfl
theorem k29 : ((Rows.fnExactOutputOfRow.pinned == Rows.fnExactOutputOfRow.pinnedBy)) = true := by kernel_rfl
theorem k30 : ((Rows.fnExactOutputOfRow.veiled == (Tryz.f14.params.toList ++ Rows.fnExactOutputOfSpec.plain.varTypes Tryz.prog ++ Tryz.f14.resultTypes.toList).any (Tryz.prog.veiledRec ·))) = true := by kernel_rfl
theorem k31 : (Rows.fnExactOutputOfRow.veiledFits Tryz.prog Tryz.f14.params.toList (Tryz.f14.params.toList ++ Rows.fnExactOutputOfSpec.plain.varTypes Tryz.prog ++ Tryz.f14.resultTypes.toList)) = true := by kernel_rfl
theorem closed : joinedFacts Tryz.pinned.checked.prog 14 Tryz.f14 Rows.fnExactOutputOfSpec Rows.fnExactOutputOfRow = true := (and2 (and2 (and2 (and2 (and2 (and2 (and2 (and2 (and2 (and2 (and2 (and2 (and2 (and2 (and2 (and2 (and2 (and2 (and2 (and2 (and2 (and2 (and2 (and2 (and2 (and2 (and2 (and2 (and2 (and2 (and2 k0 fac_laidOut) fac_maps) k3) k4) k5) fac_stops) k7) fac_knobs) k9) k10) k11) k12) k13) k14) k15) k16) k17) k18) k19) k20) k21) k22) k23) fac_heard) facEnter) k26) k27) k28) k29) k30) k31)
theorem named : Tryz.pinned.checked.prog.funcNamed Rows.fnExactOutputOfRow.func = some 14 := by kernel_rfl
theorem over : Rows.fnExactOutputOfRow.holds Tryz.pinned (OpenSpec.ofChange Rows.fnExactOutputOfSpec) :=
  OpenClaim.holds_of_wide 14 Tryz.f14 rfl rfl rfl rfl rfl rfl rfl ⟨rfl, rfl, rfl, rfl, rfl⟩ rfl rfl rfl rfl rfl named Tryz.func14 closed
    (of_decide_eq_true (by kernel_rfl)) (by unfold Func.isWrapper; first | (rw [if_pos (by decide +kernel)]; kernel_rfl) | (rw [if_neg (by decide +kernel)]; exact ⟨rfl, rfl⟩))
    (fun os started H enc _ => lifted os started H enc)
#print axioms over
end Go.Proofs.YtnihikajdbcoaaaGreat.fnExactOutputOf
namespace Go.Proofs.YtnihikajdbcoaaaGreat
/-- The row, under a short name, for the claim. -/
theorem fnExactOutputOf_holds : Rows.FnExactOutputOfSaid := fnExactOutputOf.over
end Go.Proofs.YtnihikajdbcoaaaGreat
