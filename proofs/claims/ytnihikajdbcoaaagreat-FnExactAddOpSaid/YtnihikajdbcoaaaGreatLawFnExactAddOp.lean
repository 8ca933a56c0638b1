/- The law FnExactAddOp of the given program answers true for every input; no condition. -/
import Derived.Test.YtnihikajdbcoaaaGreatRows
import Derived.Test.YtnihikajdbcoaaaGreatPkFnExactAddOp2
import Derived.Test.YtnihikajdbcoaaaGreatFac
namespace Go.Proofs.YtnihikajdbcoaaaGreat.fnExactAddOp
open Go Go.ChangeShapes Go.WideShapes Go.ChangeAt Go.RowKit Go.Proofs.YtnihikajdbcoaaaGreat.Vai
set_option maxRecDepth 100000
theorem lifted (os : Os) (started : os.Started) (H : Type) (enc : TypeId × Value → H) :
    ReturnsInHanded {} Tryz.checked os 3 .any (Rows.fnExactAddOpSpec.pre6 enc Tryz.prog Tryz.f3 Rows.fnExactAddOpRow.domain false) (Rows.fnExactAddOpSpec.post enc Tryz.prog Tryz.f3 false true false false) := by
  refine returnsInHanded_of_change_sized (C := Tryz.checked) facOwn started (by kernel_rfl) Tryz.func3
    (ChangeSpec.witness6 (enc := enc) (C := Tryz.checked) false ⟨#[], #[.agg #[.int .i64 0, .int .i64 0, .slice none 0 0, .slice none 0 0, .slice none 0 0, .int .i64 0], .agg #[.int .i64 0, .slice none 0 0, .int .i64 0, .slice none 0 0, .slice none 0 0, .slice none 0 0, .slice none 0 0, .int .i64 0, .int .i64 0, .int .i64 0, .int .i64 0, .slice none 0 0, .int .i64 0, .int .i64 0, .slice none 0 0, .int .i64 0, .bool false], .int .i64 0, .int .i64 0], []⟩ 8 (by kernel_rfl) (by kernel_rfl) (by kernel_rfl) (by kernel_rfl)) ?_
  intro W base args ds gs before hval hW hcnd hsz _
  exact law_contract (P := Tryz.prog) tEok.1 tEok.2 (by kernel_rfl) (f := 3) (tAt 3) rfl rfl (ps := [⟨[.int .i64, .int .i64, .sl 355, .sl 355, .sl 253, .int .i64], 96, true, [(0, 24), (4, 25), (5, 3)]⟩, ⟨[.int .i64, .sl 242, .int .i64, .sl 242, .sl 242, .sl 242, .sl 345, .int .i64, .int .i64, .int .i64, .int .i64, .sl 348, .int .i64, .int .i64, .sl 351, .int .i64, .bool], 248, true, [(0, 3), (1, 31), (11, 34), (14, 37)]⟩, ⟨[.int .i64], 8, false, []⟩, ⟨[.int .i64], 8, false, []⟩]) (by kernel_rfl) (bt := 4) rfl rfl (by kernel_rfl) pure_FnExactAddOp (s := Rows.fnExactAddOpSpec) rfl
    (fun ds h => by
      match ds, h with
      | [d0, d1, d2, d3], _ => rfl) hval hW hsz
theorem k0 : (Rows.fnExactAddOpRow.wf (OpenSpec.ofChange Rows.fnExactAddOpSpec)) = true := by kernel_rfl
theorem k3 : (Tryz.f3.params.all (Tryz.prog.readableRec ·)) = true := by kernel_rfl
theorem k4 : (namedTie Tryz.prog Rows.fnExactAddOpRow.named Rows.fnExactAddOpSpec.vars) = true := by kernel_rfl
theorem k5 : ((Rows.fnExactAddOpRow.stops == [])) = true := by kernel_rfl
theorem k7 : ((Rows.fnExactAddOpRow.knobs == [])) = true := by kernel_rfl
theorem k9 : ((Rows.fnExactAddOpRow.inPlace == Tryz.prog.inPlace 3)) = true := by kernel_rfl
theorem k10 : ((Rows.fnExactAddOpRow.unfollowed == Tryz.prog.unfollowed 3)) = true := by kernel_rfl
theorem k11 : ((Rows.fnExactAddOpRow.recurses == Tryz.prog.recurses 3)) = true := by kernel_rfl
theorem k12 : ((Rows.fnExactAddOpRow.named == Tryz.prog.varsNamed 3)) = true := by kernel_rfl
theorem k13 : ((Rows.fnExactAddOpRow.maps == (Tryz.f3.params.toList ++ Rows.fnExactAddOpSpec.plain.varTypes Tryz.prog).any (Tryz.prog.mapsRec ·))) = true := by kernel_rfl
theorem k14 : ((Rows.fnExactAddOpRow.ifaces == (Tryz.f3.params.toList ++ Rows.fnExactAddOpSpec.plain.varTypes Tryz.prog).any (Tryz.prog.ifacesRec ·))) = true := by kernel_rfl
theorem k15 : ((Rows.fnExactAddOpRow.mapsOut == Tryz.prog.mapsAmong Tryz.f3.resultTypes.toList)) = true := by kernel_rfl
theorem k16 : ((Rows.fnExactAddOpRow.loops == (Tryz.f3.params.toList ++ Rows.fnExactAddOpSpec.plain.varTypes Tryz.prog).any (Tryz.prog.loopsFrom ·))) = true := by kernel_rfl
theorem k17 : ((Rows.fnExactAddOpRow.wideKeys == (Tryz.f3.params.toList ++ Rows.fnExactAddOpSpec.plain.varTypes Tryz.prog ++ Tryz.f3.resultTypes.toList).any (Tryz.prog.wideKeysFrom ·))) = true := by kernel_rfl
theorem k18 : (Rows.fnExactAddOpSpec.vars.all (Tryz.prog.varReadable ·)) = true := by kernel_rfl
theorem k19 : (Tryz.f3.resultTypes.all (fun t => Tryz.prog.readableRec t && decide (t < Tryz.prog.types.size))) = true := by kernel_rfl
theorem k20 : ((Rows.fnExactAddOpRow.ifacesOut == Tryz.f3.resultTypes.toList.any (Tryz.prog.ifacesRec ·))) = true := by kernel_rfl
theorem k21 : ((Rows.fnExactAddOpRow.loopsOut == Tryz.f3.resultTypes.toList.any (Tryz.prog.loopsFrom ·))) = true := by kernel_rfl
theorem k22 : ((Rows.fnExactAddOpRow.plainKeys == Tryz.prog.plainKeys)) = true := by kernel_rfl
theorem k23 : (Rows.fnExactAddOpRow.shortTexts.isNone) = true := by kernel_rfl
theorem k26 : ((Rows.fnExactAddOpRow.lifted == Tryz.prog.liftsFinal)) = true := by rw [facLifts]; kernel_rfl
theorem k27 : ((Tryz.prog.make == some Rows.fnExactAddOpRow.make)) = true := by rw [facMake]; kernel_rfl
theorem k28 : ((Rows.fnExactAddOpRow.kinds == (if Rows.fnExactAddOpRow.domain.isEmpty then [] else Tryz.f3.params.toList.map fun t => match Tryz.prog.underlying t with | some (.int k) => some k | _ => none))) = true := by kernel_rfl
theorem k29 : ((Rows.fnExactAddOpRow.pinned == Rows.fnExactAddOpRow.pinnedBy)) = true := by kernel_rfl
theorem k30 : ((Rows.fnExactAddOpRow.veiled == (Tryz.f3.params.toList ++ Rows.fnExactAddOpSpec.plain.varTypes Tryz.prog ++ Tryz.f3.resultTypes.toList).any (Tryz.prog.veiledRec ·))) = true := by kernel_rfl
theorem k31 : (Rows.fnExactAddOpRow.veiledFits Tryz.prog Tryz.f3.params.toList (Tryz.f3.params.toList ++ Rows.fnExactAddOpSpec.plain.varTypes Tryz.prog ++ Tryz.f3.resultTypes.toList)) = true := by kernel_rfl
theorem closed : joinedFacts Tryz.pinned.checked.prog 3 Tryz.f3 Rows.fnExactAddOpSpec Rows.fnExactAddOpRow = true := (and2 (and2 (and2 (and2 (and2 (and2 (and2 (and2 (and2 (and2 (and2 (and2 (and2 (and2 (and2 (and2 (and2 (and2 (and2 (and2 (and2 (and2 (and2 (and2 (and2 (and2 (and2 (and2 (and2 (and2 (and2 k0 fac_laidOut) fac_maps) k3) k4) k5) fac_stops) k7) fac_knobs) k9) k10) k11) k12) k13) k14) k15) k16) k17) k18) k19) k20) k21) k22) k23) fac_heard) facEnter) k26) k27) k28) k29) k30) k31)
theorem named : Tryz.pinned.checked.prog.funcNamed Rows.fnExactAddOpRow.func = some 3 := by kernel_rfl
theorem over : Rows.fnExactAddOpRow.holds Tryz.pinned (OpenSpec.ofChange Rows.fnExactAddOpSpec) :=
  OpenClaim.holds_of_wide 3 Tryz.f3 rfl rfl rfl rfl rfl rfl rfl ⟨rfl, rfl, rfl, rfl, rfl⟩ rfl rfl rfl rfl rfl named Tryz.func3 closed
    (of_decide_eq_true (by kernel_rfl)) (by unfold Func.isWrapper; first | (rw [if_pos (by decide +kernel)]; kernel_rfl) | (rw [if_neg (by decide +kernel)]; exact ⟨rfl, rfl⟩))
    (fun os started H enc _ => lifted os started H enc)
#print axioms over
end Go.Proofs.YtnihikajdbcoaaaGreat.fnExactAddOp
namespace Go.Proofs.YtnihikajdbcoaaaGreat
/-- The row, under a short name, for the claim. -/
theorem fnExactAddOp_holds : Rows.FnExactAddOpSaid := fnExactAddOp.over
end Go.Proofs.YtnihikajdbcoaaaGreat
