/- The law FnExactFormatOp of the given program answers true for every input; no condition. -/
import Derived.Test.YtbmafhpbinjgaaaGreatRows
import Derived.Test.YtbmafhpbinjgaaaGreatPkFnExactFormatOp2
import Derived.Test.YtbmafhpbinjgaaaGreatFac
namespace Go.Proofs.YtbmafhpbinjgaaaGreat.fnExactFormatOp
open Go Go.ChangeShapes Go.WideShapes Go.ChangeAt Go.RowKit Go.Proofs.YtbmafhpbinjgaaaGreat.Vai
set_option maxRecDepth 100000
theorem lifted (os : Os) (started : os.Started) (H : Type) (enc : TypeId × Value → H) :
    ReturnsInHanded {} Tryz.checked os 3 .any (Rows.fnExactFormatOpSpec.pre6 enc Tryz.prog Tryz.f3 Rows.fnExactFormatOpRow.domain false) (Rows.fnExactFormatOpSpec.post enc Tryz.prog Tryz.f3 false true false false) := by
  refine returnsInHanded_of_change_sized (C := Tryz.checked) facOwn started (by kernel_rfl) Tryz.func3
    (ChangeSpec.witness6 (enc := enc) (C := Tryz.checked) false ⟨#[], #[.agg #[.int .i64 0, .slice none 0 0, .int .i64 0, .slice none 0 0, .slice none 0 0, .slice none 0 0, .slice none 0 0, .int .i64 0, .int .i64 0, .int .i64 0, .int .i64 0, .slice none 0 0, .int .i64 0, .int .i64 0, .slice none 0 0, .int .i64 0, .bool false]], []⟩ 8 (by kernel_rfl) (by kernel_rfl) (by kernel_rfl) (by kernel_rfl)) ?_
  intro W base args ds gs before hval hW hcnd hsz _
  exact law_contract (P := Tryz.prog) tEok.1 tEok.2 (by kernel_rfl) (f := 3) (tAt 3) rfl rfl (ps := [⟨[.int .i64, .sl 119, .int .i64, .sl 119, .sl 119, .sl 119, .sl 181, .int .i64, .int .i64, .int .i64, .int .i64, .sl 184, .int .i64, .int .i64, .sl 187, .int .i64, .bool], 248, true, [(0, 3), (1, 25), (11, 28), (14, 31)]⟩]) (by kernel_rfl) (bt := 4) rfl rfl (by kernel_rfl) pure_FnExactFormatOp (s := Rows.fnExactFormatOpSpec) rfl
    (fun ds h => by
      match ds, h with
      | [d0], _ => rfl) hval hW hsz
theorem k0 : (Rows.fnExactFormatOpRow.wf (OpenSpec.ofChange Rows.fnExactFormatOpSpec)) = true := by kernel_rfl
theorem k3 : (Tryz.f3.params.all (Tryz.prog.readableRec ·)) = true := by kernel_rfl
theorem k4 : (namedTie Tryz.prog Rows.fnExactFormatOpRow.named Rows.fnExactFormatOpSpec.vars) = true := by kernel_rfl
theorem k5 : ((Rows.fnExactFormatOpRow.stops == [])) = true := by kernel_rfl
theorem k7 : ((Rows.fnExactFormatOpRow.knobs == [])) = true := by kernel_rfl
theorem k9 : ((Rows.fnExactFormatOpRow.inPlace == Tryz.prog.inPlace 3)) = true := by kernel_rfl
theorem k10 : ((Rows.fnExactFormatOpRow.unfollowed == Tryz.prog.unfollowed 3)) = true := by kernel_rfl
theorem k11 : ((Rows.fnExactFormatOpRow.recurses == Tryz.prog.recurses 3)) = true := by kernel_rfl
theorem k12 : ((Rows.fnExactFormatOpRow.named == Tryz.prog.varsNamed 3)) = true := by kernel_rfl
theorem k13 : ((Rows.fnExactFormatOpRow.maps == (Tryz.f3.params.toList ++ Rows.fnExactFormatOpSpec.plain.varTypes Tryz.prog).any (Tryz.prog.mapsRec ·))) = true := by kernel_rfl
theorem k14 : ((Rows.fnExactFormatOpRow.ifaces == (Tryz.f3.params.toList ++ Rows.fnExactFormatOpSpec.plain.varTypes Tryz.prog).any (Tryz.prog.ifacesRec ·))) = true := by kernel_rfl
theorem k15 : ((Rows.fnExactFormatOpRow.mapsOut == Tryz.prog.mapsAmong Tryz.f3.resultTypes.toList)) = true := by kernel_rfl
theorem k16 : ((Rows.fnExactFormatOpRow.loops == (Tryz.f3.params.toList ++ Rows.fnExactFormatOpSpec.plain.varTypes Tryz.prog).any (Tryz.prog.loopsFrom ·))) = true := by kernel_rfl
theorem k17 : ((Rows.fnExactFormatOpRow.wideKeys == (Tryz.f3.params.toList ++ Rows.fnExactFormatOpSpec.plain.varTypes Tryz.prog ++ Tryz.f3.resultTypes.toList).any (Tryz.prog.wideKeysFrom ·))) = true := by kernel_rfl
theorem k18 : (Rows.fnExactFormatOpSpec.vars.all (Tryz.prog.varReadable ·)) = true := by kernel_rfl
theorem k19 : (Tryz.f3.resultTypes.all (fun t => Tryz.prog.readableRec t && decide (t < Tryz.prog.types.size))) = true := by kernel_rfl
theorem k20 : ((Rows.fnExactFormatOpRow.ifacesOut == Tryz.f3.resultTypes.toList.any (Tryz.prog.ifacesRec ·))) = true := by kernel_rfl
theorem k21 : ((Rows.fnExactFormatOpRow.loopsOut == Tryz.f3.resultTypes.toList.any (Tryz.prog.loopsFrom ·))) = true := by kernel_rfl
theorem k22 : ((Rows.fnExactFormatOpRow.plainKeys == Tryz.prog.plainKeys)) = true := by kernel_rfl
theorem k23 : (Rows.fnExactFormatOpRow.shortTexts.isNone) = true := by kernel_rfl
theorem k26 : ((Rows.fnExactFormatOpRow.lifted == Tryz.prog.liftsFinal)) = true := by rw [facLifts]; kernel_rfl
theorem k27 : ((Tryz.prog.make == some Rows.fnExactFormatOpRow.make)) = true := by rw [facMake]; kernel_rfl
theorem k28 : ((Rows.fnExactFormatOpRow.kinds == (if Rows.fnExactFormatOpRow.domain.isEmpty then [] else Tryz.f3.params.toList.map fun t => match Tryz.prog.underlying t with | some (.int k) => some k | _ => none))) = true := by kernel_rfl
theorem k29 : ((Rows.fnExactFormatOpRow.pinned == Rows.fnExactFormatOpRow.pinnedBy)) = true := by kernel_rfl
theorem k30 : ((Rows.fnExactFormatOpRow.veiled == (Tryz.f3.params.toList ++ Rows.fnExactFormatOpSpec.plain.varTypes Tryz.prog ++ Tryz.f3.resultTypes.toList).any (Tryz.prog.veiledRec ·))) = true := by kernel_rfl
theorem k31 : (Rows.fnExactFormatOpRow.veiledFits Tryz.prog Tryz.f3.params.toList (Tryz.f3.params.toList ++ Rows.fnExactFormatOpSpec.plain.varTypes Tryz.prog ++ Tryz.f3.resultTypes.toList)) = true := by kernel_rfl
theorem closed : joinedFacts Tryz.pinned.checked.prog 3 Tryz.f3 Rows.fnExactFormatOpSpec Rows.fnExactFormatOpRow = true := (and2 (and2 (and2 (and2 (and2 (and2 (and2 (and2 (and2 (and2 (and2 (and2 (and2 (and2 (and2 (and2 (and2 (and2 (and2 (and2 (and2 (and2 (and2 (and2 (and2 (and2 (and2 (and2 (and2 (and2 (and2 k0 fac_laidOut) fac_maps) k3) k4) k5) fac_stops) k7) fac_knobs) k9) k10) k11) k12) k13) k14) k15) k16) k17) k18) k19) k20) k21) k22) k23) fac_heard) facEnter) k26) k27) k28) k29) k30) k31)
theorem named : Tryz.pinned.checked.prog.funcNamed Rows.fnExactFormatOpRow.func = some 3 := by kernel_rfl
theorem over : Rows.fnExactFormatOpRow.holds Tryz.pinned (OpenSpec.ofChange Rows.fnExactFormatOpSpec) :=
  OpenClaim.holds_of_wide 3 Tryz.f3 rfl rfl rfl rfl rfl rfl rfl ⟨rfl, rfl, rfl, rfl, rfl⟩ rfl rfl rfl rfl rfl named Tryz.func3 closed
    (of_decide_eq_true (by kernel_rfl)) (by unfold Func.isWrapper; first | (rw [if_pos (by decide +kernel)]; kernel_rfl) | (rw [if_neg (by decide +kernel)]; exact ⟨rfl, rfl⟩))
    (fun os started H enc _ => lifted os started H enc)
#print axioms over
end Go.Proofs.YtbmafhpbinjgaaaGreat.fnExactFormatOp
namespace Go.Proofs.YtbmafhpbinjgaaaGreat
/-- The row, under a short name, for the claim. -/
theorem fnExactFormatOp_holds : Rows.FnExactFormatOpSaid := fnExactFormatOp.over
end Go.Proofs.YtbmafhpbinjgaaaGreat
