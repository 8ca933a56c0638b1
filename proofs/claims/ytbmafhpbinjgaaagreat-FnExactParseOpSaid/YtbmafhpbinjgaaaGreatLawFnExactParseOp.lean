/- The law FnExactParseOp of the given program answers true for every input; no condition. -/
import Derived.Test.YtbmafhpbinjgaaaGreatRows
import Derived.Test.YtbmafhpbinjgaaaGreatPkFnExactParseOp3
import Derived.Test.YtbmafhpbinjgaaaGreatFac
namespace Go.Proofs.YtbmafhpbinjgaaaGreat.fnExactParseOp
open Go Go.ChangeShapes Go.WideShapes Go.ChangeAt Go.RowKit Go.Proofs.YtbmafhpbinjgaaaGreat.Vai
set_option maxRecDepth 100000
theorem lifted (os : Os) (started : os.Started) (H : Type) (enc : TypeId × Value → H) :
    ReturnsInHanded {} Tryz.checked os 4 .any (Rows.fnExactParseOpSpec.pre6 enc Tryz.prog Tryz.f4 Rows.fnExactParseOpRow.domain false) (Rows.fnExactParseOpSpec.post enc Tryz.prog Tryz.f4 false true false false) := by
  refine returnsInHanded_of_change_sized (C := Tryz.checked) facOwn started (by kernel_rfl) Tryz.func4
    (ChangeSpec.witness6 (enc := enc) (C := Tryz.checked) false ⟨#[], #[.string ByteArray.empty], []⟩ 8 (by kernel_rfl) (by kernel_rfl) (by kernel_rfl) (by kernel_rfl)) ?_
  intro W base args ds gs before hval hW hcnd hsz _
  exact law_contract (P := Tryz.prog) tEok.1 tEok.2 (by kernel_rfl) (f := 4) (tAt 4) rfl rfl (ps := [⟨[.str], 16, false, []⟩]) (by kernel_rfl) (bt := 4) rfl rfl (by kernel_rfl) pure_FnExactParseOp (s := Rows.fnExactParseOpSpec) rfl
    (fun ds h => by
      match ds, h with
      | [d0], _ => rfl) hval hW hsz
theorem k0 : (Rows.fnExactParseOpRow.wf (OpenSpec.ofChange Rows.fnExactParseOpSpec)) = true := by kernel_rfl
theorem k3 : (Tryz.f4.params.all (Tryz.prog.readableRec ·)) = true := by kernel_rfl
theorem k4 : (namedTie Tryz.prog Rows.fnExactParseOpRow.named Rows.fnExactParseOpSpec.vars) = true := by kernel_rfl
theorem k5 : ((Rows.fnExactParseOpRow.stops == [])) = true := by kernel_rfl
theorem k7 : ((Rows.fnExactParseOpRow.knobs == [])) = true := by kernel_rfl
theorem k9 : ((Rows.fnExactParseOpRow.inPlace == Tryz.prog.inPlace 4)) = true := by kernel_rfl
theorem k10 : ((Rows.fnExactParseOpRow.unfollowed == Tryz.prog.unfollowed 4)) = true := by kernel_rfl
theorem k11 : ((Rows.fnExactParseOpRow.recurses == Tryz.prog.recurses 4)) = true := by kernel_rfl
theorem k12 : ((Rows.fnExactParseOpRow.named == Tryz.prog.varsNamed 4)) = true := by kernel_rfl
theorem k13 : ((Rows.fnExactParseOpRow.maps == (Tryz.f4.params.toList ++ Rows.fnExactParseOpSpec.plain.varTypes Tryz.prog).any (Tryz.prog.mapsRec ·))) = true := by kernel_rfl
theorem k14 : ((Rows.fnExactParseOpRow.ifaces == (Tryz.f4.params.toList ++ Rows.fnExactParseOpSpec.plain.varTypes Tryz.prog).any (Tryz.prog.ifacesRec ·))) = true := by kernel_rfl
theorem k15 : ((Rows.fnExactParseOpRow.mapsOut == Tryz.prog.mapsAmong Tryz.f4.resultTypes.toList)) = true := by kernel_rfl
theorem k16 : ((Rows.fnExactParseOpRow.loops == (Tryz.f4.params.toList ++ Rows.fnExactParseOpSpec.plain.varTypes Tryz.prog).any (Tryz.prog.loopsFrom ·))) = true := by kernel_rfl
theorem k17 : ((Rows.fnExactParseOpRow.wideKeys == (Tryz.f4.params.toList ++ Rows.fnExactParseOpSpec.plain.varTypes Tryz.prog ++ Tryz.f4.resultTypes.toList).any (Tryz.prog.wideKeysFrom ·))) = true := by kernel_rfl
theorem k18 : (Rows.fnExactParseOpSpec.vars.all (Tryz.prog.varReadable ·)) = true := by kernel_rfl
theorem k19 : (Tryz.f4.resultTypes.all (fun t => Tryz.prog.readableRec t && decide (t < Tryz.prog.types.size))) = true := by kernel_rfl
theorem k20 : ((Rows.fnExactParseOpRow.ifacesOut == Tryz.f4.resultTypes.toList.any (Tryz.prog.ifacesRec ·))) = true := by kernel_rfl
theorem k21 : ((Rows.fnExactParseOpRow.loopsOut == Tryz.f4.resultTypes.toList.any (Tryz.prog.loopsFrom ·))) = true := by kernel_rfl
theorem k22 : ((Rows.fnExactParseOpRow.plainKeys == Tryz.prog.plainKeys)) = true := by kernel_rfl
theorem k23 : (Rows.fnExactParseOpRow.shortTexts.isNone) = true := by kernel_rfl
theorem k26 : ((Rows.fnExactParseOpRow.lifted == Tryz.prog.liftsFinal)) = true := by rw [facLifts]; kernel_rfl
theorem k27 : ((Tryz.prog.make == some Rows.fnExactParseOpRow.make)) = true := by rw [facMake]; kernel_rfl
theorem k28 : ((Rows.fnExactParseOpRow.kinds == (if Rows.fnExactParseOpRow.domain.isEmpty then [] else Tryz.f4.params.toList.map fun t => match Tryz.prog.underlying t with | some (.int k) => some k | _ => none))) = true := by kernel_rfl
theorem k29 : ((Rows.fnExactParseOpRow.pinned == Rows.fnExactParseOpRow.pinnedBy)) = true := by kernel_rfl
theorem k30 : ((Rows.fnExactParseOpRow.veiled == (Tryz.f4.params.toList ++ Rows.fnExactParseOpSpec.plain.varTypes Tryz.prog ++ Tryz.f4.resultTypes.toList).any (Tryz.prog.veiledRec ·))) = true := by kernel_rfl
theorem k31 : (Rows.fnExactParseOpRow.veiledFits Tryz.prog Tryz.f4.params.toList (Tryz.f4.params.toList ++ Rows.fnExactParseOpSpec.plain.varTypes Tryz.prog ++ Tryz.f4.resultTypes.toList)) = true := by kernel_rfl
theorem closed : joinedFacts Tryz.pinned.checked.prog 4 Tryz.f4 Rows.fnExactParseOpSpec Rows.fnExactParseOpRow = true := (and2 (and2 (and2 (and2 (and2 (and2 (and2 (and2 (and2 (and2 (and2 (and2 (and2 (and2 (and2 (and2 (and2 (and2 (and2 (and2 (and2 (and2 (and2 (and2 (and2 (and2 (and2 (and2 (and2 (and2 (and2 k0 fac_laidOut) fac_maps) k3) k4) k5) fac_stops) k7) fac_knobs) k9) k10) k11) k12) k13) k14) k15) k16) k17) k18) k19) k20) k21) k22) k23) fac_heard) facEnter) k26) k27) k28) k29) k30) k31)
theorem named : Tryz.pinned.checked.prog.funcNamed Rows.fnExactParseOpRow.func = some 4 := by kernel_rfl
theorem over : Rows.fnExactParseOpRow.holds Tryz.pinned (OpenSpec.ofChange Rows.fnExactParseOpSpec) :=
  OpenClaim.holds_of_wide 4 Tryz.f4 rfl rfl rfl rfl rfl rfl rfl ⟨rfl, rfl, rfl, rfl, rfl⟩ rfl rfl rfl rfl rfl named Tryz.func4 closed
    (of_decide_eq_true (by kernel_rfl)) (by unfold Func.isWrapper; first | (rw [if_pos (by decide +kernel)]; kernel_rfl) | (rw [if_neg (by decide +kernel)]; exact ⟨rfl, rfl⟩))
    (fun os started H enc _ => lifted os started H enc)
#print axioms over
end Go.Proofs.YtbmafhpbinjgaaaGreat.fnExactParseOp
namespace Go.Proofs.YtbmafhpbinjgaaaGreat
/-- The row, under a short name, for the claim. -/
theorem fnExactParseOp_holds : Rows.FnExactParseOpSaid := fnExactParseOp.over
end Go.Proofs.YtbmafhpbinjgaaaGreat
