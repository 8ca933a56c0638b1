/- The law FnExactNewJoinOp of the given program answers true for every input; no condition. -/
import Derived.Test.YtbmafhpbinjgaaaRows
import Derived.Test.YtbmafhpbinjgaaaLO
import Derived.Test.YtbmafhpbinjgaaaFac
namespace Go.Proofs.Ytbmafhpbinjgaaa.fnExactNewJoinOp
open Go Go.ChangeShapes Go.WideShapes Go.ChangeAt Go.RowKit Go.Proofs.Ytbmafhpbinjgaaa.Vai
set_option maxRecDepth 100000
theorem lifted (os : Os) (started : os.Started) (H : Type) (enc : TypeId × Value → H) :
    ReturnsInHanded {} Try.checked os 22 .any (Rows.fnExactNewJoinOpSpec.pre6 enc Try.prog Try.f22 Rows.fnExactNewJoinOpRow.domain false) (Rows.fnExactNewJoinOpSpec.post enc Try.prog Try.f22 false true false false) := by
  refine returnsInHanded_of_change_sized (C := Try.checked) facOwn started (by kernel_rfl) Try.func22
    (ChangeSpec.witness6 (enc := enc) (C := Try.checked) false ⟨#[], #[.int .i64 0, .slice none 0 0, .slice none 0 0], []⟩ 8 (by kernel_rfl) (by kernel_rfl) (by kernel_rfl) (by kernel_rfl)) ?_
  intro W base args ds gs before hval hW hcnd hsz _
  exact law_contract (P := Try.prog) tEok.1 tEok.2 (by kernel_rfl) (f := 22) (tAt 22) rfl rfl (ps := [⟨[.int .i64], 8, false, []⟩, ⟨[.sl 65], 24, false, []⟩, ⟨[.sl 65], 24, false, []⟩]) (by kernel_rfl) (bt := 4) rfl rfl (by kernel_rfl) pure_FnExactNewJoinOp (s := Rows.fnExactNewJoinOpSpec) rfl
    (fun ds h => by
      match ds, h with
      | [d0, d1, d2], _ => rfl) hval hW hsz
theorem k0 : (Rows.fnExactNewJoinOpRow.wf (OpenSpec.ofChange Rows.fnExactNewJoinOpSpec)) = true := by kernel_rfl
theorem k3 : (Try.f22.params.all (Try.prog.readableRec ·)) = true := by kernel_rfl
theorem k4 : (namedTie Try.prog Rows.fnExactNewJoinOpRow.named Rows.fnExactNewJoinOpSpec.vars) = true := by kernel_rfl
theorem k5 : ((Rows.fnExactNewJoinOpRow.stops == [])) = true := by kernel_rfl
theorem k7 : ((Rows.fnExactNewJoinOpRow.knobs == [])) = true := by kernel_rfl
theorem k9 : ((Rows.fnExactNewJoinOpRow.inPlace == Try.prog.inPlace 22)) = true := by kernel_rfl
theorem k10 : ((Rows.fnExactNewJoinOpRow.unfollowed == Try.prog.unfollowed 22)) = true := by kernel_rfl
theorem k11 : ((Rows.fnExactNewJoinOpRow.recurses == Try.prog.recurses 22)) = true := by kernel_rfl
theorem k12 : ((Rows.fnExactNewJoinOpRow.named == Try.prog.varsNamed 22)) = true := by kernel_rfl
theorem k13 : ((Rows.fnExactNewJoinOpRow.maps == (Try.f22.params.toList ++ Rows.fnExactNewJoinOpSpec.plain.varTypes Try.prog).any (Try.prog.mapsRec ·))) = true := by kernel_rfl
theorem k14 : ((Rows.fnExactNewJoinOpRow.ifaces == (Try.f22.params.toList ++ Rows.fnExactNewJoinOpSpec.plain.varTypes Try.prog).any (Try.prog.ifacesRec ·))) = true := by kernel_rfl
theorem k15 : ((Rows.fnExactNewJoinOpRow.mapsOut == Try.prog.mapsAmong Try.f22.resultTypes.toList)) = true := by kernel_rfl
theorem k16 : ((Rows.fnExactNewJoinOpRow.loops == (Try.f22.params.toList ++ Rows.fnExactNewJoinOpSpec.plain.varTypes Try.prog).any (Try.prog.loopsFrom ·))) = true := by kernel_rfl
theorem k17 : ((Rows.fnExactNewJoinOpRow.wideKeys == (Try.f22.params.toList ++ Rows.fnExactNewJoinOpSpec.plain.varTypes Try.prog ++ Try.f22.resultTypes.toList).any (Try.prog.wideKeysFrom ·))) = true := by kernel_rfl
theorem k18 : (Rows.fnExactNewJoinOpSpec.vars.all (Try.prog.varReadable ·)) = true := by kernel_rfl
theorem k19 : (Try.f22.resultTypes.all (fun t => Try.prog.readableRec t && decide (t < Try.prog.types.size))) = true := by kernel_rfl
theorem k20 : ((Rows.fnExactNewJoinOpRow.ifacesOut == Try.f22.resultTypes.toList.any (Try.prog.ifacesRec ·))) = true := by kernel_rfl
theorem k21 : ((Rows.fnExactNewJoinOpRow.loopsOut == Try.f22.resultTypes.toList.any (Try.prog.loopsFrom ·))) = true := by kernel_rfl
theorem k22 : ((Rows.fnExactNewJoinOpRow.plainKeys == Try.prog.plainKeys)) = true := by kernel_rfl
theorem k23 : (Rows.fnExactNewJoinOpRow.shortTexts.isNone) = true := by kernel_rfl
theorem k26 : ((Rows.fnExactNewJoinOpRow.lifted == Try.prog.liftsFinal)) = true := by rw [facLifts]; kernel_rfl
theorem k27 : ((Try.prog.make == some Rows.fnExactNewJoinOpRow.make)) = true := by rw [facMake]; kernel_rfl
theorem k28 : ((Rows.fnExactNewJoinOpRow.kinds == (if Rows.fnExactNewJoinOpRow.domain.isEmpty then [] else Try.f22.params.toList.map fun t => match Try.prog.underlying t with | some (.int k) => some k | _ => none))) = true := by kernel_rfl
theorem k29 : ((Rows.fnExactNewJoinOpRow.pinned == Rows.fnExactNewJoinOpRow.pinnedBy)) = true := by kernel_rfl
theorem k30 : ((Rows.fnExactNewJoinOpRow.veiled == (Try.f22.params.toList ++ Rows.fnExactNewJoinOpSpec.plain.varTypes Try.prog ++ Try.f22.resultTypes.toList).any (Try.prog.veiledRec ·))) = true := by kernel_rfl
theorem k31 : (Rows.fnExactNewJoinOpRow.veiledFits Try.prog Try.f22.params.toList (Try.f22.params.toList ++ Rows.fnExactNewJoinOpSpec.plain.varTypes Try.prog ++ Try.f22.resultTypes.toList)) = true := by kernel_rfl
theorem closed : joinedFacts Try.pinned.checked.prog 22 Try.f22 Rows.fnExactNewJoinOpSpec Rows.fnExactNewJoinOpRow = true := (and2 (and2 (and2 (and2 (and2 (and2 (and2 (and2 (and2 (and2 (and2 (and2 (and2 (and2 (and2 (and2 (and2 (and2 (and2 (and2 (and2 (and2 (and2 (and2 (and2 (and2 (and2 (and2 (and2 (and2 (and2 k0 fac_laidOut) fac_maps) k3) k4) k5) fac_stops) k7) fac_knobs) k9) k10) k11) k12) k13) k14) k15) k16) k17) k18) k19) k20) k21) k22) k23) fac_heard) facEnter) k26) k27) k28) k29) k30) k31)
theorem named : Try.pinned.checked.prog.funcNamed Rows.fnExactNewJoinOpRow.func = some 22 := by kernel_rfl
theorem over : Rows.fnExactNewJoinOpRow.holds Try.pinned (OpenSpec.ofChange Rows.fnExactNewJoinOpSpec) :=
  OpenClaim.holds_of_wide 22 Try.f22 rfl rfl rfl rfl rfl rfl rfl ⟨rfl, rfl, rfl, rfl, rfl⟩ rfl rfl rfl rfl rfl named Try.func22 closed
    (of_decide_eq_true (by kernel_rfl)) (by unfold Func.isWrapper; first | (rw [if_pos (by decide +kernel)]; kernel_rfl) | (rw [if_neg (by decide +kernel)]; exact ⟨rfl, rfl⟩))
    (fun os started H enc _ => lifted os started H enc)
#print axioms over
end Go.Proofs.Ytbmafhpbinjgaaa.fnExactNewJoinOp
namespace Go.Proofs.Ytbmafhpbinjgaaa
/-- The row, under a short name, for the claim. -/
theorem fnExactNewJoinOp_holds : Rows.FnExactNewJoinOpSaid := fnExactNewJoinOp.over
end Go.Proofs.Ytbmafhpbinjgaaa
