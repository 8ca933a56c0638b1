/- The law FnExactNewSortOp of the given program answers true for every input; no condition. -/
import Derived.Test.YtbmafhpbinjgaaaRows
import Derived.Test.YtbmafhpbinjgaaaLO
import Derived.Test.YtbmafhpbinjgaaaFac
namespace Go.Proofs.Ytbmafhpbinjgaaa.fnExactNewSortOp
open Go Go.ChangeShapes Go.WideShapes Go.ChangeAt Go.RowKit Go.Proofs.Ytbmafhpbinjgaaa.Vai
set_option maxRecDepth 100000
theorem lifted (os : Os) (started : os.Started) (H : Type) (enc : TypeId × Value → H) :
    ReturnsInHanded {} Try.checked os 21 .any (Rows.fnExactNewSortOpSpec.pre6 enc Try.prog Try.f21 Rows.fnExactNewSortOpRow.domain false) (Rows.fnExactNewSortOpSpec.post enc Try.prog Try.f21 false true false false) := by
  refine returnsInHanded_of_change_sized (C := Try.checked) facOwn started (by kernel_rfl) Try.func21
    (ChangeSpec.witness6 (enc := enc) (C := Try.checked) false ⟨#[], #[.slice none 0 0], []⟩ 8 (by kernel_rfl) (by kernel_rfl) (by kernel_rfl) (by kernel_rfl)) ?_
  intro W base args ds gs before hval hW hcnd hsz _
  exact law_contract (P := Try.prog) tEok.1 tEok.2 (by kernel_rfl) (f := 21) (tAt 21) rfl rfl (ps := [⟨[.sl 65], 24, false, []⟩]) (by kernel_rfl) (bt := 4) rfl rfl (by kernel_rfl) pure_FnExactNewSortOp (s := Rows.fnExactNewSortOpSpec) rfl
    (fun ds h => by
      match ds, h with
      | [d0], _ => rfl) hval hW hsz
theorem k0 : (Rows.fnExactNewSortOpRow.wf (OpenSpec.ofChange Rows.fnExactNewSortOpSpec)) = true := by kernel_rfl
theorem k3 : (Try.f21.params.all (Try.prog.readableRec ·)) = true := by kernel_rfl
theorem k4 : (namedTie Try.prog Rows.fnExactNewSortOpRow.named Rows.fnExactNewSortOpSpec.vars) = true := by kernel_rfl
theorem k5 : ((Rows.fnExactNewSortOpRow.stops == [])) = true := by kernel_rfl
theorem k7 : ((Rows.fnExactNewSortOpRow.knobs == [])) = true := by kernel_rfl
theorem k9 : ((Rows.fnExactNewSortOpRow.inPlace == Try.prog.inPlace 21)) = true := by kernel_rfl
theorem k10 : ((Rows.fnExactNewSortOpRow.unfollowed == Try.prog.unfollowed 21)) = true := by kernel_rfl
theorem k11 : ((Rows.fnExactNewSortOpRow.recurses == Try.prog.recurses 21)) = true := by kernel_rfl
theorem k12 : ((Rows.fnExactNewSortOpRow.named == Try.prog.varsNamed 21)) = true := by kernel_rfl
theorem k13 : ((Rows.fnExactNewSortOpRow.maps == (Try.f21.params.toList ++ Rows.fnExactNewSortOpSpec.plain.varTypes Try.prog).any (Try.prog.mapsRec ·))) = true := by kernel_rfl
theorem k14 : ((Rows.fnExactNewSortOpRow.ifaces == (Try.f21.params.toList ++ Rows.fnExactNewSortOpSpec.plain.varTypes Try.prog).any (Try.prog.ifacesRec ·))) = true := by kernel_rfl
theorem k15 : ((Rows.fnExactNewSortOpRow.mapsOut == Try.prog.mapsAmong Try.f21.resultTypes.toList)) = true := by kernel_rfl
theorem k16 : ((Rows.fnExactNewSortOpRow.loops == (Try.f21.params.toList ++ Rows.fnExactNewSortOpSpec.plain.varTypes Try.prog).any (Try.prog.loopsFrom ·))) = true := by kernel_rfl
theorem k17 : ((Rows.fnExactNewSortOpRow.wideKeys == (Try.f21.params.toList ++ Rows.fnExactNewSortOpSpec.plain.varTypes Try.prog ++ Try.f21.resultTypes.toList).any (Try.prog.wideKeysFrom ·))) = true := by kernel_rfl
theorem k18 : (Rows.fnExactNewSortOpSpec.vars.all (Try.prog.varReadable ·)) = true := by kernel_rfl
theorem k19 : (Try.f21.resultTypes.all (fun t => Try.prog.readableRec t && decide (t < Try.prog.types.size))) = true := by kernel_rfl
theorem k20 : ((Rows.fnExactNewSortOpRow.ifacesOut == Try.f21.resultTypes.toList.any (Try.prog.ifacesRec ·))) = true := by kernel_rfl
theorem k21 : ((Rows.fnExactNewSortOpRow.loopsOut == Try.f21.resultTypes.toList.any (Try.prog.loopsFrom ·))) = true := by kernel_rfl
theorem k22 : ((Rows.fnExactNewSortOpRow.plainKeys == Try.prog.plainKeys)) = true := by kernel_rfl
theorem k23 : (Rows.fnExactNewSortOpRow.shortTexts.isNone) = true := by kernel_rfl
theorem k26 : ((Rows.fnExactNewSortOpRow.lifted == Try.prog.liftsFinal)) = true := by rw [facLifts]; kernel_rfl
theorem k27 : ((Try.prog.make == some Rows.fnExactNewSortOpRow.make)) = true := by rw [facMake]; kernel_rfl
theorem k28 : ((Rows.fnExactNewSortOpRow.kinds == (if Rows.fnExactNewSortOpRow.domain.isEmpty then [] else Try.f21.params.toList.map fun t => match Try.prog.underlying t with | some (.int k) => some k | _ => none))) = true := by kernel_rfl
theorem k29 : ((Rows.fnExactNewSortOpRow.pinned == Rows.fnExactNewSortOpRow.pinnedBy)) = true := by kernel_rfl
theorem k30 : ((Rows.fnExactNewSortOpRow.veiled == (Try.f21.params.toList ++ Rows.fnExactNewSortOpSpec.plain.varTypes Try.prog ++ Try.f21.resultTypes.toList).any (Try.prog.veiledRec ·))) = true := by kernel_rfl
theorem k31 : (Rows.fnExactNewSortOpRow.veiledFits Try.prog Try.f21.params.toList (Try.f21.params.toList ++ Rows.fnExactNewSortOpSpec.plain.varTypes Try.prog ++ Try.f21.resultTypes.toList)) = true := by kernel_rfl
theorem closed : joinedFacts Try.pinned.checked.prog 21 Try.f21 Rows.fnExactNewSortOpSpec Rows.fnExactNewSortOpRow = true := (and2 (and2 (and2 (and2 (and2 (and2 (and2 (and2 (and2 (and2 (and2 (and2 (and2 (and2 (and2 (and2 (and2 (and2 (and2 (and2 (and2 (and2 (and2 (and2 (and2 (and2 (and2 (and2 (and2 (and2 (and2 k0 fac_laidOut) fac_maps) k3) k4) k5) fac_stops) k7) fac_knobs) k9) k10) k11) k12) k13) k14) k15) k16) k17) k18) k19) k20) k21) k22) k23) fac_heard) facEnter) k26) k27) k28) k29) k30) k31)
theorem named : Try.pinned.checked.prog.funcNamed Rows.fnExactNewSortOpRow.func = some 21 := by kernel_rfl
theorem over : Rows.fnExactNewSortOpRow.holds Try.pinned (OpenSpec.ofChange Rows.fnExactNewSortOpSpec) :=
  OpenClaim.holds_of_wide 21 Try.f21 rfl rfl rfl rfl rfl rfl rfl ⟨rfl, rfl, rfl, rfl, rfl⟩ rfl rfl rfl rfl rfl named Try.func21 closed
    (of_decide_eq_true (by kernel_rfl)) (by unfold Func.isWrapper; first | (rw [if_pos (by decide +kernel)]; kernel_rfl) | (rw [if_neg (by decide +kernel)]; exact ⟨rfl, rfl⟩))
    (fun os started H enc _ => lifted os started H enc)
#print axioms over
end Go.Proofs.Ytbmafhpbinjgaaa.fnExactNewSortOp
namespace Go.Proofs.Ytbmafhpbinjgaaa
/-- The row, under a short name, for the claim. -/
theorem fnExactNewSortOp_holds : Rows.FnExactNewSortOpSaid := fnExactNewSortOp.over
end Go.Proofs.Ytbmafhpbinjgaaa
