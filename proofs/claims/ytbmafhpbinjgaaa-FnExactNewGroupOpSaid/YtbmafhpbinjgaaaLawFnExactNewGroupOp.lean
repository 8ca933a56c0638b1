/- The law FnExactNewGroupOp of the given program answers true for every input; no condition. -/
import Derived.Test.YtbmafhpbinjgaaaRows
import Derived.Test.YtbmafhpbinjgaaaLO
import Derived.Test.YtbmafhpbinjgaaaFac
namespace Go.Proofs.Ytbmafhpbinjgaaa.fnExactNewGroupOp
open Go Go.ChangeShapes Go.WideShapes Go.ChangeAt Go.RowKit Go.Proofs.Ytbmafhpbinjgaaa.Vai
set_option maxRecDepth 100000
theorem lifted (os : Os) (started : os.Started) (H : Type) (enc : TypeId × Value → H) :
    ReturnsInHanded {} Try.checked os 20 .any (Rows.fnExactNewGroupOpSpec.pre6 enc Try.prog Try.f20 Rows.fnExactNewGroupOpRow.domain false) (Rows.fnExactNewGroupOpSpec.post enc Try.prog Try.f20 false true false false) := by
  refine returnsInHanded_of_change_sized (C := Try.checked) facOwn started (by kernel_rfl) Try.func20
    (ChangeSpec.witness6 (enc := enc) (C := Try.checked) false ⟨#[], #[.slice none 0 0, .bool false], []⟩ 8 (by kernel_rfl) (by kernel_rfl) (by kernel_rfl) (by kernel_rfl)) ?_
  intro W base args ds gs before hval hW hcnd hsz _
  exact law_contract (P := Try.prog) tEok.1 tEok.2 (by kernel_rfl) (f := 20) (tAt 20) rfl rfl (ps := [⟨[.sl 65], 24, false, []⟩, ⟨[.bool], 1, false, []⟩]) (by kernel_rfl) (bt := 4) rfl rfl (by kernel_rfl) pure_FnExactNewGroupOp (s := Rows.fnExactNewGroupOpSpec) rfl
    (fun ds h => by
      match ds, h with
      | [d0, d1], _ => rfl) hval hW hsz
theorem k0 : (Rows.fnExactNewGroupOpRow.wf (OpenSpec.ofChange Rows.fnExactNewGroupOpSpec)) = true := by kernel_rfl
theorem k3 : (Try.f20.params.all (Try.prog.readableRec ·)) = true := by kernel_rfl
theorem k4 : (namedTie Try.prog Rows.fnExactNewGroupOpRow.named Rows.fnExactNewGroupOpSpec.vars) = true := by kernel_rfl
theorem k5 : ((Rows.fnExactNewGroupOpRow.stops == [])) = true := by kernel_rfl
theorem k7 : ((Rows.fnExactNewGroupOpRow.knobs == [])) = true := by kernel_rfl
theorem k9 : ((Rows.fnExactNewGroupOpRow.inPlace == Try.prog.inPlace 20)) = true := by kernel_rfl
theorem k10 : ((Rows.fnExactNewGroupOpRow.unfollowed == Try.prog.unfollowed 20)) = true := by kernel_rfl
theorem k11 : ((Rows.fnExactNewGroupOpRow.recurses == Try.prog.recurses 20)) = true := by kernel_rfl
theorem k12 : ((Rows.fnExactNewGroupOpRow.named == Try.prog.varsNamed 20)) = true := by kernel_rfl
theorem k13 : ((Rows.fnExactNewGroupOpRow.maps == (Try.f20.params.toList ++ Rows.fnExactNewGroupOpSpec.plain.varTypes Try.prog).any (Try.prog.mapsRec ·))) = true := by kernel_rfl
theorem k14 : ((Rows.fnExactNewGroupOpRow.ifaces == (Try.f20.params.toList ++ Rows.fnExactNewGroupOpSpec.plain.varTypes Try.prog).any (Try.prog.ifacesRec ·))) = true := by kernel_rfl
theorem k15 : ((Rows.fnExactNewGroupOpRow.mapsOut == Try.prog.mapsAmong Try.f20.resultTypes.toList)) = true := by kernel_rfl
theorem k16 : ((Rows.fnExactNewGroupOpRow.loops == (Try.f20.params.toList ++ Rows.fnExactNewGroupOpSpec.plain.varTypes Try.prog).any (Try.prog.loopsFrom ·))) = true := by kernel_rfl
theorem k17 : ((Rows.fnExactNewGroupOpRow.wideKeys == (Try.f20.params.toList ++ Rows.fnExactNewGroupOpSpec.plain.varTypes Try.prog ++ Try.f20.resultTypes.toList).any (Try.prog.wideKeysFrom ·))) = true := by kernel_rfl
theorem k18 : (Rows.fnExactNewGroupOpSpec.vars.all (Try.prog.varReadable ·)) = true := by kernel_rfl
theorem k19 : (Try.f20.resultTypes.all (fun t => Try.prog.readableRec t && decide (t < Try.prog.types.size))) = true := by kernel_rfl
theorem k20 : ((Rows.fnExactNewGroupOpRow.ifacesOut == Try.f20.resultTypes.toList.any (Try.prog.ifacesRec ·))) = true := by kernel_rfl
theorem k21 : ((Rows.fnExactNewGroupOpRow.loopsOut == Try.f20.resultTypes.toList.any (Try.prog.loopsFrom ·))) = true := by kernel_rfl
theorem k22 : ((Rows.fnExactNewGroupOpRow.plainKeys == Try.prog.plainKeys)) = true := by kernel_rfl
theorem k23 : (Rows.fnExactNewGroupOpRow.shortTexts.isNone) = true := by kernel_rfl
theorem k26 : ((Rows.fnExactNewGroupOpRow.lifted == Try.prog.liftsFinal)) = true := by rw [facLifts]; kernel_rfl
theorem k27 : ((Try.prog.make == some Rows.fnExactNewGroupOpRow.make)) = true := by rw [facMake]; kernel_rfl
theorem k28 : ((Rows.fnExactNewGroupOpRow.kinds == (if Rows.fnExactNewGroupOpRow.domain.isEmpty then [] else Try.f20.params.toList.map fun t => match Try.prog.underlying t with | some (.int k) => some k | _ => none))) = true := by kernel_rfl
theorem k29 : ((Rows.fnExactNewGroupOpRow.pinned == Rows.fnExactNewGroupOpRow.pinnedBy)) = true := by kernel_rfl
theorem k30 : ((Rows.fnExactNewGroupOpRow.veiled == (Try.f20.params.toList ++ Rows.fnExactNewGroupOpSpec.plain.varTypes Try.prog ++ Try.f20.resultTypes.toList).any (Try.prog.veiledRec ·))) = true := by kernel_rfl
theorem k31 : (Rows.fnExactNewGroupOpRow.veiledFits Try.prog Try.f20.params.toList (Try.f20.params.toList ++ Rows.fnExactNewGroupOpSpec.plain.varTypes Try.prog ++ Try.f20.resultTypes.toList)) = true := by kernel_rfl
theorem closed : joinedFacts Try.pinned.checked.prog 20 Try.f20 Rows.fnExactNewGroupOpSpec Rows.fnExactNewGroupOpRow = true := (and2 (and2 (and2 (and2 (and2 (and2 (and2 (and2 (and2 (and2 (and2 (and2 (and2 (and2 (and2 (and2 (and2 (and2 (and2 (and2 (and2 (and2 (and2 (and2 (and2 (and2 (and2 (and2 (and2 (and2 (and2 k0 fac_laidOut) fac_maps) k3) k4) k5) fac_stops) k7) fac_knobs) k9) k10) k11) k12) k13) k14) k15) k16) k17) k18) k19) k20) k21) k22) k23) fac_heard) facEnter) k26) k27) k28) k29) k30) k31)
theorem named : Try.pinned.checked.prog.funcNamed Rows.fnExactNewGroupOpRow.func = some 20 := by kernel_rfl
theorem over : Rows.fnExactNewGroupOpRow.holds Try.pinned (OpenSpec.ofChange Rows.fnExactNewGroupOpSpec) :=
  OpenClaim.holds_of_wide 20 Try.f20 rfl rfl rfl rfl rfl rfl rfl ⟨rfl, rfl, rfl, rfl, rfl⟩ rfl rfl rfl rfl rfl named Try.func20 closed
    (of_decide_eq_true (by kernel_rfl)) (by unfold Func.isWrapper; first | (rw [if_pos (by decide +kernel)]; kernel_rfl) | (rw [if_neg (by decide +kernel)]; exact ⟨rfl, rfl⟩))
    (fun os started H enc _ => lifted os started H enc)
#print axioms over
end Go.Proofs.Ytbmafhpbinjgaaa.fnExactNewGroupOp
namespace Go.Proofs.Ytbmafhpbinjgaaa
/-- The row, under a short name, for the claim. -/
theorem fnExactNewGroupOp_holds : Rows.FnExactNewGroupOpSaid := fnExactNewGroupOp.over
end Go.Proofs.Ytbmafhpbinjgaaa
