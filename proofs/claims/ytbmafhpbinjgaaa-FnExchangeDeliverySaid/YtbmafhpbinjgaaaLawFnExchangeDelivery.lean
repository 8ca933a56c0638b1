/- The law FnExchangeDelivery of the given program answers true for every input; no condition. -/
import Derived.Test.YtbmafhpbinjgaaaRows
import Derived.Test.YtbmafhpbinjgaaaPkFnExchangeDelivery2
import Derived.Test.YtbmafhpbinjgaaaFac
namespace Go.Proofs.Ytbmafhpbinjgaaa.fnExchangeDelivery
open Go Go.ChangeShapes Go.WideShapes Go.ChangeAt Go.RowKit Go.Proofs.Ytbmafhpbinjgaaa.Vai
set_option maxRecDepth 100000
theorem lifted (os : Os) (started : os.Started) (H : Type) (enc : TypeId × Value → H) :
    ReturnsInHanded {} Try.checked os 15 .any (Rows.fnExchangeDeliverySpec.pre6 enc Try.prog Try.f15 Rows.fnExchangeDeliveryRow.domain false) (Rows.fnExchangeDeliverySpec.post enc Try.prog Try.f15 false true false false) := by
  refine returnsInHanded_of_change_sized (C := Try.checked) facOwn started (by kernel_rfl) Try.func15
    (ChangeSpec.witness6 (enc := enc) (C := Try.checked) false ⟨#[], #[.slice none 0 0], []⟩ 8 (by kernel_rfl) (by kernel_rfl) (by kernel_rfl) (by kernel_rfl)) ?_
  intro W base args ds gs before hval hW hcnd hsz _
  exact law_contract (P := Try.prog) tEok.1 tEok.2 (by kernel_rfl) (f := 15) (tAt 15) rfl rfl (ps := [⟨[.sl 5], 24, false, []⟩]) (by kernel_rfl) (bt := 4) rfl rfl (by kernel_rfl) pure_FnExchangeDelivery (s := Rows.fnExchangeDeliverySpec) rfl
    (fun ds h => by
      match ds, h with
      | [d0], _ => rfl) hval hW hsz
theorem k0 : (Rows.fnExchangeDeliveryRow.wf (OpenSpec.ofChange Rows.fnExchangeDeliverySpec)) = true := by kernel_rfl
theorem k3 : (Try.f15.params.all (Try.prog.readableRec ·)) = true := by kernel_rfl
theorem k4 : (namedTie Try.prog Rows.fnExchangeDeliveryRow.named Rows.fnExchangeDeliverySpec.vars) = true := by kernel_rfl
theorem k5 : ((Rows.fnExchangeDeliveryRow.stops == [])) = true := by kernel_rfl
theorem k7 : ((Rows.fnExchangeDeliveryRow.knobs == [])) = true := by kernel_rfl
theorem k9 : ((Rows.fnExchangeDeliveryRow.inPlace == Try.prog.inPlace 15)) = true := by kernel_rfl
theorem k10 : ((Rows.fnExchangeDeliveryRow.unfollowed == Try.prog.unfollowed 15)) = true := by kernel_rfl
theorem k11 : ((Rows.fnExchangeDeliveryRow.recurses == Try.prog.recurses 15)) = true := by kernel_rfl
theorem k12 : ((Rows.fnExchangeDeliveryRow.named == Try.prog.varsNamed 15)) = true := by kernel_rfl
theorem k13 : ((Rows.fnExchangeDeliveryRow.maps == (Try.f15.params.toList ++ Rows.fnExchangeDeliverySpec.plain.varTypes Try.prog).any (Try.prog.mapsRec ·))) = true := by kernel_rfl
theorem k14 : ((Rows.fnExchangeDeliveryRow.ifaces == (Try.f15.params.toList ++ Rows.fnExchangeDeliverySpec.plain.varTypes Try.prog).any (Try.prog.ifacesRec ·))) = true := by kernel_rfl
theorem k15 : ((Rows.fnExchangeDeliveryRow.mapsOut == Try.prog.mapsAmong Try.f15.resultTypes.toList)) = true := by kernel_rfl
theorem k16 : ((Rows.fnExchangeDeliveryRow.loops == (Try.f15.params.toList ++ Rows.fnExchangeDeliverySpec.plain.varTypes Try.prog).any (Try.prog.loopsFrom ·))) = true := by kernel_rfl
theorem k17 : ((Rows.fnExchangeDeliveryRow.wideKeys == (Try.f15.params.toList ++ Rows.fnExchangeDeliverySpec.plain.varTypes Try.prog ++ Try.f15.resultTypes.toList).any (Try.prog.wideKeysFrom ·))) = true := by kernel_rfl
theorem k18 : (Rows.fnExchangeDeliverySpec.vars.all (Try.prog.varReadable ·)) = true := by kernel_rfl
theorem k19 : (Try.f15.resultTypes.all (fun t => Try.prog.readableRec t && decide (t < Try.prog.types.size))) = true := by kernel_rfl
theorem k20 : ((Rows.fnExchangeDeliveryRow.ifacesOut == Try.f15.resultTypes.toList.any (Try.prog.ifacesRec ·))) = true := by kernel_rfl
theorem k21 : ((Rows.fnExchangeDeliveryRow.loopsOut == Try.f15.resultTypes.toList.any (Try.prog.loopsFrom ·))) = true := by kernel_rfl
theorem k22 : ((Rows.fnExchangeDeliveryRow.plainKeys == Try.prog.plainKeys)) = true := by kernel_rfl
theorem k23 : (Rows.fnExchangeDeliveryRow.shortTexts.isNone) = true := by kernel_rfl
theorem k26 : ((Rows.fnExchangeDeliveryRow.lifted == Try.prog.liftsFinal)) = true := by rw [facLifts]; kernel_rfl
theorem k27 : ((Try.prog.make == some Rows.fnExchangeDeliveryRow.make)) = true := by rw [facMake]; kernel_rfl
theorem k28 : ((Rows.fnExchangeDeliveryRow.kinds == (if Rows.fnExchangeDeliveryRow.domain.isEmpty then [] else Try.f15.params.toList.map fun t => match Try.prog.underlying t with | some (.int k) => some k | _ => none))) = true := by kernel_rfl
theorem k29 : ((Rows.fnExchangeDeliveryRow.pinned == Rows.fnExchangeDeliveryRow.pinnedBy)) = true := by kernel_rfl
theorem k30 : ((Rows.fnExchangeDeliveryRow.veiled == (Try.f15.params.toList ++ Rows.fnExchangeDeliverySpec.plain.varTypes Try.prog ++ Try.f15.resultTypes.toList).any (Try.prog.veiledRec ·))) = true := by kernel_rfl
theorem k31 : (Rows.fnExchangeDeliveryRow.veiledFits Try.prog Try.f15.params.toList (Try.f15.params.toList ++ Rows.fnExchangeDeliverySpec.plain.varTypes Try.prog ++ Try.f15.resultTypes.toList)) = true := by kernel_rfl
theorem closed : joinedFacts Try.pinned.checked.prog 15 Try.f15 Rows.fnExchangeDeliverySpec Rows.fnExchangeDeliveryRow = true := (and2 (and2 (and2 (and2 (and2 (and2 (and2 (and2 (and2 (and2 (and2 (and2 (and2 (and2 (and2 (and2 (and2 (and2 (and2 (and2 (and2 (and2 (and2 (and2 (and2 (and2 (and2 (and2 (and2 (and2 (and2 k0 fac_laidOut) fac_maps) k3) k4) k5) fac_stops) k7) fac_knobs) k9) k10) k11) k12) k13) k14) k15) k16) k17) k18) k19) k20) k21) k22) k23) fac_heard) facEnter) k26) k27) k28) k29) k30) k31)
theorem named : Try.pinned.checked.prog.funcNamed Rows.fnExchangeDeliveryRow.func = some 15 := by kernel_rfl
theorem over : Rows.fnExchangeDeliveryRow.holds Try.pinned (OpenSpec.ofChange Rows.fnExchangeDeliverySpec) :=
  OpenClaim.holds_of_wide 15 Try.f15 rfl rfl rfl rfl rfl rfl rfl ⟨rfl, rfl, rfl, rfl, rfl⟩ rfl rfl rfl rfl rfl named Try.func15 closed
    (of_decide_eq_true (by kernel_rfl)) (by unfold Func.isWrapper; first | (rw [if_pos (by decide +kernel)]; kernel_rfl) | (rw [if_neg (by decide +kernel)]; exact ⟨rfl, rfl⟩))
    (fun os started H enc _ => lifted os started H enc)
#print axioms over
end Go.Proofs.Ytbmafhpbinjgaaa.fnExchangeDelivery
namespace Go.Proofs.Ytbmafhpbinjgaaa
/-- The row, under a short name, for the claim. -/
theorem fnExchangeDelivery_holds : Rows.FnExchangeDeliverySaid := fnExchangeDelivery.over
end Go.Proofs.Ytbmafhpbinjgaaa
