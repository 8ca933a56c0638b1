/- The law FnExactNewExchange of the given program answers true for every input; no condition. -/
import Derived.Test.YtbmafhpbinjgaaaRows
import Derived.Test.YtbmafhpbinjgaaaLX
import Derived.Test.YtbmafhpbinjgaaaFac
namespace Go.Proofs.Ytbmafhpbinjgaaa.fnExactNewExchange
open Go Go.ChangeShapes Go.WideShapes Go.ChangeAt Go.RowKit Go.Proofs.Ytbmafhpbinjgaaa.Vai
set_option maxRecDepth 100000
theorem lifted (os : Os) (started : os.Started) (H : Type) (enc : TypeId × Value → H) :
    ReturnsInHanded {} Try.checked os 7 .any (Rows.fnExactNewExchangeSpec.pre6 enc Try.prog Try.f7 Rows.fnExactNewExchangeRow.domain false) (Rows.fnExactNewExchangeSpec.post enc Try.prog Try.f7 false true false false) := by
  refine returnsInHanded_of_change_sized (C := Try.checked) facOwn started (by kernel_rfl) Try.func7
    (ChangeSpec.witness6 (enc := enc) (C := Try.checked) false ⟨#[], #[.slice none 0 0, .int .i64 0, .int .i64 0], []⟩ 8 (by kernel_rfl) (by kernel_rfl) (by kernel_rfl) (by kernel_rfl)) ?_
  intro W base args ds gs before hval hW hcnd hsz _
  exact law_contract (P := Try.prog) tEok.1 tEok.2 (by kernel_rfl) (f := 7) (tAt 7) rfl rfl (ps := [⟨[.sl 58], 24, false, []⟩, ⟨[.int .i64], 8, false, []⟩, ⟨[.int .i64], 8, false, []⟩]) (by kernel_rfl) (bt := 4) rfl rfl (by kernel_rfl) pure_FnExactNewExchange (s := Rows.fnExactNewExchangeSpec) rfl
    (fun ds h => by
      match ds, h with
      | [d0, d1, d2], _ => rfl) hval hW hsz
theorem k0 : (Rows.fnExactNewExchangeRow.wf (OpenSpec.ofChange Rows.fnExactNewExchangeSpec)) = true := by kernel_rfl
theorem k3 : (Try.f7.params.all (Try.prog.readableRec ·)) = true := by kernel_rfl
theorem k4 : (namedTie Try.prog Rows.fnExactNewExchangeRow.named Rows.fnExactNewExchangeSpec.vars) = true := by kernel_rfl
theorem k5 : ((Rows.fnExactNewExchangeRow.stops == [])) = true := by kernel_rfl
theorem k7 : ((Rows.fnExactNewExchangeRow.knobs == [])) = true := by kernel_rfl
theorem k9 : ((Rows.fnExactNewExchangeRow.inPlace == Try.prog.inPlace 7)) = true := by kernel_rfl
theorem k10 : ((Rows.fnExactNewExchangeRow.unfollowed == Try.prog.unfollowed 7)) = true := by kernel_rfl
theorem k11 : ((Rows.fnExactNewExchangeRow.recurses == Try.prog.recurses 7)) = true := by kernel_rfl
theorem k12 : ((Rows.fnExactNewExchangeRow.named == Try.prog.varsNamed 7)) = true := by kernel_rfl
theorem k13 : ((Rows.fnExactNewExchangeRow.maps == (Try.f7.params.toList ++ Rows.fnExactNewExchangeSpec.plain.varTypes Try.prog).any (Try.prog.mapsRec ·))) = true := by kernel_rfl
theorem k14 : ((Rows.fnExactNewExchangeRow.ifaces == (Try.f7.params.toList ++ Rows.fnExactNewExchangeSpec.plain.varTypes Try.prog).any (Try.prog.ifacesRec ·))) = true := by kernel_rfl
theorem k15 : ((Rows.fnExactNewExchangeRow.mapsOut == Try.prog.mapsAmong Try.f7.resultTypes.toList)) = true := by kernel_rfl
theorem k16 : ((Rows.fnExactNewExchangeRow.loops == (Try.f7.params.toList ++ Rows.fnExactNewExchangeSpec.plain.varTypes Try.prog).any (Try.prog.loopsFrom ·))) = true := by kernel_rfl
theorem k17 : ((Rows.fnExactNewExchangeRow.wideKeys == (Try.f7.params.toList ++ Rows.fnExactNewExchangeSpec.plain.varTypes Try.prog ++ Try.f7.resultTypes.toList).any (Try.prog.wideKeysFrom ·))) = true := by kernel_rfl
theorem k18 : (Rows.fnExactNewExchangeSpec.vars.all (Try.prog.varReadable ·)) = true := by kernel_rfl
theorem k19 : (Try.f7.resultTypes.all (fun t => Try.prog.readableRec t && decide (t < Try.prog.types.size))) = true := by kernel_rfl
theorem k20 : ((Rows.fnExactNewExchangeRow.ifacesOut == Try.f7.resultTypes.toList.any (Try.prog.ifacesRec ·))) = true := by kernel_rfl
theorem k21 : ((Rows.fnExactNewExchangeRow.loopsOut == Try.f7.resultTypes.toList.any (Try.prog.loopsFrom ·))) = true := by kernel_rfl
theorem k22 : ((Rows.fnExactNewExchangeRow.plainKeys == Try.prog.plainKeys)) = true := by kernel_rfl
theorem k23 : (Rows.fnExactNewExchangeRow.shortTexts.isNone) = true := by kernel_rfl
theorem k26 : ((Rows.fnExactNewExchangeRow.lifted == Try.prog.liftsFinal)) = true := by rw [facLifts]; kernel_rfl
theorem k27 : ((Try.prog.make == some Rows.fnExactNewExchangeRow.make)) = true := by rw [facMake]; kernel_rfl
theorem k28 : ((Rows.fnExactNewExchangeRow.kinds == (if Rows.fnExactNewExchangeRow.domain.isEmpty then [] else Try.f7.params.toList.map fun t => match Try.prog.underlying t with | some (.int k) => some k | _ => none))) = true := by kernel_rfl
theorem k29 : ((Rows.fnExactNewExchangeRow.pinned == Rows.fnExactNewExchangeRow.pinnedBy)) = true := by kernel_rfl
theorem k30 : ((Rows.fnExactNewExchangeRow.veiled == (Try.f7.params.toList ++ Rows.fnExactNewExchangeSpec.plain.varTypes Try.prog ++ Try.f7.resultTypes.toList).any (Try.prog.veiledRec ·))) = true := by kernel_rfl
theorem k31 : (Rows.fnExactNewExchangeRow.veiledFits Try.prog Try.f7.params.toList (Try.f7.params.toList ++ Rows.fnExactNewExchangeSpec.plain.varTypes Try.prog ++ Try.f7.resultTypes.toList)) = true := by kernel_rfl
theorem closed : joinedFacts Try.pinned.checked.prog 7 Try.f7 Rows.fnExactNewExchangeSpec Rows.fnExactNewExchangeRow = true := (and2 (and2 (and2 (and2 (and2 (and2 (and2 (and2 (and2 (and2 (and2 (and2 (and2 (and2 (and2 (and2 (and2 (and2 (and2 (and2 (and2 (and2 (and2 (and2 (and2 (and2 (and2 (and2 (and2 (and2 (and2 k0 fac_laidOut) fac_maps) k3) k4) k5) fac_stops) k7) fac_knobs) k9) k10) k11) k12) k13) k14) k15) k16) k17) k18) k19) k20) k21) k22) k23) fac_heard) facEnter) k26) k27) k28) k29) k30) k31)
theorem named : Try.pinned.checked.prog.funcNamed Rows.fnExactNewExchangeRow.func = some 7 := by kernel_rfl
theorem over : Rows.fnExactNewExchangeRow.holds Try.pinned (OpenSpec.ofChange Rows.fnExactNewExchangeSpec) :=
  OpenClaim.holds_of_wide 7 Try.f7 rfl rfl rfl rfl rfl rfl rfl ⟨rfl, rfl, rfl, rfl, rfl⟩ rfl rfl rfl rfl rfl named Try.func7 closed
    (of_decide_eq_true (by kernel_rfl)) (by unfold Func.isWrapper; first | (rw [if_pos (by decide +kernel)]; kernel_rfl) | (rw [if_neg (by decide +kernel)]; exact ⟨rfl, rfl⟩))
    (fun os started H enc _ => lifted os started H enc)
#print axioms over
end Go.Proofs.Ytbmafhpbinjgaaa.fnExactNewExchange
namespace Go.Proofs.Ytbmafhpbinjgaaa
/-- The row, under a short name, for the claim. -/
theorem fnExactNewExchange_holds : Rows.FnExactNewExchangeSaid := fnExactNewExchange.over
end Go.Proofs.Ytbmafhpbinjgaaa
