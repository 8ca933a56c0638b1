/- The law FnExactRunExchange of the given program answers true for every input; no condition. -/
import Derived.Test.YtbmafhpbinjgaaaRows
import Derived.Test.YtbmafhpbinjgaaaLR
import Derived.Test.YtbmafhpbinjgaaaFac
namespace Go.Proofs.Ytbmafhpbinjgaaa.fnExactRunExchange
open Go Go.ChangeShapes Go.WideShapes Go.ChangeAt Go.RowKit Go.Proofs.Ytbmafhpbinjgaaa.Vai
set_option maxRecDepth 100000
theorem lifted (os : Os) (started : os.Started) (H : Type) (enc : TypeId × Value → H) :
    ReturnsInHanded {} Try.checked os 17 .any (Rows.fnExactRunExchangeSpec.pre6 enc Try.prog Try.f17 Rows.fnExactRunExchangeRow.domain false) (Rows.fnExactRunExchangeSpec.post enc Try.prog Try.f17 false true false false) := by
  refine returnsInHanded_of_change_sized (C := Try.checked) facOwn started (by kernel_rfl) Try.func17
    (ChangeSpec.witness6 (enc := enc) (C := Try.checked) false ⟨#[], #[.agg #[.slice none 0 0, .slice none 0 0, .slice none 0 0, .int .i64 0], .slice none 0 0], []⟩ 8 (by kernel_rfl) (by kernel_rfl) (by kernel_rfl) (by kernel_rfl)) ?_
  intro W base args ds gs before hval hW hcnd hsz _
  exact law_contract (P := Try.prog) tEok.1 tEok.2 (by kernel_rfl) (f := 17) (tAt 17) rfl rfl (ps := [⟨[.sl 58, .sl 58, .sl 58, .int .i64], 80, true, [(0, 45), (1, 45), (2, 45), (3, 3)]⟩, ⟨[.sl 3], 24, false, []⟩]) (by kernel_rfl) (bt := 4) rfl rfl (by kernel_rfl) pure_FnExactRunExchange (s := Rows.fnExactRunExchangeSpec) rfl
    (fun ds h => by
      match ds, h with
      | [d0, d1], _ => rfl) hval hW hsz
theorem k0 : (Rows.fnExactRunExchangeRow.wf (OpenSpec.ofChange Rows.fnExactRunExchangeSpec)) = true := by kernel_rfl
theorem k3 : (Try.f17.params.all (Try.prog.readableRec ·)) = true := by kernel_rfl
theorem k4 : (namedTie Try.prog Rows.fnExactRunExchangeRow.named Rows.fnExactRunExchangeSpec.vars) = true := by kernel_rfl
theorem k5 : ((Rows.fnExactRunExchangeRow.stops == [])) = true := by kernel_rfl
theorem k7 : ((Rows.fnExactRunExchangeRow.knobs == [])) = true := by kernel_rfl
theorem k9 : ((Rows.fnExactRunExchangeRow.inPlace == Try.prog.inPlace 17)) = true := by kernel_rfl
theorem k10 : ((Rows.fnExactRunExchangeRow.unfollowed == Try.prog.unfollowed 17)) = true := by kernel_rfl
theorem k11 : ((Rows.fnExactRunExchangeRow.recurses == Try.prog.recurses 17)) = true := by kernel_rfl
theorem k12 : ((Rows.fnExactRunExchangeRow.named == Try.prog.varsNamed 17)) = true := by kernel_rfl
theorem k13 : ((Rows.fnExactRunExchangeRow.maps == (Try.f17.params.toList ++ Rows.fnExactRunExchangeSpec.plain.varTypes Try.prog).any (Try.prog.mapsRec ·))) = true := by kernel_rfl
theorem k14 : ((Rows.fnExactRunExchangeRow.ifaces == (Try.f17.params.toList ++ Rows.fnExactRunExchangeSpec.plain.varTypes Try.prog).any (Try.prog.ifacesRec ·))) = true := by kernel_rfl
theorem k15 : ((Rows.fnExactRunExchangeRow.mapsOut == Try.prog.mapsAmong Try.f17.resultTypes.toList)) = true := by kernel_rfl
theorem k16 : ((Rows.fnExactRunExchangeRow.loops == (Try.f17.params.toList ++ Rows.fnExactRunExchangeSpec.plain.varTypes Try.prog).any (Try.prog.loopsFrom ·))) = true := by kernel_rfl
theorem k17 : ((Rows.fnExactRunExchangeRow.wideKeys == (Try.f17.params.toList ++ Rows.fnExactRunExchangeSpec.plain.varTypes Try.prog ++ Try.f17.resultTypes.toList).any (Try.prog.wideKeysFrom ·))) = true := by kernel_rfl
theorem k18 : (Rows.fnExactRunExchangeSpec.vars.all (Try.prog.varReadable ·)) = true := by kernel_rfl
theorem k19 : (Try.f17.resultTypes.all (fun t => Try.prog.readableRec t && decide (t < Try.prog.types.size))) = true := by kernel_rfl
theorem k20 : ((Rows.fnExactRunExchangeRow.ifacesOut == Try.f17.resultTypes.toList.any (Try.prog.ifacesRec ·))) = true := by kernel_rfl
theorem k21 : ((Rows.fnExactRunExchangeRow.loopsOut == Try.f17.resultTypes.toList.any (Try.prog.loopsFrom ·))) = true := by kernel_rfl
theorem k22 : ((Rows.fnExactRunExchangeRow.plainKeys == Try.prog.plainKeys)) = true := by kernel_rfl
theorem k23 : (Rows.fnExactRunExchangeRow.shortTexts.isNone) = true := by kernel_rfl
theorem k26 : ((Rows.fnExactRunExchangeRow.lifted == Try.prog.liftsFinal)) = true := by rw [facLifts]; kernel_rfl
theorem k27 : ((Try.prog.make == some Rows.fnExactRunExchangeRow.make)) = true := by rw [facMake]; kernel_rfl
theorem k28 : ((Rows.fnExactRunExchangeRow.kinds == (if Rows.fnExactRunExchangeRow.domain.isEmpty then [] else Try.f17.params.toList.map fun t => match Try.prog.underlying t with | some (.int k) => some k | _ => none))) = true := by kernel_rfl
theorem k29 : ((Rows.fnExactRunExchangeRow.pinned == Rows.fnExactRunExchangeRow.pinnedBy)) = true := by kernel_rfl
theorem k30 : ((Rows.fnExactRunExchangeRow.veiled == (Try.f17.params.toList ++ Rows.fnExactRunExchangeSpec.plain.varTypes Try.prog ++ Try.f17.resultTypes.toList).any (Try.prog.veiledRec ·))) = true := by kernel_rfl
theorem k31 : (Rows.fnExactRunExchangeRow.veiledFits Try.prog Try.f17.params.toList (Try.f17.params.toList ++ Rows.fnExactRunExchangeSpec.plain.varTypes Try.prog ++ Try.f17.resultTypes.toList)) = true := by kernel_rfl
theorem closed : joinedFacts Try.pinned.checked.prog 17 Try.f17 Rows.fnExactRunExchangeSpec Rows.fnExactRunExchangeRow = true := (and2 (and2 (and2 (and2 (and2 (and2 (and2 (and2 (and2 (and2 (and2 (and2 (and2 (and2 (and2 (and2 (and2 (and2 (and2 (and2 (and2 (and2 (and2 (and2 (and2 (and2 (and2 (and2 (and2 (and2 (and2 k0 fac_laidOut) fac_maps) k3) k4) k5) fac_stops) k7) fac_knobs) k9) k10) k11) k12) k13) k14) k15) k16) k17) k18) k19) k20) k21) k22) k23) fac_heard) facEnter) k26) k27) k28) k29) k30) k31)
theorem named : Try.pinned.checked.prog.funcNamed Rows.fnExactRunExchangeRow.func = some 17 := by kernel_rfl
theorem over : Rows.fnExactRunExchangeRow.holds Try.pinned (OpenSpec.ofChange Rows.fnExactRunExchangeSpec) :=
  OpenClaim.holds_of_wide 17 Try.f17 rfl rfl rfl rfl rfl rfl rfl ⟨rfl, rfl, rfl, rfl, rfl⟩ rfl rfl rfl rfl rfl named Try.func17 closed
    (of_decide_eq_true (by kernel_rfl)) (by unfold Func.isWrapper; first | (rw [if_pos (by decide +kernel)]; kernel_rfl) | (rw [if_neg (by decide +kernel)]; exact ⟨rfl, rfl⟩))
    (fun os started H enc _ => lifted os started H enc)
#print axioms over
end Go.Proofs.Ytbmafhpbinjgaaa.fnExactRunExchange
namespace Go.Proofs.Ytbmafhpbinjgaaa
/-- The row, under a short name, for the claim. -/
theorem fnExactRunExchange_holds : Rows.FnExactRunExchangeSaid := fnExactRunExchange.over
end Go.Proofs.Ytbmafhpbinjgaaa
