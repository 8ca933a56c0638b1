/- The law FnExactReceiveRow of the given program answers true for every input; no condition. -/
import Derived.Test.YtbmafhpbinjgaaaRows
import Derived.Test.YtbmafhpbinjgaaaLX
import Derived.Test.YtbmafhpbinjgaaaFac
namespace Go.Proofs.Ytbmafhpbinjgaaa.fnExactReceiveRow
open Go Go.ChangeShapes Go.WideShapes Go.ChangeAt Go.RowKit Go.Proofs.Ytbmafhpbinjgaaa.Vai
set_option maxRecDepth 100000
theorem lifted (os : Os) (started : os.Started) (H : Type) (enc : TypeId × Value → H) :
    ReturnsInHanded {} Try.checked os 11 .any (Rows.fnExactReceiveRowSpec.pre6 enc Try.prog Try.f11 Rows.fnExactReceiveRowRow.domain false) (Rows.fnExactReceiveRowSpec.post enc Try.prog Try.f11 false true false false) := by
  refine returnsInHanded_of_change_sized (C := Try.checked) facOwn started (by kernel_rfl) Try.func11
    (ChangeSpec.witness6 (enc := enc) (C := Try.checked) false ⟨#[], #[.agg #[.slice none 0 0, .slice none 0 0, .slice none 0 0, .int .i64 0], .int .i64 0], []⟩ 8 (by kernel_rfl) (by kernel_rfl) (by kernel_rfl) (by kernel_rfl)) ?_
  intro W base args ds gs before hval hW hcnd hsz _
  exact law_contract (P := Try.prog) tEok.1 tEok.2 (by kernel_rfl) (f := 11) (tAt 11) rfl rfl (ps := [⟨[.sl 58, .sl 58, .sl 58, .int .i64], 80, true, [(0, 45), (1, 45), (2, 45), (3, 3)]⟩, ⟨[.int .i64], 8, false, []⟩]) (by kernel_rfl) (bt := 4) rfl rfl (by kernel_rfl) pure_FnExactReceiveRow (s := Rows.fnExactReceiveRowSpec) rfl
    (fun ds h => by
      match ds, h with
      | [d0, d1], _ => rfl) hval hW hsz
theorem k0 : (Rows.fnExactReceiveRowRow.wf (OpenSpec.ofChange Rows.fnExactReceiveRowSpec)) = true := by kernel_rfl
theorem k3 : (Try.f11.params.all (Try.prog.readableRec ·)) = true := by kernel_rfl
theorem k4 : (namedTie Try.prog Rows.fnExactReceiveRowRow.named Rows.fnExactReceiveRowSpec.vars) = true := by kernel_rfl
theorem k5 : ((Rows.fnExactReceiveRowRow.stops == [])) = true := by kernel_rfl
theorem k7 : ((Rows.fnExactReceiveRowRow.knobs == [])) = true := by kernel_rfl
theorem k9 : ((Rows.fnExactReceiveRowRow.inPlace == Try.prog.inPlace 11)) = true := by kernel_rfl
theorem k10 : ((Rows.fnExactReceiveRowRow.unfollowed == Try.prog.unfollowed 11)) = true := by kernel_rfl
theorem k11 : ((Rows.fnExactReceiveRowRow.recurses == Try.prog.recurses 11)) = true := by kernel_rfl
theorem k12 : ((Rows.fnExactReceiveRowRow.named == Try.prog.varsNamed 11)) = true := by kernel_rfl
theorem k13 : ((Rows.fnExactReceiveRowRow.maps == (Try.f11.params.toList ++ Rows.fnExactReceiveRowSpec.plain.varTypes Try.prog).any (Try.prog.mapsRec ·))) = true := by kernel_rfl
theorem k14 : ((Rows.fnExactReceiveRowRow.ifaces == (Try.f11.params.toList ++ Rows.fnExactReceiveRowSpec.plain.varTypes Try.prog).any (Try.prog.ifacesRec ·))) = true := by kernel_rfl
theorem k15 : ((Rows.fnExactReceiveRowRow.mapsOut == Try.prog.mapsAmong Try.f11.resultTypes.toList)) = true := by kernel_rfl
theorem k16 : ((Rows.fnExactReceiveRowRow.loops == (Try.f11.params.toList ++ Rows.fnExactReceiveRowSpec.plain.varTypes Try.prog).any (Try.prog.loopsFrom ·))) = true := by kernel_rfl
theorem k17 : ((Rows.fnExactReceiveRowRow.wideKeys == (Try.f11.params.toList ++ Rows.fnExactReceiveRowSpec.plain.varTypes Try.prog ++ Try.f11.resultTypes.toList).any (Try.prog.wideKeysFrom ·))) = true := by kernel_rfl
theorem k18 : (Rows.fnExactReceiveRowSpec.vars.all (Try.prog.varReadable ·)) = true := by kernel_rfl
theorem k19 : (Try.f11.resultTypes.all (fun t => Try.prog.readableRec t && decide (t < Try.prog.types.size))) = true := by kernel_rfl
theorem k20 : ((Rows.fnExactReceiveRowRow.ifacesOut == Try.f11.resultTypes.toList.any (Try.prog.ifacesRec ·))) = true := by kernel_rfl
theorem k21 : ((Rows.fnExactReceiveRowRow.loopsOut == Try.f11.resultTypes.toList.any (Try.prog.loopsFrom ·))) = true := by kernel_rfl
theorem k22 : ((Rows.fnExactReceiveRowRow.plainKeys == Try.prog.plainKeys)) = true := by kernel_rfl
theorem k23 : (Rows.fnExactReceiveRowRow.shortTexts.isNone) = true := by kernel_rfl
theorem k26 : ((Rows.fnExactReceiveRowRow.lifted == Try.prog.liftsFinal)) = true := by rw [facLifts]; kernel_rfl
theorem k27 : ((Try.prog.make == some Rows.fnExactReceiveRowRow.make)) = true := by rw [facMake]; kernel_rfl
theorem k28 : ((Rows.fnExactReceiveRowRow.kinds == (if Rows.fnExactReceiveRowRow.domain.isEmpty then [] else Try.f11.params.toList.map fun t => match Try.prog.underlying t with | some (.int k) => some k | _ => none))) = true := by kernel_rfl
theorem k29 : ((Rows.fnExactReceiveRowRow.pinned == Rows.fnExactReceiveRowRow.pinnedBy)) = true := by kernel_rfl
theorem k30 : ((Rows.fnExactReceiveRowRow.veiled == (Try.f11.params.toList ++ Rows.fnExactReceiveRowSpec.plain.varTypes Try.prog ++ Try.f11.resultTypes.toList).any (Try.prog.veiledRec ·))) = true := by kernel_rfl
theorem k31 : (Rows.fnExactReceiveRowRow.veiledFits Try.prog Try.f11.params.toList (Try.f11.params.toList ++ Rows.fnExactReceiveRowSpec.plain.varTypes Try.prog ++ Try.f11.resultTypes.toList)) = true := by kernel_rfl
theorem closed : joinedFacts Try.pinned.checked.prog 11 Try.f11 Rows.fnExactReceiveRowSpec Rows.fnExactReceiveRowRow = true := (and2 (and2 (and2 (and2 (and2 (and2 (and2 (and2 (and2 (and2 (and2 (and2 (and2 (and2 (and2 (and2 (and2 (and2 (and2 (and2 (and2 (and2 (and2 (and2 (and2 (and2 (and2 (and2 (and2 (and2 (and2 k0 fac_laidOut) fac_maps) k3) k4) k5) fac_stops) k7) fac_knobs) k9) k10) k11) k12) k13) k14) k15) k16) k17) k18) k19) k20) k21) k22) k23) fac_heard) facEnter) k26) k27) k28) k29) k30) k31)
theorem named : Try.pinned.checked.prog.funcNamed Rows.fnExactReceiveRowRow.func = some 11 := by kernel_rfl
theorem over : Rows.fnExactReceiveRowRow.holds Try.pinned (OpenSpec.ofChange Rows.fnExactReceiveRowSpec) :=
  OpenClaim.holds_of_wide 11 Try.f11 rfl rfl rfl rfl rfl rfl rfl ⟨rfl, rfl, rfl, rfl, rfl⟩ rfl rfl rfl rfl rfl named Try.func11 closed
    (of_decide_eq_true (by kernel_rfl)) (by unfold Func.isWrapper; first | (rw [if_pos (by decide +kernel)]; kernel_rfl) | (rw [if_neg (by decide +kernel)]; exact ⟨rfl, rfl⟩))
    (fun os started H enc _ => lifted os started H enc)
#print axioms over
end Go.Proofs.Ytbmafhpbinjgaaa.fnExactReceiveRow
namespace Go.Proofs.Ytbmafhpbinjgaaa
/-- The row, under a short name, for the claim. -/
theorem fnExactReceiveRow_holds : Rows.FnExactReceiveRowSaid := fnExactReceiveRow.over
end Go.Proofs.Ytbmafhpbinjgaaa
