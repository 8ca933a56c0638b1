/- LastRecord, AppendRecord, ReadRecords: the laws answer true; no condition. -/
import Derived.Test.YtbmafhpbinjgaaaP4
import Derived.Test.YtbmafhpbinjgaaaPI
import Derived.Test.YtbmafhpbinjgaaaPLA
import Derived.Test.YtbmafhpbinjgaaaEqLFnExactLastRecord
import Derived.Test.YtbmafhpbinjgaaaEqLFnExactAppendRecord
import Derived.Test.YtbmafhpbinjgaaaEqLFnExactReadRecords
namespace Go.Proofs.Ytbmafhpbinjgaaa.Vai
open Go
set_option linter.unusedSimpArgs false
set_option linter.unusedVariables false
set_option linter.unnecessarySimpa false
theorem pure_FnExactLastRecord : ∀ ds, OkDs tE [.str] ds → callI tE f_laws_FnExactLastRecord ds = some [.bool true] := by
  intro ds h
  obtain ⟨_, _, rfl, i0, h⟩ := h.inv
  obtain rfl := h.nil_inv
  obtain ⟨b, rfl, hb⟩ := i0.str'
  obtain ⟨s, rfl⟩ := of_S b
  rw [c_laws_FnExactLastRecord, szI_S]
  by_cases hl : 1048576 < (s.length : Int)
  · rw [ltT hl]; rfl
  · rw [ltF (by omega), cond_false, sLastRecord s (by omega), iLastRecord s (by omega)]
    simp only [gn_c, gb_c, gs_c, gl_c, tk_s, tk_0, List.drop_succ_cons, List.drop_zero, List.headD_cons, List.getD_cons_zero, List.getD_cons_succ, bind_s, eqS_self, eqBo_self, Bool.not_true, cond_false]
theorem pure_FnExactAppendRecord : ∀ ds, OkDs tE [.str, .str] ds → callI tE f_laws_FnExactAppendRecord ds = some [.bool true] := by
  intro ds h
  obtain ⟨_, _, rfl, i0, h⟩ := h.inv
  obtain ⟨_, _, rfl, i1, h⟩ := h.inv
  obtain rfl := h.nil_inv
  obtain ⟨b, rfl, hb⟩ := i0.str'
  obtain ⟨s, rfl⟩ := of_S b
  obtain ⟨b, rfl, hb⟩ := i1.str'
  obtain ⟨r, rfl⟩ := of_S b
  rw [c_laws_FnExactAppendRecord, szI_S, szI_S]
  by_cases hl : 1048576 < (s.length : Int)
  · rw [ltT hl]; rfl
  · rw [ltF (by omega), cond_false]
    by_cases hr : 1048576 < (r.length : Int)
    · rw [ltT hr]; rfl
    · rw [ltF (by omega), cond_false, sAppendRecord s r (by omega) (by omega), iAppendRecord s r (by omega) (by omega)]
      simp only [gn_c, gb_c, gs_c, gl_c, tk_s, tk_0, List.drop_succ_cons, List.drop_zero, List.headD_cons, List.getD_cons_zero, List.getD_cons_succ, bind_s, eqS_self, eqBo_self, Bool.not_true, cond_false]
theorem cnt_c1 {α : Type} : ∀ l : List α, cntL c1 l = l.length
  | [] => rfl
  | a :: l => by simp only [cntL, c1, cnt_c1 l, List.length_cons]; omega
theorem pure_FnExactReadRecords : ∀ ds, OkDs tE [.str] ds → callI tE f_laws_FnExactReadRecords ds = some [.bool true] := by
  intro ds h
  obtain ⟨_, _, rfl, i0, h⟩ := h.inv
  obtain rfl := h.nil_inv
  obtain ⟨b, rfl, hb⟩ := i0.str'
  obtain ⟨s, rfl⟩ := of_S b
  rw [c_laws_FnExactReadRecords, szI_S]
  by_cases hl : 1048576 < (s.length : Int)
  · rw [ltT hl]; rfl
  · have hlen := readJ_len s.length s (Nat.le_refl _)
    rw [ltF (by omega), cond_false, sReadRecords s (by omega), iReadRecords s (by omega), StE_map]
    have e := eq_StringS ((readJ s).1.map S) ((readJ s).1.map S) (by simp; omega)
    have m := mark_StringS ((readJ s).1.map S) 1 (by omega) (by rw [cnt_c1]; simp; omega) (by simp; omega)
    have hd := held_StringS ((readJ s).1.map S) 1 (by omega) (by rw [cnt_c1]; simp; omega) (by simp; omega)
    simp only [gn_c, gb_c, gs_c, gl_c, tk_s, tk_0, List.drop_succ_cons, List.drop_zero, List.headD_cons, List.getD_cons_zero, List.getD_cons_succ, bind_s, e, m, hd, decide_true, eqS_self, eqBo_self, eqI_self, Bool.not_true, cond_false, List.drop_succ_cons, List.drop_zero]
    rw [ltF (by omega)]
    rfl
end Go.Proofs.Ytbmafhpbinjgaaa.Vai
