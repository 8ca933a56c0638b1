/- Operators made, done, what they have written; no condition. -/
import Derived.Test.YtbmafhpbinjgaaaEqC
import Derived.Test.YtbmafhpbinjgaaaEqD
import Derived.Test.YtbmafhpbinjgaaaEqE
import Derived.Test.YtbmafhpbinjgaaaP1
namespace Go.Proofs.Ytbmafhpbinjgaaa.Vai
open Go
set_option linter.unusedSimpArgs false
set_option linter.unusedVariables false
set_option linter.unnecessarySimpa false
set_option maxRecDepth 10000
def So.zero : So := ⟨[], 0, [], [], [], [], 0, 0, 0, 0⟩
def Jn.zero : Jn := ⟨[], 0, 0⟩
def Ag.zero : Ag := ⟨[], 0, false⟩
def Tk.zero : Tk := ⟨0, [], [], [], 0⟩
def Opr.zero : Opr := ⟨0, So.zero, Jn.zero, Ag.zero⟩
def newSo (l : List Rw) : So × Bool := if aok l then (⟨l, 0, [], [], [], [], 0, 0, 1, 0⟩, true) else (So.zero, false)
def SoB (x : So × Bool) : List Dat := x.1.e ++ [.bool x.2]
theorem iNewSo (l : List Rw) : callI tE f_impl_NewSorter [.sl (l.map Rw.e)] = some (SoB (newSo l)) := by
  rw [c_impl_NewSorter, iAreValid]
  simp only [gn_c, gb_c, gs_c, gl_c, tk_s, tk_0, List.drop_succ_cons, List.drop_zero, List.headD_cons, List.getD_cons_zero, List.getD_cons_succ, bind_s]
  unfold newSo
  cases h : aok l
  · rfl
  · have := aok_len h
    rw [iClone l (by omega)]; rfl
theorem sNewSo (l : List Rw) (hl : l.length ≤ 1073741824) : callI tE f_spec_NewSorter [.sl (l.map Rw.e)] = some (SoB (newSo l)) := by
  rw [c_spec_NewSorter, sAreValid l (by omega)]
  simp only [gn_c, gb_c, gs_c, gl_c, tk_s, tk_0, List.drop_succ_cons, List.drop_zero, List.headD_cons, List.getD_cons_zero, List.getD_cons_succ, bind_s]
  unfold newSo
  cases h : aok l
  · rfl
  · rw [len_map, show fitM (0 + l.length) 24 = true from fitT (by omega)]; rfl
def newAg (l : List Rw) (e : Bool) : Ag × Bool := if aok l then (⟨[⟨l, 0⟩], 0, e⟩, true) else (Ag.zero, false)
def AgB (x : Ag × Bool) : List Dat := x.1.e ++ [.bool x.2]
theorem iNewAg (l : List Rw) (e : Bool) : callI tE f_impl_NewAggregator [.sl (l.map Rw.e), .bool e] = some (AgB (newAg l e)) := by
  rw [c_impl_NewAggregator, iAreValid]
  simp only [gn_c, gb_c, gs_c, gl_c, tk_s, tk_0, List.drop_succ_cons, List.drop_zero, List.headD_cons, List.getD_cons_zero, List.getD_cons_succ, bind_s]
  unfold newAg
  cases h : aok l
  · rfl
  · have := aok_len h
    rw [iClone l (by omega)]; rfl
theorem sNewAg (l : List Rw) (e : Bool) (hl : l.length ≤ 1073741824) : callI tE f_spec_NewAggregator [.sl (l.map Rw.e), .bool e] = some (AgB (newAg l e)) := by
  rw [c_spec_NewAggregator, sAreValid l (by omega)]
  simp only [gn_c, gb_c, gs_c, gl_c, tk_s, tk_0, List.drop_succ_cons, List.drop_zero, List.headD_cons, List.getD_cons_zero, List.getD_cons_succ, bind_s]
  unfold newAg
  cases h : aok l
  · rfl
  · rw [len_map, show fitM (0 + l.length) 24 = true from fitT (by omega)]; rfl
theorem iKind (k : Int) : callI tE f_impl_IsValidJoinKind [.int k] = some [.bool (win k 1 4)] := by
  simp only [c_impl_IsValidJoinKind, within_ok, gn_c, gb_c, gs_c, gl_c, tk_s, tk_0, List.drop_succ_cons, List.drop_zero, List.headD_cons, List.getD_cons_zero, List.getD_cons_succ, bind_s]
theorem sKind (k : Int) : callI tE f_spec_IsValidJoinKind [.int k] = some [.bool (win k 1 4)] := by
  simp only [c_spec_IsValidJoinKind, l1In_ok, gn_c, gb_c, gs_c, gl_c, tk_s, tk_0, List.drop_succ_cons, List.drop_zero, List.headD_cons, List.getD_cons_zero, List.getD_cons_succ, bind_s]
def newTk (k : Int) (a b : List Rw) : Tk × Bool := if win k 1 4 = true ∧ aok a = true ∧ aok b = true then (⟨k, a, b, List.replicate a.length false, 0⟩, true) else (Tk.zero, false)
def TkB (x : Tk × Bool) : List Dat := x.1.e ++ [.bool x.2]
theorem rep_bo (n : Nat) : List.replicate n [Dat.bool false] = (List.replicate n false).map boE := by simp [boE]
theorem iNewTk (k : Int) (a b : List Rw) : callI tE f_impl_NewTask [.int k, .sl (a.map Rw.e), .sl (b.map Rw.e)] = some (TkB (newTk k a b)) := by
  rw [c_impl_NewTask, iKind]
  simp only [gn_c, gb_c, gs_c, gl_c, tk_s, tk_0, List.drop_succ_cons, List.drop_zero, List.headD_cons, List.getD_cons_zero, List.getD_cons_succ, bind_s, iAreValid]
  unfold newTk
  cases h1 : win k 1 4
  · simp; rfl
  · cases h2 : aok a
    · simp; rfl
    · cases h3 : aok b
      · simp; rfl
      · have := aok_len h2
        have := aok_len h3
        rw [iClone a (by omega), iClone b (by omega)]
        simp only [gn_c, gb_c, gs_c, gl_c, tk_s, tk_0, List.drop_succ_cons, List.drop_zero, List.headD_cons, List.getD_cons_zero, List.getD_cons_succ, bind_s]
        rw [le0_len, eqI_self, lenI_map, tn_c, show fitM a.length 1 = true from fitT (by omega), rep_bo, if_pos (by simp)]
        rfl
theorem sNewTk (k : Int) (a b : List Rw) (ha : a.length ≤ 1073741824) (hb : b.length ≤ 1073741824) : callI tE f_spec_NewTask [.int k, .sl (a.map Rw.e), .sl (b.map Rw.e)] = some (TkB (newTk k a b)) := by
  rw [c_spec_NewTask, sKind]
  simp only [gn_c, gb_c, gs_c, gl_c, tk_s, tk_0, List.drop_succ_cons, List.drop_zero, List.headD_cons, List.getD_cons_zero, List.getD_cons_succ, bind_s, sAreValid a (by omega), sAreValid b (by omega)]
  unfold newTk
  cases h1 : win k 1 4
  · simp; rfl
  · cases h2 : aok a
    · simp; rfl
    · cases h3 : aok b
      · simp; rfl
      · rw [le0_len, eqI_self, lenI_map, tn_c, len_map, len_map, show fitM a.length 1 = true from fitT (by omega), show fitM (0 + a.length) 24 = true from fitT (by omega), show fitM (0 + b.length) 24 = true from fitT (by omega), rep_bo, if_pos (by simp)]
        rfl
def newJn (k : Int) (a b : List Rw) : Jn × Bool := if (newTk k a b).2 then (⟨[(newTk k a b).1], 0, 0⟩, true) else (Jn.zero, false)
def JnB (x : Jn × Bool) : List Dat := x.1.e ++ [.bool x.2]
theorem iNewJn (k : Int) (a b : List Rw) : callI tE f_impl_NewJoiner [.int k, .sl (a.map Rw.e), .sl (b.map Rw.e)] = some (JnB (newJn k a b)) := by
  rw [c_impl_NewJoiner, iNewTk]
  unfold newJn
  generalize newTk k a b = t
  obtain ⟨t, ok⟩ := t
  cases ok <;> rfl
theorem sNewJn (k : Int) (a b : List Rw) (ha : a.length ≤ 1073741824) (hb : b.length ≤ 1073741824) : callI tE f_spec_NewJoiner [.int k, .sl (a.map Rw.e), .sl (b.map Rw.e)] = some (JnB (newJn k a b)) := by
  rw [c_spec_NewJoiner, sNewTk k a b ha hb]
  unfold newJn
  generalize newTk k a b = t
  obtain ⟨t, ok⟩ := t
  cases ok <;> rfl
/-! operators -/
def OpB (x : Opr × Bool) : List Dat := x.1.e ++ [.bool x.2]
def newSoOp (l : List Rw) : Opr × Bool := if (newSo l).2 then (⟨1, (newSo l).1, Jn.zero, Ag.zero⟩, true) else (Opr.zero, false)
def newAgOp (l : List Rw) (e : Bool) : Opr × Bool := if (newAg l e).2 then (⟨3, So.zero, Jn.zero, (newAg l e).1⟩, true) else (Opr.zero, false)
def newJnOp (k : Int) (a b : List Rw) : Opr × Bool := if (newJn k a b).2 then (⟨2, So.zero, (newJn k a b).1, Ag.zero⟩, true) else (Opr.zero, false)
theorem iNewSoOp (l : List Rw) : callI tE f_impl_NewSortOp [.sl (l.map Rw.e)] = some (OpB (newSoOp l)) := by
  rw [c_impl_NewSortOp, iNewSo]
  unfold newSoOp
  generalize newSo l = t
  obtain ⟨t, ok⟩ := t
  cases ok <;> rfl
theorem sNewSoOp (l : List Rw) (hl : l.length ≤ 1073741824) : callI tE f_spec_NewSortOp [.sl (l.map Rw.e)] = some (OpB (newSoOp l)) := by
  rw [c_spec_NewSortOp, sNewSo l hl]
  unfold newSoOp
  generalize newSo l = t
  obtain ⟨t, ok⟩ := t
  cases ok <;> rfl
theorem iNewAgOp (l : List Rw) (e : Bool) : callI tE f_impl_NewGroupOp [.sl (l.map Rw.e), .bool e] = some (OpB (newAgOp l e)) := by
  rw [c_impl_NewGroupOp, iNewAg]
  unfold newAgOp
  generalize newAg l e = t
  obtain ⟨t, ok⟩ := t
  cases ok <;> rfl
theorem sNewAgOp (l : List Rw) (e : Bool) (hl : l.length ≤ 1073741824) : callI tE f_spec_NewGroupOp [.sl (l.map Rw.e), .bool e] = some (OpB (newAgOp l e)) := by
  rw [c_spec_NewGroupOp, sNewAg l e hl]
  unfold newAgOp
  generalize newAg l e = t
  obtain ⟨t, ok⟩ := t
  cases ok <;> rfl
theorem iNewJnOp (k : Int) (a b : List Rw) : callI tE f_impl_NewJoinOp [.int k, .sl (a.map Rw.e), .sl (b.map Rw.e)] = some (OpB (newJnOp k a b)) := by
  rw [c_impl_NewJoinOp, iNewJn]
  unfold newJnOp
  generalize newJn k a b = t
  obtain ⟨t, ok⟩ := t
  cases ok <;> rfl
theorem sNewJnOp (k : Int) (a b : List Rw) (ha : a.length ≤ 1073741824) (hb : b.length ≤ 1073741824) : callI tE f_spec_NewJoinOp [.int k, .sl (a.map Rw.e), .sl (b.map Rw.e)] = some (OpB (newJnOp k a b)) := by
  rw [c_spec_NewJoinOp, sNewJn k a b ha hb]
  unfold newJnOp
  generalize newJn k a b = t
  obtain ⟨t, ok⟩ := t
  cases ok <;> rfl
def opDone (x : Opr) : Bool := bif eqI x.kind 1 then eqI x.so.ph 4 else bif eqI x.kind 2 then eqI x.jn.pend.length 0 else bif eqI x.kind 3 then eqI x.ag.pend.length 0 else true
theorem iIsOpDone (x : Opr) : callI tE f_impl_IsOpDone x.e = some [.bool (opDone x)] := by
  simp only [Opr.e]
  rw [c_impl_IsOpDone, lenI_map, lenI_map]
  unfold opDone
  cases eqI x.kind 1 <;> cases eqI x.kind 2 <;> cases eqI x.kind 3 <;> rfl
theorem sIsOpDone (x : Opr) : callI tE f_spec_IsOpDone x.e = some [.bool (opDone x)] := by
  simp only [Opr.e]
  rw [c_spec_IsOpDone, lenI_map, lenI_map]
  unfold opDone
  cases eqI x.kind 1 <;> cases eqI x.kind 2 <;> cases eqI x.kind 3 <;> rfl
def opWritten (x : Opr) : Int := bif eqI x.kind 1 then x.so.wr else bif eqI x.kind 2 then x.jn.wr else bif eqI x.kind 3 then x.ag.wr else 0
theorem iWritten (x : Opr) : callI tE f_impl_WrittenCost x.e = some [.int (opWritten x)] := by
  simp only [Opr.e]
  rw [c_impl_WrittenCost]
  unfold opWritten
  cases eqI x.kind 1 <;> cases eqI x.kind 2 <;> cases eqI x.kind 3 <;> rfl
theorem sWritten (x : Opr) : callI tE f_spec_WrittenCost x.e = some [.int (opWritten x)] := by
  simp only [Opr.e]
  rw [c_spec_WrittenCost]
  unfold opWritten
  cases eqI x.kind 1 <;> cases eqI x.kind 2 <;> cases eqI x.kind 3 <;> rfl
theorem newSo_sz (l : List Rw) : (newSo l).1.sz ≤ 24 := by
  unfold newSo
  split
  · rename_i h; have := aok_len h; simp only [So.sz, szL, List.length_nil]; omega
  · simp [So.sz, So.zero, szL]
theorem newAg_sz (l : List Rw) (e : Bool) : (newAg l e).1.sz ≤ 25 := by
  unfold newAg
  split
  · rename_i h; have := aok_len h; simp only [Ag.sz, szL, Gt.sz]; omega
  · simp [Ag.sz, Ag.zero, szL]
theorem newTk_sz (k : Int) (a b : List Rw) : (newTk k a b).1.sz ≤ 72 := by
  unfold newTk
  split
  · rename_i h; have := aok_len h.2.1; have := aok_len h.2.2; simp only [Tk.sz, List.length_replicate]; omega
  · simp [Tk.sz, Tk.zero]
theorem newJn_sz (k : Int) (a b : List Rw) : (newJn k a b).1.sz ≤ 73 := by
  have := newTk_sz k a b
  unfold newJn
  split
  · simp only [Jn.sz, szL]; omega
  · simp [Jn.sz, Jn.zero, szL]
theorem zero_sz : So.zero.sz = 0 ∧ Jn.zero.sz = 0 ∧ Ag.zero.sz = 0 := ⟨rfl, rfl, rfl⟩
theorem newSoOp_sz (l : List Rw) : (newSoOp l).1.sz ≤ 1000 := by
  have := newSo_sz l
  have := zero_sz
  unfold newSoOp
  split <;> simp only [Opr.sz, Opr.zero] <;> omega
theorem newAgOp_sz (l : List Rw) (e : Bool) : (newAgOp l e).1.sz ≤ 1000 := by
  have := newAg_sz l e
  have := zero_sz
  unfold newAgOp
  split <;> simp only [Opr.sz, Opr.zero] <;> omega
theorem newJnOp_sz (k : Int) (a b : List Rw) : (newJnOp k a b).1.sz ≤ 1000 := by
  have := newJn_sz k a b
  have := zero_sz
  unfold newJnOp
  split <;> simp only [Opr.sz, Opr.zero] <;> omega
end Go.Proofs.Ytbmafhpbinjgaaa.Vai
