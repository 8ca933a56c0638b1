/- What comes in, as named data; no condition. -/
import Derived.Test.YtbmafhpbinjgaaaEqNames
import Derived.Test.YtbmafhpbinjgaaaT1
namespace Go.Proofs.Ytbmafhpbinjgaaa.Vai
open Go
set_option linter.unusedSimpArgs false
set_option linter.unusedVariables false
set_option linter.unnecessarySimpa false
set_option maxRecDepth 10000
theorem of_sl {α : Type} {e : α → List Dat} {p : α → Prop} {t : TypeId} {te : TI} (ht : tE.T t = some te) (hp : 0 < te.by_) (hE : ∀ {ds : List Dat}, OkDs tE te.ls ds → ∃ x, ds = e x ∧ p x) {d : Dat} (h : OkD tE (.sl t) d) : ∃ l : List α, d = .sl (l.map e) ∧ BdL p l := by
  obtain ⟨rows, rfl, hn, hr⟩ := h.sl' ht
  have key : ∀ rows : Rows, (∀ r ∈ rows, OkDs tE te.ls r) → ∃ l : List α, rows = l.map e ∧ ∀ a ∈ l, p a := by
    intro rows
    induction rows with
    | nil => intro _; exact ⟨[], rfl, fun a ha => by cases ha⟩
    | cons r rows ih =>
      intro hr
      obtain ⟨l, h1, h2⟩ := ih (fun q hq => hr q (List.mem_cons_of_mem _ hq))
      obtain ⟨x, h3, h4⟩ := hE (hr r (by simp))
      exact ⟨x :: l, by rw [h1, h3]; rfl, fun a ha => (List.mem_cons.mp ha).elim (fun e => e ▸ h4) (h2 a)⟩
  obtain ⟨l, h1, h2⟩ := key rows hr
  refine ⟨l, by rw [h1], ?_, h2⟩
  have : rows.length = l.length := by rw [h1]; simp
  have h3 : rows.length ≤ reachBytes := Nat.le_trans (Nat.le_mul_of_pos_right _ hp) hn
  have h4 : reachBytes ≤ 1152921504606846976 := by decide
  omega
theorem OkDs.split {ls1 ls2 : List Leaf} {ds : List Dat} (h : OkDs tE (ls1 ++ ls2) ds) : ∃ d1 d2, ds = d1 ++ d2 ∧ OkDs tE ls1 d1 ∧ OkDs tE ls2 d2 := by
  induction ls1 generalizing ds with
  | nil => exact ⟨[], ds, rfl, .nil, h⟩
  | cons l ls ih =>
    obtain ⟨d, r, rfl, h1, h2⟩ := h.inv
    obtain ⟨d1, d2, rfl, h3, h4⟩ := ih h2
    exact ⟨d :: d1, d2, rfl, .cons _ _ _ _ h1 h3, h4⟩
theorem of_int {ds : List Dat} (h : OkDs tE [.int .i64] ds) : ∃ n, ds = intE n ∧ I64 n := by
  obtain ⟨_, _, rfl, i, h⟩ := h.inv
  obtain rfl := h.nil_inv
  obtain ⟨n, rfl, j⟩ := i.i64
  exact ⟨n, rfl, j⟩
theorem of_bool {ds : List Dat} (h : OkDs tE [.bool] ds) : ∃ n, ds = boE n ∧ BdT n := by
  obtain ⟨_, _, rfl, i, h⟩ := h.inv
  obtain rfl := h.nil_inv
  obtain ⟨n, rfl⟩ := i.bool'
  exact ⟨n, rfl, trivial⟩
theorem of_Row {ds : List Dat} (h : OkDs tE [.int .i64, .int .i64, .int .i64] ds) : ∃ x : Rw, ds = Rw.e x ∧ Rw.bd x := by
  obtain ⟨_, _, rfl, i0, h⟩ := h.inv
  obtain ⟨_, _, rfl, i1, h⟩ := h.inv
  obtain ⟨_, _, rfl, i2, h⟩ := h.inv
  obtain rfl := h.nil_inv
  obtain ⟨n0, rfl, j0⟩ := i0.i64
  obtain ⟨n1, rfl, j1⟩ := i1.i64
  obtain ⟨n2, rfl, j2⟩ := i2.i64
  exact ⟨⟨n0, n1, n2⟩, rfl, ⟨j0, j1, j2⟩⟩
theorem of_Pair {ds : List Dat} (h : OkDs tE [.int .i64, .int .i64, .int .i64, .int .i64, .int .i64, .int .i64, .bool] ds) : ∃ x : Pr, ds = Pr.e x ∧ Pr.bd x := by
  obtain ⟨_, _, rfl, i0, h⟩ := h.inv
  obtain ⟨_, _, rfl, i1, h⟩ := h.inv
  obtain ⟨_, _, rfl, i2, h⟩ := h.inv
  obtain ⟨_, _, rfl, i3, h⟩ := h.inv
  obtain ⟨_, _, rfl, i4, h⟩ := h.inv
  obtain ⟨_, _, rfl, i5, h⟩ := h.inv
  obtain ⟨_, _, rfl, i6, h⟩ := h.inv
  obtain rfl := h.nil_inv
  obtain ⟨n0, rfl, j0⟩ := i0.i64
  obtain ⟨n1, rfl, j1⟩ := i1.i64
  obtain ⟨n2, rfl, j2⟩ := i2.i64
  obtain ⟨n3, rfl, j3⟩ := i3.i64
  obtain ⟨n4, rfl, j4⟩ := i4.i64
  obtain ⟨n5, rfl, j5⟩ := i5.i64
  obtain ⟨n6, rfl⟩ := i6.bool'
  exact ⟨⟨⟨n0, n1, n2⟩, ⟨n3, n4, n5⟩, n6⟩, rfl, ⟨⟨j0, j1, j2⟩, ⟨j3, j4, j5⟩, trivial⟩⟩
theorem of_Group {ds : List Dat} (h : OkDs tE [.int .i64, .int .i64, .int .i64, .int .i64, .int .i64] ds) : ∃ x : Gr, ds = Gr.e x ∧ Gr.bd x := by
  obtain ⟨_, _, rfl, i0, h⟩ := h.inv
  obtain ⟨_, _, rfl, i1, h⟩ := h.inv
  obtain ⟨_, _, rfl, i2, h⟩ := h.inv
  obtain ⟨_, _, rfl, i3, h⟩ := h.inv
  obtain ⟨_, _, rfl, i4, h⟩ := h.inv
  obtain rfl := h.nil_inv
  obtain ⟨n0, rfl, j0⟩ := i0.i64
  obtain ⟨n1, rfl, j1⟩ := i1.i64
  obtain ⟨n2, rfl, j2⟩ := i2.i64
  obtain ⟨n3, rfl, j3⟩ := i3.i64
  obtain ⟨n4, rfl, j4⟩ := i4.i64
  exact ⟨⟨n0, n1, n2, n3, n4⟩, rfl, ⟨j0, j1, j2, j3, j4⟩⟩
theorem of_Task {ds : List Dat} (h : OkDs tE [.int .i64, .sl 65, .sl 65, .sl 4, .int .i64] ds) : ∃ x : Tk, ds = Tk.e x ∧ Tk.bd x := by
  obtain ⟨_, _, rfl, i0, h⟩ := h.inv
  obtain ⟨_, _, rfl, i1, h⟩ := h.inv
  obtain ⟨_, _, rfl, i2, h⟩ := h.inv
  obtain ⟨_, _, rfl, i3, h⟩ := h.inv
  obtain ⟨_, _, rfl, i4, h⟩ := h.inv
  obtain rfl := h.nil_inv
  obtain ⟨n0, rfl, j0⟩ := i0.i64
  obtain ⟨n1, rfl, j1⟩ := of_sl (te := ⟨[.int .i64, .int .i64, .int .i64], 24, true, [(0, 3), (1, 3), (2, 3)]⟩) rfl (by decide) of_Row i1
  obtain ⟨n2, rfl, j2⟩ := of_sl (te := ⟨[.int .i64, .int .i64, .int .i64], 24, true, [(0, 3), (1, 3), (2, 3)]⟩) rfl (by decide) of_Row i2
  obtain ⟨n3, rfl, j3⟩ := of_sl (te := ⟨[.bool], 1, false, []⟩) rfl (by decide) of_bool i3
  obtain ⟨n4, rfl, j4⟩ := i4.i64
  exact ⟨⟨n0, n1, n2, n3, n4⟩, rfl, ⟨j0, j1, j2, j3, j4⟩⟩
theorem of_GroupTask {ds : List Dat} (h : OkDs tE [.sl 65, .int .i64] ds) : ∃ x : Gt, ds = Gt.e x ∧ Gt.bd x := by
  obtain ⟨_, _, rfl, i0, h⟩ := h.inv
  obtain ⟨_, _, rfl, i1, h⟩ := h.inv
  obtain rfl := h.nil_inv
  obtain ⟨n0, rfl, j0⟩ := of_sl (te := ⟨[.int .i64, .int .i64, .int .i64], 24, true, [(0, 3), (1, 3), (2, 3)]⟩) rfl (by decide) of_Row i0
  obtain ⟨n1, rfl, j1⟩ := i1.i64
  exact ⟨⟨n0, n1⟩, rfl, ⟨j0, j1⟩⟩
theorem of_Run {ds : List Dat} (h : OkDs tE [.sl 65] ds) : ∃ x : List Rw, ds = rsE x ∧ rsB x := by
  obtain ⟨_, _, rfl, i0, h⟩ := h.inv
  obtain rfl := h.nil_inv
  obtain ⟨n0, rfl, j0⟩ := of_sl (te := ⟨[.int .i64, .int .i64, .int .i64], 24, true, [(0, 3), (1, 3), (2, 3)]⟩) rfl (by decide) of_Row i0
  exact ⟨n0, rfl, j0⟩
theorem of_Sorter {ds : List Dat} (h : OkDs tE [.sl 65, .int .i64, .sl 65, .sl 65, .sl 65, .sl 314, .int .i64, .int .i64, .int .i64, .int .i64] ds) : ∃ x : So, ds = So.e x ∧ So.bd x := by
  obtain ⟨_, _, rfl, i0, h⟩ := h.inv
  obtain ⟨_, _, rfl, i1, h⟩ := h.inv
  obtain ⟨_, _, rfl, i2, h⟩ := h.inv
  obtain ⟨_, _, rfl, i3, h⟩ := h.inv
  obtain ⟨_, _, rfl, i4, h⟩ := h.inv
  obtain ⟨_, _, rfl, i5, h⟩ := h.inv
  obtain ⟨_, _, rfl, i6, h⟩ := h.inv
  obtain ⟨_, _, rfl, i7, h⟩ := h.inv
  obtain ⟨_, _, rfl, i8, h⟩ := h.inv
  obtain ⟨_, _, rfl, i9, h⟩ := h.inv
  obtain rfl := h.nil_inv
  obtain ⟨n0, rfl, j0⟩ := of_sl (te := ⟨[.int .i64, .int .i64, .int .i64], 24, true, [(0, 3), (1, 3), (2, 3)]⟩) rfl (by decide) of_Row i0
  obtain ⟨n1, rfl, j1⟩ := i1.i64
  obtain ⟨n2, rfl, j2⟩ := of_sl (te := ⟨[.int .i64, .int .i64, .int .i64], 24, true, [(0, 3), (1, 3), (2, 3)]⟩) rfl (by decide) of_Row i2
  obtain ⟨n3, rfl, j3⟩ := of_sl (te := ⟨[.int .i64, .int .i64, .int .i64], 24, true, [(0, 3), (1, 3), (2, 3)]⟩) rfl (by decide) of_Row i3
  obtain ⟨n4, rfl, j4⟩ := of_sl (te := ⟨[.int .i64, .int .i64, .int .i64], 24, true, [(0, 3), (1, 3), (2, 3)]⟩) rfl (by decide) of_Row i4
  obtain ⟨n5, rfl, j5⟩ := of_sl (te := ⟨[.sl 65], 24, true, [(0, 58)]⟩) rfl (by decide) of_Run i5
  obtain ⟨n6, rfl, j6⟩ := i6.i64
  obtain ⟨n7, rfl, j7⟩ := i7.i64
  obtain ⟨n8, rfl, j8⟩ := i8.i64
  obtain ⟨n9, rfl, j9⟩ := i9.i64
  exact ⟨⟨n0, n1, n2, n3, n4, n5, n6, n7, n8, n9⟩, rfl, ⟨j0, j1, j2, j3, j4, j5, j6, j7, j8, j9⟩⟩
theorem of_Joiner {ds : List Dat} (h : OkDs tE [.sl 317, .int .i64, .int .i64] ds) : ∃ x : Jn, ds = Jn.e x ∧ Jn.bd x := by
  obtain ⟨_, _, rfl, i0, h⟩ := h.inv
  obtain ⟨_, _, rfl, i1, h⟩ := h.inv
  obtain ⟨_, _, rfl, i2, h⟩ := h.inv
  obtain rfl := h.nil_inv
  obtain ⟨n0, rfl, j0⟩ := of_sl (te := ⟨[.int .i64, .sl 65, .sl 65, .sl 4, .int .i64], 88, true, [(0, 3), (1, 58), (2, 58), (3, 232), (4, 3)]⟩) rfl (by decide) of_Task i0
  obtain ⟨n1, rfl, j1⟩ := i1.i64
  obtain ⟨n2, rfl, j2⟩ := i2.i64
  exact ⟨⟨n0, n1, n2⟩, rfl, ⟨j0, j1, j2⟩⟩
theorem of_Aggregator {ds : List Dat} (h : OkDs tE [.sl 320, .int .i64, .bool] ds) : ∃ x : Ag, ds = Ag.e x ∧ Ag.bd x := by
  obtain ⟨_, _, rfl, i0, h⟩ := h.inv
  obtain ⟨_, _, rfl, i1, h⟩ := h.inv
  obtain ⟨_, _, rfl, i2, h⟩ := h.inv
  obtain rfl := h.nil_inv
  obtain ⟨n0, rfl, j0⟩ := of_sl (te := ⟨[.sl 65, .int .i64], 32, true, [(0, 58), (1, 3)]⟩) rfl (by decide) of_GroupTask i0
  obtain ⟨n1, rfl, j1⟩ := i1.i64
  obtain ⟨n2, rfl⟩ := i2.bool'
  exact ⟨⟨n0, n1, n2⟩, rfl, ⟨j0, j1, trivial⟩⟩
theorem of_Op {ds : List Dat} (h : OkDs tE [.int .i64, .sl 65, .int .i64, .sl 65, .sl 65, .sl 65, .sl 314, .int .i64, .int .i64, .int .i64, .int .i64, .sl 317, .int .i64, .int .i64, .sl 320, .int .i64, .bool] ds) : ∃ x : Opr, ds = Opr.e x ∧ Opr.bd x := by
  obtain ⟨_, _, rfl, i0, h⟩ := h.inv
  obtain ⟨_, _, rfl, i1, h⟩ := h.inv
  obtain ⟨_, _, rfl, i2, h⟩ := h.inv
  obtain ⟨_, _, rfl, i3, h⟩ := h.inv
  obtain ⟨_, _, rfl, i4, h⟩ := h.inv
  obtain ⟨_, _, rfl, i5, h⟩ := h.inv
  obtain ⟨_, _, rfl, i6, h⟩ := h.inv
  obtain ⟨_, _, rfl, i7, h⟩ := h.inv
  obtain ⟨_, _, rfl, i8, h⟩ := h.inv
  obtain ⟨_, _, rfl, i9, h⟩ := h.inv
  obtain ⟨_, _, rfl, i10, h⟩ := h.inv
  obtain ⟨_, _, rfl, i11, h⟩ := h.inv
  obtain ⟨_, _, rfl, i12, h⟩ := h.inv
  obtain ⟨_, _, rfl, i13, h⟩ := h.inv
  obtain ⟨_, _, rfl, i14, h⟩ := h.inv
  obtain ⟨_, _, rfl, i15, h⟩ := h.inv
  obtain ⟨_, _, rfl, i16, h⟩ := h.inv
  obtain rfl := h.nil_inv
  obtain ⟨n0, rfl, j0⟩ := i0.i64
  obtain ⟨n1, rfl, j1⟩ := of_sl (te := ⟨[.int .i64, .int .i64, .int .i64], 24, true, [(0, 3), (1, 3), (2, 3)]⟩) rfl (by decide) of_Row i1
  obtain ⟨n2, rfl, j2⟩ := i2.i64
  obtain ⟨n3, rfl, j3⟩ := of_sl (te := ⟨[.int .i64, .int .i64, .int .i64], 24, true, [(0, 3), (1, 3), (2, 3)]⟩) rfl (by decide) of_Row i3
  obtain ⟨n4, rfl, j4⟩ := of_sl (te := ⟨[.int .i64, .int .i64, .int .i64], 24, true, [(0, 3), (1, 3), (2, 3)]⟩) rfl (by decide) of_Row i4
  obtain ⟨n5, rfl, j5⟩ := of_sl (te := ⟨[.int .i64, .int .i64, .int .i64], 24, true, [(0, 3), (1, 3), (2, 3)]⟩) rfl (by decide) of_Row i5
  obtain ⟨n6, rfl, j6⟩ := of_sl (te := ⟨[.sl 65], 24, true, [(0, 58)]⟩) rfl (by decide) of_Run i6
  obtain ⟨n7, rfl, j7⟩ := i7.i64
  obtain ⟨n8, rfl, j8⟩ := i8.i64
  obtain ⟨n9, rfl, j9⟩ := i9.i64
  obtain ⟨n10, rfl, j10⟩ := i10.i64
  obtain ⟨n11, rfl, j11⟩ := of_sl (te := ⟨[.int .i64, .sl 65, .sl 65, .sl 4, .int .i64], 88, true, [(0, 3), (1, 58), (2, 58), (3, 232), (4, 3)]⟩) rfl (by decide) of_Task i11
  obtain ⟨n12, rfl, j12⟩ := i12.i64
  obtain ⟨n13, rfl, j13⟩ := i13.i64
  obtain ⟨n14, rfl, j14⟩ := of_sl (te := ⟨[.sl 65, .int .i64], 32, true, [(0, 58), (1, 3)]⟩) rfl (by decide) of_GroupTask i14
  obtain ⟨n15, rfl, j15⟩ := i15.i64
  obtain ⟨n16, rfl⟩ := i16.bool'
  exact ⟨⟨n0, ⟨n1, n2, n3, n4, n5, n6, n7, n8, n9, n10⟩, ⟨n11, n12, n13⟩, ⟨n14, n15, n16⟩⟩, rfl, ⟨j0, ⟨j1, j2, j3, j4, j5, j6, j7, j8, j9, j10⟩, ⟨j11, j12, j13⟩, ⟨j14, j15, trivial⟩⟩⟩
theorem of_Output {ds : List Dat} (h : OkDs tE [.sl 65, .sl 269, .sl 271] ds) : ∃ x : Ou, ds = Ou.e x ∧ Ou.bd x := by
  obtain ⟨_, _, rfl, i0, h⟩ := h.inv
  obtain ⟨_, _, rfl, i1, h⟩ := h.inv
  obtain ⟨_, _, rfl, i2, h⟩ := h.inv
  obtain rfl := h.nil_inv
  obtain ⟨n0, rfl, j0⟩ := of_sl (te := ⟨[.int .i64, .int .i64, .int .i64], 24, true, [(0, 3), (1, 3), (2, 3)]⟩) rfl (by decide) of_Row i0
  obtain ⟨n1, rfl, j1⟩ := of_sl (te := ⟨[.int .i64, .int .i64, .int .i64, .int .i64, .int .i64, .int .i64, .bool], 56, true, [(0, 65), (3, 65), (6, 4)]⟩) rfl (by decide) of_Pair i1
  obtain ⟨n2, rfl, j2⟩ := of_sl (te := ⟨[.int .i64, .int .i64, .int .i64, .int .i64, .int .i64], 40, true, [(0, 3), (1, 3), (2, 3), (3, 3), (4, 3)]⟩) rfl (by decide) of_Group i2
  exact ⟨⟨n0, n1, n2⟩, rfl, ⟨j0, j1, j2⟩⟩
theorem of_RowS {ds : List Dat} (h : OkDs tE [.sl 65] ds) : ∃ x : List Rw, ds = rsE x ∧ rsB x := by
  obtain ⟨_, _, rfl, i, h⟩ := h.inv
  obtain rfl := h.nil_inv
  obtain ⟨n, rfl, j⟩ := of_sl (te := ⟨[.int .i64, .int .i64, .int .i64], 24, true, [(0, 3), (1, 3), (2, 3)]⟩) rfl (by decide) of_Row i
  exact ⟨n, rfl, j⟩
theorem of_Exchange {ds : List Dat} (h : OkDs tE [.sl 58, .sl 58, .sl 58, .int .i64] ds) : ∃ x : Xc, ds = Xc.e x ∧ Xc.bd x := by
  obtain ⟨_, _, rfl, i0, h⟩ := h.inv
  obtain ⟨_, _, rfl, i1, h⟩ := h.inv
  obtain ⟨_, _, rfl, i2, h⟩ := h.inv
  obtain ⟨_, _, rfl, i3, h⟩ := h.inv
  obtain rfl := h.nil_inv
  obtain ⟨n0, rfl, j0⟩ := of_sl (te := ⟨[.sl 65], 24, false, []⟩) rfl (by decide) of_RowS i0
  obtain ⟨n1, rfl, j1⟩ := of_sl (te := ⟨[.sl 65], 24, false, []⟩) rfl (by decide) of_RowS i1
  obtain ⟨n2, rfl, j2⟩ := of_sl (te := ⟨[.sl 65], 24, false, []⟩) rfl (by decide) of_RowS i2
  obtain ⟨n3, rfl, j3⟩ := i3.i64
  exact ⟨⟨n0, n1, n2, n3⟩, rfl, ⟨j0, j1, j2, j3⟩⟩
theorem of_Checkpoint {ds : List Dat} (h : OkDs tE [.sl 65, .int .i64, .sl 65, .sl 65, .sl 65, .sl 314, .int .i64, .int .i64, .int .i64, .int .i64, .sl 65] ds) : ∃ x : Ck, ds = Ck.e x ∧ Ck.bd x := by
  obtain ⟨_, _, rfl, i0, h⟩ := h.inv
  obtain ⟨_, _, rfl, i1, h⟩ := h.inv
  obtain ⟨_, _, rfl, i2, h⟩ := h.inv
  obtain ⟨_, _, rfl, i3, h⟩ := h.inv
  obtain ⟨_, _, rfl, i4, h⟩ := h.inv
  obtain ⟨_, _, rfl, i5, h⟩ := h.inv
  obtain ⟨_, _, rfl, i6, h⟩ := h.inv
  obtain ⟨_, _, rfl, i7, h⟩ := h.inv
  obtain ⟨_, _, rfl, i8, h⟩ := h.inv
  obtain ⟨_, _, rfl, i9, h⟩ := h.inv
  obtain ⟨_, _, rfl, i10, h⟩ := h.inv
  obtain rfl := h.nil_inv
  obtain ⟨n0, rfl, j0⟩ := of_sl (te := ⟨[.int .i64, .int .i64, .int .i64], 24, true, [(0, 3), (1, 3), (2, 3)]⟩) rfl (by decide) of_Row i0
  obtain ⟨n1, rfl, j1⟩ := i1.i64
  obtain ⟨n2, rfl, j2⟩ := of_sl (te := ⟨[.int .i64, .int .i64, .int .i64], 24, true, [(0, 3), (1, 3), (2, 3)]⟩) rfl (by decide) of_Row i2
  obtain ⟨n3, rfl, j3⟩ := of_sl (te := ⟨[.int .i64, .int .i64, .int .i64], 24, true, [(0, 3), (1, 3), (2, 3)]⟩) rfl (by decide) of_Row i3
  obtain ⟨n4, rfl, j4⟩ := of_sl (te := ⟨[.int .i64, .int .i64, .int .i64], 24, true, [(0, 3), (1, 3), (2, 3)]⟩) rfl (by decide) of_Row i4
  obtain ⟨n5, rfl, j5⟩ := of_sl (te := ⟨[.sl 65], 24, true, [(0, 58)]⟩) rfl (by decide) of_Run i5
  obtain ⟨n6, rfl, j6⟩ := i6.i64
  obtain ⟨n7, rfl, j7⟩ := i7.i64
  obtain ⟨n8, rfl, j8⟩ := i8.i64
  obtain ⟨n9, rfl, j9⟩ := i9.i64
  obtain ⟨n10, rfl, j10⟩ := of_sl (te := ⟨[.int .i64, .int .i64, .int .i64], 24, true, [(0, 3), (1, 3), (2, 3)]⟩) rfl (by decide) of_Row i10
  exact ⟨⟨⟨n0, n1, n2, n3, n4, n5, n6, n7, n8, n9⟩, n10⟩, rfl, ⟨⟨j0, j1, j2, j3, j4, j5, j6, j7, j8, j9⟩, j10⟩⟩
end Go.Proofs.Ytbmafhpbinjgaaa.Vai
