/- Draws: the cursor, numbers, rows; no condition. -/
import Derived.Test.YtbmafhpbinjgaaaEqF
import Derived.Test.YtbmafhpbinjgaaaP1
namespace Go.Proofs.Ytbmafhpbinjgaaa.Vai
open Go
set_option linter.unusedSimpArgs false
set_option linter.unusedVariables false
set_option linter.unnecessarySimpa false
set_option maxRecDepth 10000
/-- a cursor over bytes -/
def Cu (b : Rows) (i : Int) : Prop := 0 ≤ i ∧ i ≤ b.length ∧ b.length ≤ 1048576
theorem and255 (n : Int) : Go.bits Go.BinOp.and .i64 n 255 = n % 256 := by
  have h255 : (BitVec.ofInt 64 255).toNat = 2 ^ 8 - 1 := by decide
  have key : (BitVec.ofInt 64 n &&& BitVec.ofInt 64 255).toNat = (n % ((2 ^ 64 : Nat) : Int)).toNat % 2 ^ 8 := by
    rw [BitVec.toNat_and, BitVec.toNat_ofInt, h255, Nat.and_two_pow_sub_one_eq_mod]
  show w64 (((BitVec.ofInt 64 n &&& BitVec.ofInt 64 255).toNat : Nat) : Int) = n % 256
  rw [key, w64_id ⟨by omega, by omega⟩]
  omega
theorem and255_b (n : Int) : 0 ≤ Go.bits Go.BinOp.and .i64 n 255 ∧ Go.bits Go.BinOp.and .i64 n 255 ≤ 255 := by
  rw [and255]; omega
theorem dByte {b : Rows} {i h : Int} (c : Cu b i) : ∃ r i' h', callI tE f_spec_l1Byte [.sl b, .int i, .int h] = some [.int r, .sl b, .int i', .int h'] ∧ Cu b i' ∧ 0 ≤ r ∧ r ≤ 255 := by
  obtain ⟨c1, c2, c3⟩ := c
  rw [c_spec_l1Byte]
  by_cases hi : i < b.length
  · rw [ltT (show i < lenI b from hi), cond_true, inRT c1 (show i < lenI b from hi), cond_true]
    exact ⟨_, _, _, rfl, ⟨by rw [w64_id ⟨by omega, by omega⟩]; omega, by rw [w64_id ⟨by omega, by omega⟩]; omega, c3⟩, (and255_b _).1, (and255_b _).2⟩
  · rw [ltF (show lenI b ≤ i by show (b.length : Int) ≤ i; omega), cond_false]
    exact ⟨_, _, _, rfl, ⟨c1, c2, c3⟩, (and255_b _).1, (and255_b _).2⟩
theorem dBelow {b : Rows} {i h : Int} (n : Int) (c : Cu b i) : ∃ r i' h', callI tE f_spec_l1Below [.sl b, .int i, .int h, .int n] = some [.int r, .sl b, .int i', .int h'] ∧ Cu b i' ∧ 0 ≤ r ∧ (0 < n → r < n) ∧ (n ≤ 0 → r = 0) := by
  rw [c_spec_l1Below]
  by_cases h0 : n ≤ 0
  · rw [leT h0, cond_true]
    exact ⟨0, i, h, rfl, c, by omega, by omega, fun _ => rfl⟩
  · rw [leF (by omega), cond_false]
    by_cases h1 : n ≤ 256
    · rw [leT h1, cond_true]
      obtain ⟨r, i1, h1', e1, c1, p1, q1⟩ := dByte (h := h) c
      rw [e1]
      simp only [gn_c, gb_c, gs_c, gl_c, tk_s, tk_0, List.drop_succ_cons, List.drop_zero, List.headD_cons, List.getD_cons_zero, List.getD_cons_succ, bind_s]
      rw [eqF (by omega)]
      exact ⟨_, _, _, rfl, c1, Int.tmod_nonneg _ p1, fun _ => Int.tmod_lt_of_pos _ (by omega), fun hh => by omega⟩
    · rw [leF (by omega), cond_false]
      obtain ⟨x, i1, h1', e1, c1, p1, q1⟩ := dByte (h := h) c
      obtain ⟨y, i2, h2', e2, c2, p2, q2⟩ := dByte (h := h1') c1
      obtain ⟨z, i3, h3', e3, c3, p3, q3⟩ := dByte (h := h2') c2
      obtain ⟨w, i4, h4', e4, c4, p4, q4⟩ := dByte (h := h3') c3
      simp only [e1, e2, e3, e4, gn_c, gb_c, gs_c, gl_c, tk_s, tk_0, List.drop_succ_cons, List.drop_zero, List.headD_cons, List.getD_cons_zero, List.getD_cons_succ, bind_s]
      rw [eqF (by omega)]
      have a1 : w64 (x * 16777216) = x * 16777216 := w64_id ⟨by omega, by omega⟩
      have a2 : w64 (y * 65536) = y * 65536 := w64_id ⟨by omega, by omega⟩
      have a3 : w64 (x * 16777216 + y * 65536) = x * 16777216 + y * 65536 := w64_id ⟨by omega, by omega⟩
      have a4 : w64 (z * 256) = z * 256 := w64_id ⟨by omega, by omega⟩
      have a5 : w64 (x * 16777216 + y * 65536 + z * 256) = x * 16777216 + y * 65536 + z * 256 := w64_id ⟨by omega, by omega⟩
      have a6 : w64 (x * 16777216 + y * 65536 + z * 256 + w) = x * 16777216 + y * 65536 + z * 256 + w := w64_id ⟨by omega, by omega⟩
      rw [a1, a2, a3, a4, a5, a6]
      exact ⟨_, _, _, rfl, c4, Int.tmod_nonneg _ (by omega), fun _ => Int.tmod_lt_of_pos _ (by omega), fun hh => by omega⟩
theorem dOnce {b : Rows} {i h : Int} (n : Int) (c : Cu b i) : ∃ t i' h', callI tE f_spec_l1Once [.sl b, .int i, .int h, .int n] = some [.bool t, .sl b, .int i', .int h'] ∧ Cu b i' := by
  obtain ⟨r, i1, h1, e1, c1, _⟩ := dBelow (h := h) n c
  rw [c_spec_l1Once, e1]
  simp only [gn_c, gb_c, gs_c, gl_c, tk_s, tk_0, List.drop_succ_cons, List.drop_zero, List.headD_cons, List.getD_cons_zero, List.getD_cons_succ, bind_s]
  exact ⟨_, _, _, rfl, c1⟩
theorem at_mem {L : Rows} {k : Nat} (h : k < L.length) : at' L k ∈ L := by
  show L.getD k [] ∈ L
  rw [List.getD_eq_getElem?_getD, List.getElem?_eq_getElem h]
  exact List.getElem_mem h
theorem dPickInt {b : Rows} {i h : Int} (L : Rows) (p : Int → Bool) (hL : 0 < L.length) (hp : (L.all fun r => p (gn r)) = true) (c : Cu b i) :
    ∃ r i' h', callI tE f_spec_l1PickInt [.sl b, .int i, .int h, .sl L] = some [.int r, .sl b, .int i', .int h'] ∧ Cu b i' ∧ p r = true := by
  obtain ⟨r, i1, h1, e1, c1, p1, p2, _⟩ := dBelow (h := h) (lenI L) c
  have hlt := p2 (show (0 : Int) < (L.length : Int) by omega)
  rw [c_spec_l1PickInt, e1]
  simp only [gn_c, gb_c, gs_c, gl_c, tk_s, tk_0, List.drop_succ_cons, List.drop_zero, List.headD_cons, List.getD_cons_zero, List.getD_cons_succ, bind_s]
  rw [inRT p1 hlt, cond_true]
  have hm : tn r < L.length := by
    have h2 : r < (L.length : Int) := hlt
    show r.toNat < L.length
    omega
  exact ⟨_, _, _, rfl, c1, List.all_eq_true.mp hp _ (at_mem hm)⟩
theorem dPick {b : Rows} {i h : Int} (L : Rows) (P : ByteArray → Prop) (hL : 0 < L.length) (hp : ∀ r ∈ L, P (gs r)) (c : Cu b i) :
    ∃ r i' h', callI tE f_spec_l1Pick [.sl b, .int i, .int h, .sl L] = some [.str r, .sl b, .int i', .int h'] ∧ Cu b i' ∧ P r := by
  obtain ⟨r, i1, h1, e1, c1, p1, p2, _⟩ := dBelow (h := h) (lenI L) c
  have hlt := p2 (show (0 : Int) < (L.length : Int) by omega)
  rw [c_spec_l1Pick, e1]
  simp only [gn_c, gb_c, gs_c, gl_c, tk_s, tk_0, List.drop_succ_cons, List.drop_zero, List.headD_cons, List.getD_cons_zero, List.getD_cons_succ, bind_s]
  rw [inRT p1 hlt, cond_true]
  have hm : tn r < L.length := by
    have h2 : r < (L.length : Int) := hlt
    show r.toNat < L.length
    omega
  exact ⟨_, _, _, rfl, c1, hp _ (at_mem hm)⟩
/-- is a number from a to b? -/
def btw (a b x : Int) : Bool := decide (a ≤ x) && decide (x ≤ b)
theorem btw_iff {a b x : Int} : btw a b x = true ↔ a ≤ x ∧ x ≤ b := by simp [btw]
theorem dRow {b : Rows} {i h : Int} (n : Int) (c : Cu b i) (hn : 0 < n) (hn2 : n ≤ 10) : ∃ (r : Rw) (i' h' : Int), callI tE f_spec_l2Row [.sl b, .int i, .int h, .int n] = some [.int r.k, .int r.v, .int r.w, .sl b, .int i', .int h'] ∧ Cu b i' ∧ r.ok = true := by
  obtain ⟨x, i1, h1, e1, c1, p1, q1, _⟩ := dBelow (h := h) n c
  obtain ⟨y, i2, h2, e2, c2, p2, q2, _⟩ := dBelow (h := h1) 100 c1
  obtain ⟨z, i3, h3, e3, c3, p3⟩ := dPickInt (h := h2) [[.int 0], [.int 0], [.int 1], [.int 2], [.int 3]] (btw 0 3) (by decide) rfl c2
  have := btw_iff.mp p3
  have := q1 hn
  have := q2 (by omega)
  rw [c_spec_l2Row]
  simp only [e1, e2, e3, gn_c, gb_c, gs_c, gl_c, tk_s, tk_0, List.drop_succ_cons, List.drop_zero, List.headD_cons, List.getD_cons_zero, List.getD_cons_succ, bind_s]
  exact ⟨⟨x, y, z⟩, _, _, rfl, c3, Rw.ok_iff.mpr (show (0 ≤ x ∧ x ≤ 9) ∧ (0 ≤ y ∧ y ≤ 99) ∧ 0 ≤ z ∧ z ≤ 3 by omega)⟩
theorem dRowsL {b : Rows} (keys z : Int) (hk : 0 < keys) (hk2 : keys ≤ 10) : ∀ (n : Nat) (i h : Int) (acc : List Rw), Cu b i → acc.length + n ≤ 100000 → (∀ r ∈ acc, r.ok = true) →
    ∃ (l : List Rw) (i' h' : Int), L_spec_l2Rows_0 z keys n b i h (acc.map Rw.e) = some [.sl (l.map Rw.e), .sl b, .int i', .int h'] ∧ Cu b i' ∧ (∀ r ∈ l, r.ok = true) ∧ l.length = acc.length + n
  | 0, i, h, acc, c, _, ha => by
    rw [L_spec_l2Rows_0_eq, ltF (by omega), cond_false]
    exact ⟨acc, i, h, rfl, c, ha, rfl⟩
  | n + 1, i, h, acc, c, hl, ha => by
    obtain ⟨r, i1, h1, e1, c1, hr⟩ := dRow (h := h) keys c hk hk2
    rw [L_spec_l2Rows_0_eq, ltT (by omega), cond_true, e1]
    simp only [gn_c, gb_c, gs_c, gl_c, tk_s, tk_0, List.drop_succ_cons, List.drop_zero, List.headD_cons, List.getD_cons_zero, List.getD_cons_succ, bind_s, len_map]
    rw [show fitM (Nat.succ acc.length) 24 = true from fitT (by omega), cond_true, show ([[Dat.int r.k, .int r.v, .int r.w]] : Rows) = [r.e] from rfl, app_map, show w64 (((n + 1 : Nat) : Int) - 1) = (n : Int) by rw [w64_id ⟨by omega, by omega⟩]; omega]
    obtain ⟨l, i', h', e2, c2, hr2, hl2⟩ := dRowsL keys z hk hk2 n i1 h1 (acc ++ [r]) c1 (by simp; omega) (fun x hx => by
      simp only [List.mem_append, List.mem_cons, List.not_mem_nil, or_false] at hx
      rcases hx with hx | rfl
      · exact ha x hx
      · exact hr)
    exact ⟨l, i', h', e2, c2, hr2, by rw [hl2]; simp; omega⟩
theorem dRows {b : Rows} {i h : Int} (most : Int) (c : Cu b i) (hm : 0 ≤ most) (hm2 : most ≤ 1000) : ∃ (l : List Rw) (i' h' : Int), callI tE f_spec_l2Rows [.sl b, .int i, .int h, .int most] = some [.sl (l.map Rw.e), .sl b, .int i', .int h'] ∧ Cu b i' ∧ (∀ r ∈ l, r.ok = true) ∧ (l.length : Int) ≤ most := by
  obtain ⟨k, i1, h1, e1, c1, p1⟩ := dPickInt (h := h) [[.int 1], [.int 2], [.int 4], [.int 10]] (btw 1 10) (by decide) rfl c
  have := btw_iff.mp p1
  obtain ⟨n, i2, h2, e2, c2, p2, q2, _⟩ := dBelow (h := h1) (most + 1) c1
  rw [c_spec_l2Rows, show w64 (most + 1) = most + 1 from w64_id ⟨by omega, by omega⟩]
  simp only [e1, e2, gn_c, gb_c, gs_c, gl_c, tk_s, tk_0, List.drop_succ_cons, List.drop_zero, List.headD_cons, List.getD_cons_zero, List.getD_cons_succ, bind_s]
  obtain ⟨m, rfl⟩ : ∃ m : Nat, n = m := ⟨n.toNat, by omega⟩
  have := q2 (by omega)
  obtain ⟨l, i', h', e3, c3, hr, hl⟩ := dRowsL k 0 (by omega) (by omega) m i2 h2 [] c2 (by simp; omega) (by simp)
  exact ⟨l, i', h', e3, c3, hr, by rw [hl]; simp; omega⟩
/-- numbers of a row that are small -/
def Rw.sm (r : Rw) : Prop := (-1 ≤ r.k ∧ r.k ≤ 10) ∧ (-1 ≤ r.v ∧ r.v ≤ 100) ∧ -1 ≤ r.w ∧ r.w ≤ 4
theorem ok_sm {r : Rw} (h : r.ok = true) : r.sm := by
  have := Rw.ok_iff.mp h
  unfold Rw.sm; omega
theorem dAny {b : Rows} {i h : Int} (c : Cu b i) : ∃ (r : Rw) (i' h' : Int), callI tE f_spec_l2Any [.sl b, .int i, .int h] = some [.int r.k, .int r.v, .int r.w, .sl b, .int i', .int h'] ∧ Cu b i' ∧ r.sm := by
  obtain ⟨r, i1, h1, e1, c1, p1⟩ := dRow (h := h) 10 c (by omega) (by omega)
  obtain ⟨x, i2, h2, e2, c2, _⟩ := dBelow (h := h1) 8 c1
  obtain ⟨k, i3, h3, e3, c3, p3⟩ := dPickInt (h := h2) [[.int (-1)], [.int 10]] (btw (-1) 10) (by decide) rfl c2
  obtain ⟨v, i4, h4, e4, c4, p4⟩ := dPickInt (h := h2) [[.int (-1)], [.int 100], [.int 99]] (btw (-1) 100) (by decide) rfl c2
  obtain ⟨w, i5, h5, e5, c5, p5⟩ := dPickInt (h := h2) [[.int (-1)], [.int 4]] (btw (-1) 4) (by decide) rfl c2
  have := btw_iff.mp p3
  have := btw_iff.mp p4
  have := btw_iff.mp p5
  have hs := ok_sm p1
  unfold Rw.sm at hs
  rw [c_spec_l2Any]
  simp only [e1, e2, e3, e4, e5, gn_c, gb_c, gs_c, gl_c, tk_s, tk_0, List.drop_succ_cons, List.drop_zero, List.headD_cons, List.getD_cons_zero, List.getD_cons_succ, bind_s]
  cases eqI x 0
  · cases eqI x 1
    · cases eqI x 2
      · exact ⟨r, _, _, rfl, c2, ok_sm p1⟩
      · exact ⟨⟨r.k, r.v, w⟩, _, _, rfl, c5, show (-1 ≤ r.k ∧ r.k ≤ 10) ∧ (-1 ≤ r.v ∧ r.v ≤ 100) ∧ -1 ≤ w ∧ w ≤ 4 by omega⟩
    · exact ⟨⟨r.k, v, r.w⟩, _, _, rfl, c4, show (-1 ≤ r.k ∧ r.k ≤ 10) ∧ (-1 ≤ v ∧ v ≤ 100) ∧ -1 ≤ r.w ∧ r.w ≤ 4 by omega⟩
  · exact ⟨⟨k, r.v, r.w⟩, _, _, rfl, c3, show (-1 ≤ k ∧ k ≤ 10) ∧ (-1 ≤ r.v ∧ r.v ≤ 100) ∧ -1 ≤ r.w ∧ r.w ≤ 4 by omega⟩
theorem dBent {b : Rows} {i h : Int} (most : Int) (c : Cu b i) (hm : 0 ≤ most) (hm2 : most ≤ 1000) : ∃ (l : List Rw) (i' h' : Int), callI tE f_spec_l2Bent [.sl b, .int i, .int h, .int most] = some [.sl (l.map Rw.e), .sl b, .int i', .int h'] ∧ Cu b i' ∧ (∀ r ∈ l, r.sm) ∧ (l.length : Int) ≤ most + 1 := by
  obtain ⟨l, i1, h1, e1, c1, p1, q1⟩ := dRows (h := h) most c hm hm2
  obtain ⟨t, i2, h2, e2, c2⟩ := dOnce (h := h1) 14 c1
  obtain ⟨r, i3, h3, e3, c3, p3⟩ := dAny (h := h2) c2
  rw [c_spec_l2Bent]
  simp only [e1, e2, e3, gn_c, gb_c, gs_c, gl_c, tk_s, tk_0, List.drop_succ_cons, List.drop_zero, List.headD_cons, List.getD_cons_zero, List.getD_cons_succ, bind_s, len_map]
  cases t
  · exact ⟨l, _, _, rfl, c2, fun r hr => ok_sm (p1 r hr), by omega⟩
  · rw [cond_true, show fitM (Nat.succ l.length) 24 = true from fitT (by omega), cond_true, show ([[Dat.int r.k, .int r.v, .int r.w]] : Rows) = [r.e] from rfl, app_map]
    refine ⟨l ++ [r], _, _, rfl, c3, fun x hx => ?_, by simp; omega⟩
    simp only [List.mem_append, List.mem_cons, List.not_mem_nil, or_false] at hx
    rcases hx with hx | rfl
    · exact ok_sm (p1 x hx)
    · exact p3
theorem l1New_loop (x : Rows) (hx : x.length ≤ 1048576) : ∀ (m n : Nat) (h : Int), n + m = x.length → ∃ h', L_spec_l1New_0 x h n = some [.sl x, .int 0, .int h']
  | 0, n, h, hn => by
    rw [L_spec_l1New_0_eq, ltF (show lenI x ≤ (n : Int) by show (x.length : Int) ≤ n; omega)]
    exact ⟨_, rfl⟩
  | m + 1, n, h, hn => by
    rw [L_spec_l1New_0_eq, ltT (show (n : Int) < lenI x by show (n : Int) < (x.length : Int); omega), cond_true]
    by_cases h4 : (n : Int) < 4000
    · rw [ltT h4, cond_true, inRT (by omega) (show (n : Int) < lenI x by show (n : Int) < (x.length : Int); omega), cond_true, w64_s (by omega)]
      exact l1New_loop x hx m (n + 1) _ (by omega)
    · rw [ltF (by omega)]
      exact ⟨_, rfl⟩
theorem dNew (x : Rows) (hx : x.length ≤ 1048576) : ∃ h, callI tE f_spec_l1New [.sl x] = some [.sl x, .int 0, .int h] ∧ Cu x 0 := by
  obtain ⟨h, e⟩ := l1New_loop x hx x.length 0 (w64 (10101 + lenI x)) (by omega)
  exact ⟨h, by rw [c_spec_l1New]; exact e, by unfold Cu; omega⟩
/-- lists of rows of both programs, compared by the statements -/
theorem sameRows_ok (l l' : List Rw) (h : l.length ≤ 1152921504606846976) : callI tE f_laws_sameRows [.sl (l.map Rw.e), .sl (l'.map Rw.e)] = some [.bool (decide (l = l'))] := by
  rw [c_laws_sameRows]
  by_cases hll : l.length = l'.length
  · rw [eq_len hll, Bool.not_true, cond_false]
    have := eq_loop (L := fun x y i => L_laws_sameRows_0 x y i) (e := Rw.e) (P := fun _ => True) (fun p q p' q' a b _ hpl hlt => by
      rw [L_laws_sameRows_0_eq]
      simp only [lt_mid, in_mid, tn_c, at_mid, cond_true, cond_false, gn_c, gb_c, gs_c, gl_c, tk_s, tk_0, List.drop_succ_cons, List.drop_zero, List.headD_cons, List.getD_cons_zero, List.getD_cons_succ, bind_s, in_mid' hpl, at_mid' hpl, Rw.e, eq_Rw3, bifn]) (fun p p' hpl => by
      rw [L_laws_sameRows_0_eq, lt_end, cond_false]) l l' [] [] rfl hll (fun a ha => trivial) (by simp; omega)
    simpa using this
  · rw [ne_len hll, Bool.not_false, cond_true, decide_eq_false (fun e => hll (by rw [e]))]
theorem of_rows {t : TypeId} {d : Dat} (h : OkD tE (.sl t) d) : ∃ l : Rows, d = .sl l := by
  cases h
  exact ⟨_, rfl⟩
end Go.Proofs.Ytbmafhpbinjgaaa.Vai
