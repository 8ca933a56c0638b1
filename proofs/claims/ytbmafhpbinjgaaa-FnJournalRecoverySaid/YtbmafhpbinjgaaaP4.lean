/- The journal: records written and read; no condition. -/
import Derived.Test.YtbmafhpbinjgaaaEqB
import Derived.Test.YtbmafhpbinjgaaaP2
import Derived.Test.YtbmafhpbinjgaaaPU
namespace Go.Proofs.Ytbmafhpbinjgaaa.Vai
open Go
set_option linter.unusedSimpArgs false
set_option linter.unusedVariables false
set_option linter.unnecessarySimpa false
set_option maxRecDepth 10000
/-- a record's text -/
def recT (r : List UInt8) : List UInt8 := fmt r.length ++ [58] ++ r ++ [44] ++ fmt (chk r : Nat) ++ [59]
theorem fmt_nat_len {n : Nat} (h : n < 9223372036854775808) : (fmt (n : Int)).length ≤ 20 := fmt_len ⟨by omega, by omega⟩
theorem recT_len {r : List UInt8} (h : r.length < 4611686018427387904) : r.length + 3 ≤ (recT r).length ∧ (recT r).length ≤ r.length + 43 := by
  have h1 := fmt_nat_len (n := r.length) (by omega)
  have h2 := fmt_nat_len (n := chk r) (by have := chk_lt r; omega)
  unfold recT
  simp only [List.length_append, List.length_cons, List.length_nil]
  omega
/-- the first separator -/
theorem sep_split {b : UInt8} {x y u v : List UInt8} (hx : b ∉ x) (hu : b ∉ u) (h : x ++ b :: y = u ++ b :: v) : x = u ∧ y = v := by
  induction x generalizing u with
  | nil =>
    cases u with
    | nil => simpa using h
    | cons c u =>
      simp only [List.nil_append, List.cons_append, List.cons.injEq] at h
      exact absurd (by rw [← h.1]; simp) hu
  | cons a x ih =>
    cases u with
    | nil =>
      simp only [List.nil_append, List.cons_append, List.cons.injEq] at h
      exact absurd (by rw [h.1]; simp) hx
    | cons c u =>
      simp only [List.cons_append, List.cons.injEq] at h
      simp only [List.mem_cons, not_or] at hx hu
      obtain ⟨e1, e2⟩ := ih hx.2 hu.2 h.2
      exact ⟨by rw [h.1, e1], e2⟩
theorem recT_inj {a b x y : List UInt8} (h : recT a ++ x = recT b ++ y) : a = b := by
  unfold recT at h
  simp only [List.append_assoc, List.singleton_append] at h
  have h58 : ∀ n : Int, (58 : UInt8) ∉ fmt n := fun n => fmt_nosep (by decide) (by decide) n
  obtain ⟨e1, e2⟩ := sep_split (h58 _) (h58 _) h
  have hl : a.length = b.length := by have := fmt_inj e1; omega
  exact (List.append_inj e2 hl).1
open Classical in
/-- the record at the front of a text -/
noncomputable def front (t : List UInt8) : Option (List UInt8) := if h : ∃ r y, t = recT r ++ y then some h.choose else none
theorem front_some {t r : List UInt8} : front t = some r ↔ ∃ y, t = recT r ++ y := by
  unfold front
  constructor
  · intro h
    split at h
    · rename_i hx; cases h; exact hx.choose_spec
    · cases h
  · rintro ⟨y, hy⟩
    have hx : ∃ r y, t = recT r ++ y := ⟨r, y, hy⟩
    rw [dif_pos hx]
    obtain ⟨y', hy'⟩ := hx.choose_spec
    exact congrArg some (recT_inj (hy'.symm.trans hy))
theorem front_none {t : List UInt8} : front t = none ↔ ∀ r y, t ≠ recT r ++ y := by
  unfold front
  constructor
  · intro h r y e
    rw [dif_pos ⟨r, y, e⟩] at h; cases h
  · intro h
    rw [dif_neg]
    rintro ⟨r, y, e⟩
    exact h r y e
/-- the records of a journal, and is it whole -/
noncomputable def readJ (t : List UInt8) : List (List UInt8) × Bool :=
  if _h : t = [] then ([], true) else match front t with
    | none => ([], false)
    | some r => (r :: (readJ (t.drop (recT r).length)).1, (readJ (t.drop (recT r).length)).2)
termination_by t.length
decreasing_by
  all_goals
    have : 0 < t.length := List.length_pos_iff.mpr _h
    have : 0 < (recT r).length := by unfold recT; (first | omega | (simp only [List.length_append, List.length_cons, List.length_nil, List.length_map, List.length_take, List.length_drop, List.length_replicate, szI_S] at * <;> omega))
    simp only [List.length_drop]; omega
theorem readJ_nil : readJ [] = ([], true) := by rw [readJ, dif_pos rfl]
theorem readJ_bad {t : List UInt8} (h : t ≠ []) (hf : front t = none) : readJ t = ([], false) := by rw [readJ, dif_neg h, hf]
theorem readJ_ok (r y : List UInt8) : readJ (recT r ++ y) = (r :: (readJ y).1, (readJ y).2) := by
  rw [readJ, dif_neg (by unfold recT; simp), front_some.mpr ⟨y, rfl⟩]
  simp only [List.drop_left]
/-! the program's reading of a number -/
theorem ext_pos {p x y : List UInt8} : ext (S (p ++ x ++ y)) p.length (p ++ x).length = S x := ext_mid p x y
theorem iNumberAt (e : UInt8) (p x y : List UInt8) (hx : e ∉ x) (hl : x.length ≤ 11) (hb : (p ++ x ++ e :: y).length < 4611686018427387904) :
    callI tE f_impl_numberAt [.str (S (p ++ x ++ e :: y)), .int (p.length : Int), .int (e.toNat : Int)] = some [.int (num x), .int ((p.length + x.length + 1 : Nat) : Int), .bool (isN x && leI 0 (num x))] := by
  rw [c_impl_numberAt]
  have key : ∀ (v u : List UInt8), x = u ++ v → L_impl_numberAt_0 (S (p ++ x ++ e :: y)) ((p ++ u).length : Nat) (e.toNat : Int) (p.length : Int) = some [.int (num x), .int ((p.length + x.length + 1 : Nat) : Int), .bool (isN x && leI 0 (num x))] := by
    intro v
    induction v with
    | nil =>
      intro u hu
      rw [List.append_nil] at hu
      subst hu
      have e1 : ltI ((p ++ x).length : Nat) (szI (S (p ++ x ++ e :: y))) = true := lt_S (p ++ x) y e
      have e2 : inR ((p ++ x).length : Nat) (szI (S (p ++ x ++ e :: y))) = true := in_S (p ++ x) y e
      have e3 : byteAt (S (p ++ x ++ e :: y)) ((p ++ x).length : Nat) = (e.toNat : Int) := by_S (p ++ x) y e
      have e4 : leI (szI (S (p ++ x ++ e :: y))) ((p ++ x).length : Nat) = false := leF (by rw [szI_S]; simp only [List.length_append, List.length_cons]; omega)
      have e5 : in3 (p.length : Int) ((p ++ x).length : Nat) (szI (S (p ++ x ++ e :: y))) = true := in3T (by omega) (by (first | omega | (simp only [List.length_append, List.length_cons, List.length_nil, List.length_map, List.length_take, List.length_drop, List.length_replicate, szI_S] at * <;> omega))) (by (first | omega | (simp only [List.length_append, List.length_cons, List.length_nil, List.length_map, List.length_take, List.length_drop, List.length_replicate, szI_S] at * <;> omega)))
      have e6 : w64 ((((p ++ x).length : Nat) : Int) + 1) = ((p.length + x.length + 1 : Nat) : Int) := by
        simp only [List.length_append, List.length_cons] at hb
        rw [w64_id ⟨by omega, by simp only [List.length_append]; omega⟩]; simp only [List.length_append]; omega
      have e7 := iParseInt x (by omega)
      rw [L_impl_numberAt_0_eq, e1, e2, e3, e4, e5, eqI_self, tn_c, tn_c, ext_mid, e7, e6, pI_eq]
      simp only [gn_c, gb_c, gs_c, gl_c, tk_s, tk_0, List.drop_succ_cons, List.drop_zero, List.headD_cons, List.getD_cons_zero, List.getD_cons_succ, bind_s]
      cases ltI (w64 (((p ++ x).length : Nat) - (p.length : Int))) 11 <;> cases isN x <;> rfl
    | cons c v ih =>
      intro u hu
      have hs : p ++ x ++ e :: y = (p ++ u) ++ c :: (v ++ e :: y) := by rw [hu]; simp
      have hul : u.length < 11 := by rw [hu] at hl; simp at hl; omega
      have hpl : (p ++ u).length < 4611686018427387904 := by rw [hs] at hb; simp only [List.length_append] at hb ⊢; omega
      have hc : c ≠ e := fun h => hx (by rw [hu, h]; simp)
      have e0 : w64 ((((p ++ u).length : Nat) : Int) - (p.length : Int)) = (u.length : Int) := by
        rw [w64_id ⟨by (first | omega | (simp only [List.length_append, List.length_cons, List.length_nil, List.length_map, List.length_take, List.length_drop, List.length_replicate, szI_S] at * <;> omega)), by (first | omega | (simp only [List.length_append, List.length_cons, List.length_nil, List.length_map, List.length_take, List.length_drop, List.length_replicate, szI_S] at * <;> omega))⟩]; (first | omega | (simp only [List.length_append, List.length_cons, List.length_nil, List.length_map, List.length_take, List.length_drop, List.length_replicate, szI_S] at * <;> omega))
      have e1 := lt_S (p ++ u) (v ++ e :: y) c
      have e2 := in_S (p ++ u) (v ++ e :: y) c
      have e3 := by_S (p ++ u) (v ++ e :: y) c
      rw [← hs] at e1 e2 e3
      have ih' := ih (u ++ [c]) (by rw [hu]; simp)
      rw [L_impl_numberAt_0_eq, e1, e2, e3, e0, ltT (by omega), u8_eqI, decide_eq_false hc, w64_s (by omega)]
      simp only [cond_true, Bool.not_false]
      rw [← ih']
      congr 2
      simp
      omega
  have := key x [] rfl
  rw [List.append_nil] at this
  exact this
/-- no separator within reach -/
theorem iNumberAt_none (e : UInt8) (p t : List UInt8) (hx : ∀ x y, t = x ++ e :: y → e ∉ x → 11 < x.length) (hb : (p ++ t).length < 4611686018427387904) :
    ∃ a b, callI tE f_impl_numberAt [.str (S (p ++ t)), .int (p.length : Int), .int (e.toNat : Int)] = some [.int a, .int b, .bool false] := by
  rw [c_impl_numberAt]
  have key : ∀ (v u : List UInt8), t = u ++ v → e ∉ u → u.length ≤ 11 → ∃ a b, L_impl_numberAt_0 (S (p ++ t)) ((p ++ u).length : Nat) (e.toNat : Int) (p.length : Int) = some [.int a, .int b, .bool false] := by
    intro v
    induction v with
    | nil =>
      intro u hu _ _
      rw [List.append_nil] at hu
      subst hu
      refine ⟨0, 0, ?_⟩
      rw [L_impl_numberAt_0_eq, lt_Se, leT (by rw [szI_S]; omega)]; rfl
    | cons c v ih =>
      intro u hu hne hul
      have hs : p ++ t = (p ++ u) ++ c :: v := by rw [hu]; simp
      have hpl : (p ++ u).length < 4611686018427387904 := by rw [hs] at hb; simp only [List.length_append] at hb ⊢; omega
      have hc : c ≠ e := fun h => by have := hx u v (by rw [hu, h]) hne; omega
      have e0 : w64 ((((p ++ u).length : Nat) : Int) - (p.length : Int)) = (u.length : Int) := by
        rw [w64_id ⟨by (first | omega | (simp only [List.length_append, List.length_cons, List.length_nil, List.length_map, List.length_take, List.length_drop, List.length_replicate, szI_S] at * <;> omega)), by (first | omega | (simp only [List.length_append, List.length_cons, List.length_nil, List.length_map, List.length_take, List.length_drop, List.length_replicate, szI_S] at * <;> omega))⟩]; (first | omega | (simp only [List.length_append, List.length_cons, List.length_nil, List.length_map, List.length_take, List.length_drop, List.length_replicate, szI_S] at * <;> omega))
      have e1 := lt_S (p ++ u) v c
      have e2 := in_S (p ++ u) v c
      have e3 := by_S (p ++ u) v c
      rw [← hs] at e1 e2 e3
      have e4 : leI (szI (S (p ++ t))) ((p ++ u).length : Nat) = false := leF (by rw [szI_S, hs]; simp only [List.length_append, List.length_cons]; omega)
      by_cases h11 : u.length = 11
      · refine ⟨0, 0, ?_⟩
        rw [L_impl_numberAt_0_eq, e1, e2, e3, e0, ltF (by omega), u8_eqI, decide_eq_false hc, e4]; rfl
      · obtain ⟨a, b, ih'⟩ := ih (u ++ [c]) (by rw [hu]; simp) (by simp only [List.mem_append, List.mem_singleton, not_or]; exact ⟨hne, fun h => hc h.symm⟩) (by simp; omega)
        refine ⟨a, b, ?_⟩
        rw [L_impl_numberAt_0_eq, e1, e2, e3, e0, ltT (by omega), u8_eqI, decide_eq_false hc, w64_s (by omega)]
        simp only [cond_true, Bool.not_false]
        rw [← ih']
        congr 2
        simp
        omega
  have := key t [] rfl (by simp) (by simp)
  rw [List.append_nil] at this
  exact this
theorem sep_or (b : UInt8) (t : List UInt8) : (∃ x y, t = x ++ b :: y ∧ b ∉ x) ∨ b ∉ t := by
  induction t with
  | nil => exact .inr (by simp)
  | cons c t ih =>
    by_cases h : c = b
    · exact .inl ⟨[], t, by rw [h]; rfl, by simp⟩
    · rcases ih with ⟨x, y, e, hx⟩ | h2
      · exact .inl ⟨c :: x, y, by rw [e]; rfl, by simp only [List.mem_cons, not_or]; exact ⟨fun e => h e.symm, hx⟩⟩
      · exact .inr (by simp only [List.mem_cons, not_or]; exact ⟨fun e => h e.symm, h2⟩)
/-- what a reading of a number comes to -/
theorem iNum (e : UInt8) (p t : List UInt8) (hb : (p ++ t).length < 4611686018427387904) :
    (∃ x y, t = x ++ e :: y ∧ e ∉ x ∧ isN x = true ∧ 0 ≤ num x ∧ callI tE f_impl_numberAt [.str (S (p ++ t)), .int (p.length : Int), .int (e.toNat : Int)] = some [.int (num x), .int ((p ++ x ++ [e]).length : Nat), .bool true]) ∨
    ((∃ a b, callI tE f_impl_numberAt [.str (S (p ++ t)), .int (p.length : Int), .int (e.toNat : Int)] = some [.int a, .int b, .bool false]) ∧ ∀ x y, t = x ++ e :: y → e ∉ x → ¬ (isN x = true ∧ 0 ≤ num x)) := by
  have small : ∀ x : List UInt8, isN x = true → x.length ≤ 11 := fun x hx => by
    obtain ⟨h1, h2⟩ := isN_num hx
    have := (dec_len_iff 9 (num x).natAbs (by omega)).mpr (by omega)
    rw [← h1]
    unfold fmt
    split
    · simp; omega
    · omega
  rcases sep_or e t with ⟨x, y, hxy, hx⟩ | hno
  · by_cases hl : x.length ≤ 11
    · subst hxy
      have hb' : (p ++ x ++ e :: y).length < 4611686018427387904 := by simpa using hb
      have hr := iNumberAt e p x y hx hl hb'
      rw [List.append_assoc] at hr
      by_cases hok : isN x = true ∧ 0 ≤ num x
      · refine .inl ⟨x, y, rfl, hx, hok.1, hok.2, hr.trans ?_⟩
        rw [hok.1, leT hok.2]
        simp
        omega
      · refine .inr ⟨⟨num x, ((p.length + x.length + 1 : Nat) : Int), hr.trans ?_⟩, fun x' y' h1 h2 h3 => ?_⟩
        · rw [show (isN x && leI 0 (num x)) = false from ?_]
          cases h1 : isN x
          · rfl
          · exact leF (by have : ¬ 0 ≤ num x := fun h2 => hok ⟨h1, h2⟩; omega)
        · obtain ⟨e1, _⟩ := sep_split hx h2 h1
          exact hok (e1 ▸ h3)
    · refine .inr ⟨iNumberAt_none e p t (fun x' y' h1 h2 => ?_) hb, fun x' y' h1 h2 h3 => ?_⟩
      · obtain ⟨e1, _⟩ := sep_split hx h2 (hxy.symm.trans h1)
        rw [← e1]; omega
      · obtain ⟨e1, _⟩ := sep_split hx h2 (hxy.symm.trans h1)
        have := small x' h3.1
        rw [← e1] at this; omega
  · refine .inr ⟨iNumberAt_none e p t (fun x' y' h1 h2 => absurd (by rw [h1]; simp) hno) hb, fun x' y' h1 h2 h3 => absurd (by rw [h1]; simp) hno⟩
theorem num_nat {x : List UInt8} (h1 : isN x = true) (h2 : 0 ≤ num x) : ∃ n : Nat, num x = (n : Int) ∧ n < 1000000000 ∧ x = fmt (n : Int) := by
  obtain ⟨e1, e2⟩ := isN_num h1
  refine ⟨(num x).natAbs, by omega, e2, ?_⟩
  rw [show (((num x).natAbs : Nat) : Int) = num x by omega, e1]
/-- a number and what is behind it, if there is enough -/
theorem front_form {t r y : List UInt8} (h : t = recT r ++ y) : t = fmt (r.length : Nat) ++ 58 :: (r ++ 44 :: (fmt (chk r : Nat) ++ 59 :: y)) := by
  rw [h]; unfold recT; simp
theorem num_fmt_nat {n : Nat} (h : n < 1000000000) : num (fmt (n : Int)) = (n : Int) ∧ isN (fmt (n : Int)) = true := num_fmt (by omega)
theorem ext_two {p x y : List UInt8} {k : Nat} (hk : k = p.length + x.length) : ext (S (p ++ (x ++ y))) p.length k = S x := by
  subst hk
  have := ext_mid p x y
  rw [List.append_assoc, List.length_append] at this
  exact this
theorem iRecordAt (p t : List UInt8) (hb : (p ++ t).length < 1000000000) :
    (∃ r y, t = recT r ++ y ∧ callI tE f_impl_recordAt [.str (S (p ++ t)), .int (p.length : Int)] = some [.str (S r), .int ((p ++ recT r).length : Nat), .bool true]) ∨
    (front t = none ∧ ∃ a b, callI tE f_impl_recordAt [.str (S (p ++ t)), .int (p.length : Int)] = some [.str a, .int b, .bool false]) := by
  rw [c_impl_recordAt]
  have h58 : ∀ n : Int, (58 : UInt8) ∉ fmt n := fun n => fmt_nosep (by decide) (by decide) n
  have h59 : ∀ n : Int, (59 : UInt8) ∉ fmt n := fun n => fmt_nosep (by decide) (by decide) n
  have hlen : ∀ {r y : List UInt8}, t = recT r ++ y → r.length < 1000000000 := fun {r y} e => by
    rw [e] at hb
    unfold recT at hb
    simp only [List.length_append] at hb
    omega
  rcases iNum 58 p t (by omega) with ⟨x, y, hxy, hx, q1, q2, hr⟩ | ⟨⟨a, b, hr⟩, hno⟩
  · rw [show (58 : UInt8).toNat = 58 from rfl] at hr
    rw [show ((58 : Nat) : Int) = 58 from rfl] at hr
    obtain ⟨n, e1, e2, e3⟩ := num_nat q1 q2
    have hpl : (p ++ x ++ [58]).length + y.length = (p ++ t).length := by rw [hxy]; simp; omega
    have hs : p ++ t = (p ++ x ++ [58]) ++ y := by rw [hxy]; simp
    simp only [hr, gn_c, gb_c, gs_c, gl_c, tk_s, tk_0, List.drop_succ_cons, List.drop_zero, List.headD_cons, List.getD_cons_zero, List.getD_cons_succ, bind_s, e1, Bool.not_true, cond_false]
    rw [hs]
    generalize hP : p ++ x ++ [58] = P at *
    have ew : w64 ((P.length : Int) + (n : Int)) = ((P.length + n : Nat) : Int) := by rw [w64_id ⟨by omega, by omega⟩]; omega
    simp only [ew]
    by_cases hn : P.length + n < (P ++ y).length
    · rw [leF (by rw [szI_S]; omega), cond_false, inRT (by omega) (by rw [szI_S]; omega), cond_true]
      have hny : n < y.length := by rw [List.length_append] at hn; omega
      have hbyte : byteAt (S (P ++ y)) ((P.length + n : Nat) : Int) = ((y[n]'hny).toNat : Int) := by
        rw [byteAt_S hn]
        congr 2
        rw [List.getElem_append_right (by omega)]
        congr 1; omega
      rw [hbyte, show eqI ((y[n]'hny).toNat : Int) 44 = decide (y[n]'hny = 44) from u8_eqI _ 44]
      by_cases h44 : y[n]'hny = 44
      · rw [decide_eq_true h44]
        have hy : y = y.take n ++ 44 :: y.drop (n + 1) := by
          have := List.take_append_drop n y
          rw [List.drop_eq_getElem_cons hny, h44] at this
          exact this.symm
        have htl : (y.take n).length = n := by simp; omega
        generalize y.take n = r at *
        generalize y.drop (n + 1) = z at *
        subst hy
        have hpl2 : (P ++ r ++ [44]).length + z.length = (P ++ (r ++ 44 :: z)).length := by simp; omega
        have e5 : w64 (((P.length + n : Nat) : Int) + 1) = ((P ++ r ++ [44]).length : Nat) := by
          rw [w64_id ⟨by omega, by omega⟩]; simp; omega
        have e6 : in3 (P.length : Int) ((P.length + n : Nat) : Int) (szI (S (P ++ (r ++ 44 :: z)))) = true := in3T (by omega) (by omega) (by rw [szI_S]; omega)
        have e7 : ext (S (P ++ (r ++ 44 :: z))) P.length (P.length + n) = S r := ext_two (by rw [htl])
        have hs2 : P ++ (r ++ 44 :: z) = (P ++ r ++ [44]) ++ z := by simp
        rw [e5, e6, Bool.not_true, cond_false, cond_true, tn_c, tn_c, e7]
        have hs3 : S (P ++ (r ++ 44 :: z)) = S ((P ++ r ++ [44]) ++ z) := by rw [hs2]
        rw [hs3]
        rcases iNum 59 (P ++ r ++ [44]) z (by (first | omega | (simp only [List.length_append, List.length_cons, List.length_nil, List.length_map, List.length_take, List.length_drop, List.length_replicate, szI_S] at * <;> omega))) with ⟨x2, y2, hxy2, hx2, q12, q22, hr2⟩ | ⟨⟨a, b, hr2⟩, hno⟩
        · rw [show (59 : UInt8).toNat = 59 from rfl] at hr2
          rw [show ((59 : Nat) : Int) = 59 from rfl] at hr2
          obtain ⟨n2, f1, f2, f3⟩ := num_nat q12 q22
          simp only [hr2, gn_c, gb_c, gs_c, gl_c, tk_s, tk_0, List.drop_succ_cons, List.drop_zero, List.headD_cons, List.getD_cons_zero, List.getD_cons_succ, bind_s, f1, cond_true, iChecksum r (by simp at hb hpl2; omega)]
          by_cases hc : n2 = chk r
          · left
            rw [eqT (by rw [hc])]
            have ht : t = recT r ++ y2 := by
              rw [hxy, hxy2, e3, f3, hc]
              unfold recT
              rw [← htl]
              simp
            refine ⟨r, y2, ht, ?_⟩
            congr 4
            rw [← hP, f3, hc, e3, ← htl]
            unfold recT
            (first | omega | (simp only [List.length_append, List.length_cons, List.length_nil, List.length_map, List.length_take, List.length_drop, List.length_replicate, szI_S] at * <;> omega))
          · right
            rw [eqF (by omega)]
            refine ⟨front_none.mpr fun r' y' e => ?_, _, _, rfl⟩
            have ef := front_form e
            rw [hxy] at ef
            obtain ⟨g1, g2⟩ := sep_split hx (h58 _) ef
            have hnr : n = r'.length := by rw [e3] at g1; have := fmt_inj g1; omega
            obtain ⟨g3, g4⟩ := List.append_inj g2 (by omega)
            simp only [List.cons.injEq, true_and] at g4
            rw [hxy2] at g4
            obtain ⟨g5, _⟩ := sep_split hx2 (h59 _) g4
            rw [f3, ← g3] at g5
            have := fmt_inj g5
            omega
        · rw [show (59 : UInt8).toNat = 59 from rfl] at hr2
          rw [show ((59 : Nat) : Int) = 59 from rfl] at hr2
          right
          simp only [hr2, gn_c, gb_c, gs_c, gl_c, tk_s, tk_0, List.drop_succ_cons, List.drop_zero, List.headD_cons, List.getD_cons_zero, List.getD_cons_succ, bind_s, cond_false]
          refine ⟨front_none.mpr fun r' y' e => ?_, _, _, rfl⟩
          have ef := front_form e
          rw [hxy] at ef
          obtain ⟨g1, g2⟩ := sep_split hx (h58 _) ef
          have hnr : n = r'.length := by rw [e3] at g1; have := fmt_inj g1; omega
          obtain ⟨g3, g4⟩ := List.append_inj g2 (by omega)
          simp only [List.cons.injEq, true_and] at g4
          obtain ⟨k1, k2⟩ := num_fmt_nat (n := chk r') (by have := chk_lt r'; omega)
          exact hno _ _ g4 (h59 _) ⟨k2, by rw [k1]; omega⟩
      · right
        rw [decide_eq_false h44]
        refine ⟨front_none.mpr fun r' y' e => ?_, _, _, rfl⟩
        have ef := front_form e
        rw [hxy] at ef
        obtain ⟨g1, g2⟩ := sep_split hx (h58 _) ef
        have hnr : n = r'.length := by rw [e3] at g1; have := fmt_inj g1; omega
        apply h44
        have : y[n]? = some 44 := by rw [g2, hnr]; simp
        rw [List.getElem?_eq_getElem hny] at this
        exact Option.some.inj this
    · right
      rw [leT (by rw [szI_S]; omega)]
      refine ⟨front_none.mpr fun r' y' e => ?_, _, _, rfl⟩
      have ef := front_form e
      rw [hxy] at ef
      obtain ⟨g1, g2⟩ := sep_split hx (h58 _) ef
      have hnr : n = r'.length := by rw [e3] at g1; have := fmt_inj g1; omega
      apply hn
      rw [g2]; simp; omega
  · rw [show (58 : UInt8).toNat = 58 from rfl] at hr
    rw [show ((58 : Nat) : Int) = 58 from rfl] at hr
    right
    simp only [hr, gn_c, gb_c, gs_c, gl_c, tk_s, tk_0, List.drop_succ_cons, List.drop_zero, List.headD_cons, List.getD_cons_zero, List.getD_cons_succ, bind_s, Bool.not_false, cond_true]
    refine ⟨front_none.mpr fun r y e => ?_, _, _, rfl⟩
    obtain ⟨k1, k2⟩ := num_fmt_nat (n := r.length) (hlen e)
    exact hno _ _ (front_form e) (h58 _) ⟨k2, by rw [k1]; omega⟩
theorem iReadRecords (s : List UInt8) (h : s.length < 1000000000) : callI tE f_impl_ReadRecords [.str (S s)] = some [.sl ((readJ s).1.map StE), .bool (readJ s).2] := by
  rw [c_impl_ReadRecords]
  have key : ∀ (k : Nat) (p t : List UInt8) (acc : List (List UInt8)), t.length ≤ k → s = p ++ t → acc.length ≤ p.length → L_impl_ReadRecords_0 (S s) (p.length : Nat) (acc.map StE) = some [.sl ((acc ++ (readJ t).1).map StE), .bool (readJ t).2] := by
    intro k
    induction k with
    | zero =>
      intro p t acc hk hs ha
      have : t = [] := List.length_eq_zero_iff.mp (by omega)
      subst this
      rw [List.append_nil] at hs
      subst hs
      rw [L_impl_ReadRecords_0_eq, lt_Se, readJ_nil]; simp
    | succ k ih =>
      intro p t acc hk hs ha
      by_cases ht : t = []
      · subst ht
        rw [List.append_nil] at hs
        subst hs
        rw [L_impl_ReadRecords_0_eq, lt_Se, readJ_nil]; simp
      · have htl : 0 < t.length := List.length_pos_iff.mpr ht
        have hsl : s.length = p.length + t.length := by rw [hs]; simp
        rw [L_impl_ReadRecords_0_eq, ltT (by rw [szI_S]; omega), cond_true, hs]
        rcases iRecordAt p t (by rw [← hs]; omega) with ⟨r, y, e, hr⟩ | ⟨hf, a, b, hr⟩
        · rw [hr]
          simp only [gn_c, gb_c, gs_c, gl_c, tk_s, tk_0, List.drop_succ_cons, List.drop_zero, List.headD_cons, List.getD_cons_zero, List.getD_cons_succ, bind_s, Bool.not_true, cond_false]
          rw [len_map, show fitM (Nat.succ acc.length) 16 = true from fitT (by omega), cond_true, strs_app, e, readJ_ok]
          have hrl : 0 < (recT r).length := by unfold recT; (first | omega | (simp only [List.length_append, List.length_cons, List.length_nil, List.length_map, List.length_take, List.length_drop, List.length_replicate, szI_S] at * <;> omega))
          have := ih (p ++ recT r) y (acc ++ [r]) (by rw [e] at hk; simp at hk; omega) (by rw [hs, e]; simp) (by simp; omega)
          rw [hs, e] at this
          rw [this]; simp
        · rw [hr, readJ_bad ht hf]
          simp only [gn_c, gb_c, gs_c, gl_c, tk_s, tk_0, List.drop_succ_cons, List.drop_zero, List.headD_cons, List.getD_cons_zero, List.getD_cons_succ, bind_s, Bool.not_false, cond_true, List.append_nil]
  exact key s.length [] s [] (by omega) rfl (by simp)
/-! the reference's reading -/
theorem sRec (r : List UInt8) (h : r.length < 4611686018427387904) : callI tE f_spec_l27Rec [.str (S r)] = some [.str (S (recT r))] := by
  have h1 := fmt_nat_len (n := r.length) (by omega)
  have h2 := fmt_nat_len (n := chk r) (by have := chk_lt r; omega)
  have hc := chk_lt r
  rw [c_spec_l27Rec, szI_S, sFormatInt_ok ⟨by omega, by omega⟩]
  simp only [gn_c, gb_c, gs_c, gl_c, tk_s, tk_0, List.drop_succ_cons, List.drop_zero, List.headD_cons, List.getD_cons_zero, List.getD_cons_succ, bind_s]
  rw [fitS_S (by simp; omega), S_app, fitS_S (by simp; omega), S_app, fitS_S (by simp; omega), S_app, sChecksum r h]
  simp only [gn_c, gb_c, gs_c, gl_c, tk_s, tk_0, List.drop_succ_cons, List.drop_zero, List.headD_cons, List.getD_cons_zero, List.getD_cons_succ, bind_s, cond_true]
  rw [sFormatInt_ok ⟨by omega, by omega⟩]
  simp only [gn_c, gb_c, gs_c, gl_c, tk_s, tk_0, List.drop_succ_cons, List.drop_zero, List.headD_cons, List.getD_cons_zero, List.getD_cons_succ, bind_s]
  rw [fitS_S (by simp; omega), S_app, fitS_S (by simp; omega), S_app]
  rfl
theorem sOne (p t : List UInt8) (hb : (p ++ t).length < 1000000000) : callI tE f_spec_l27One [.str (S (p ++ t)), .int (p.length : Int)] = some (match front t with
    | some r => [Dat.str (S r), .int ((p ++ recT r).length : Nat)]
    | none => [Dat.str (S []), .int (-1)]) := by
  rw [c_spec_l27One]
  have h58 : ∀ n : Int, (58 : UInt8) ∉ fmt n := fun n => fmt_nosep (by decide) (by decide) n
  -- behind the number
  have fin : ∀ (x y : List UInt8), t = x ++ y → (58 ∉ x) → (y = [] ∨ ∃ z, y = 58 :: z) → (bif (in3 (p.length : Int) ((p ++ x).length : Nat) (szI (S (p ++ t)))) then (((callI tE f_spec_ParseInt [(.str (ext (S (p ++ t)) (tn (p.length : Int)) (tn ((p ++ x).length : Nat))))])).bind (fun r0 => (bif (!(gb (tk 1 r0))) then (some [(.str (S [])), (.int (-1))]) else (bif (ltI (gn r0) 0) then (some [(.str (S [])), (.int (-1))]) else (bif (ltI (szI (S (p ++ t))) (w64 ((w64 (((p ++ x).length : Nat) + 1)) + (gn r0)))) then (some [(.str (S [])), (.int (-1))]) else (bif (in3 (w64 (((p ++ x).length : Nat) + 1)) (w64 ((w64 (((p ++ x).length : Nat) + 1)) + (gn r0))) (szI (S (p ++ t)))) then (((callI tE f_spec_l27Rec [(.str (ext (S (p ++ t)) (tn (w64 (((p ++ x).length : Nat) + 1))) (tn (w64 ((w64 (((p ++ x).length : Nat) + 1)) + (gn r0))))))])).bind (fun r1 => (bif (ltI (szI (S (p ++ t))) (w64 ((p.length : Int) + (szI (gs r1))))) then (some [(.str (S [])), (.int (-1))]) else (bif (in3 (p.length : Int) (w64 ((p.length : Int) + (szI (gs r1)))) (szI (S (p ++ t)))) then (bif (!(eqS (ext (S (p ++ t)) (tn (p.length : Int)) (tn (w64 ((p.length : Int) + (szI (gs r1)))))) (gs r1))) then (some [(.str (S [])), (.int (-1))]) else (some [(.str (ext (S (p ++ t)) (tn (w64 (((p ++ x).length : Nat) + 1))) (tn (w64 ((w64 (((p ++ x).length : Nat) + 1)) + (gn r0)))))), (.int (w64 ((p.length : Int) + (szI (gs r1)))))])) else none)))) else none)))))) else none) = some (match front t with
    | some r => [Dat.str (S r), .int ((p ++ recT r).length : Nat)]
    | none => [Dat.str (S []), .int (-1)]) := by
    intro x y hxy hx hy
    have hpl : (p ++ x).length + y.length = (p ++ t).length := by rw [hxy]; simp; omega
    have e1 : in3 (p.length : Int) ((p ++ x).length : Nat) (szI (S (p ++ t))) = true := in3T (by omega) (by (first | omega | (simp only [List.length_append, List.length_cons, List.length_nil, List.length_map, List.length_take, List.length_drop, List.length_replicate, szI_S] at * <;> omega))) (by rw [szI_S]; omega)
    have e2 : ext (S (p ++ t)) p.length (p ++ x).length = S x := by rw [hxy, ← List.append_assoc]; exact ext_mid p x y
    rw [e1, tn_c, tn_c, e2, sParseInt x (by (first | omega | (simp only [List.length_append, List.length_cons, List.length_nil, List.length_map, List.length_take, List.length_drop, List.length_replicate, szI_S] at * <;> omega))), pI_eq]
    simp only [gn_c, gb_c, gs_c, gl_c, tk_s, tk_0, List.drop_succ_cons, List.drop_zero, List.headD_cons, List.getD_cons_zero, List.getD_cons_succ, bind_s, cond_true]
    -- what a record at the front would mean
    have back : ∀ r z, t = recT r ++ z → x = fmt (r.length : Nat) ∧ y = 58 :: (r ++ 44 :: (fmt (chk r : Nat) ++ 59 :: z)) ∧ r.length < 1000000000 := fun r z e => by
      have ef := front_form e
      have hl : r.length < 1000000000 := by
        rw [e] at hb
        unfold recT at hb
        simp only [List.length_append] at hb
        omega
      rcases hy with rfl | ⟨z', rfl⟩
      · rw [List.append_nil] at hxy
        rw [hxy] at ef
        exact absurd (by rw [ef]; simp) hx
      · rw [hxy] at ef
        obtain ⟨g1, g2⟩ := sep_split hx (h58 _) ef
        exact ⟨g1, by rw [g2], hl⟩
    cases hn : isN x with
    | false =>
      rw [front_none.mpr fun r z e => ?_]
      · rfl
      · obtain ⟨g1, g2, g3⟩ := back r z e
        rw [g1, (num_fmt_nat g3).2] at hn
        cases hn
    | true =>
      rw [Bool.not_true, cond_false]
      by_cases h0 : num x < 0
      · rw [ltT h0, cond_true, front_none.mpr fun r z e => ?_]
        obtain ⟨g1, g2, g3⟩ := back r z e
        rw [g1, (num_fmt_nat g3).1] at h0
        omega
      · rw [ltF (by omega), cond_false]
        obtain ⟨n, f1, f2, f3⟩ := num_nat hn (by omega)
        have e3 : w64 (((p ++ x).length : Nat) + 1) = ((p ++ x).length + 1 : Nat) := w64_s (by omega)
        have e4 : w64 ((((p ++ x).length + 1 : Nat) : Int) + (n : Int)) = ((p ++ x).length + 1 + n : Nat) := by rw [w64_id ⟨by omega, by omega⟩]; omega
        rw [f1, e3, e4, szI_S]
        by_cases hlt : (p ++ t).length < (p ++ x).length + 1 + n
        · rw [ltT (by omega), cond_true, front_none.mpr fun r z e => ?_]
          obtain ⟨g1, g2, g3⟩ := back r z e
          have : n = r.length := by rw [f3] at g1; have := fmt_inj g1; omega
          rw [g2] at hpl
          simp at hpl hlt
          omega
        · rw [ltF (by omega), cond_false, in3T (by omega) (by omega) (by omega), cond_true, tn_c, tn_c]
          -- the record's place
          obtain ⟨z, rfl⟩ : ∃ z, y = 58 :: z := by
            rcases hy with rfl | hy
            · simp at hpl hlt; omega
            · exact hy
          have hzl : n ≤ z.length := by simp at hpl hlt; omega
          have hs2 : p ++ t = (p ++ x ++ [58]) ++ (z.take n ++ z.drop n) := by rw [hxy, List.take_append_drop]; simp
          have e5 : ext (S (p ++ t)) ((p ++ x).length + 1) ((p ++ x).length + 1 + n) = S (z.take n) := by
            rw [hs2, show (p ++ x).length + 1 = (p ++ x ++ [58]).length by (first | omega | (simp only [List.length_append, List.length_cons, List.length_nil, List.length_map, List.length_take, List.length_drop, List.length_replicate, szI_S] at * <;> omega))]
            exact ext_two (by simp; omega)
          rw [e5, sRec _ (by simp; omega)]
          simp only [gn_c, gb_c, gs_c, gl_c, tk_s, tk_0, List.drop_succ_cons, List.drop_zero, List.headD_cons, List.getD_cons_zero, List.getD_cons_succ, bind_s]
          generalize hr : z.take n = r at *
          have hrl : r.length = n := by rw [← hr]; simp; omega
          obtain ⟨_, l2⟩ := recT_len (r := r) (by omega)
          have e6 : w64 ((p.length : Int) + szI (S (recT r))) = ((p ++ recT r).length : Nat) := by rw [szI_S, w64_id ⟨by omega, by simp at hb; omega⟩]; simp
          rw [e6]
          by_cases hle : (p ++ recT r).length ≤ (p ++ t).length
          · rw [ltF (by omega), cond_false, in3T (by omega) (by (first | omega | (simp only [List.length_append, List.length_cons, List.length_nil, List.length_map, List.length_take, List.length_drop, List.length_replicate, szI_S] at * <;> omega))) (by omega), cond_true]
            simp only [tn_c]
            have e7 : ext (S (p ++ t)) p.length (p ++ recT r).length = S (t.take (recT r).length) := by
              have hts : p ++ t = p ++ (t.take (recT r).length ++ t.drop (recT r).length) := by rw [List.take_append_drop]
              rw [hts]
              exact ext_two (by simp at hle ⊢; omega)
            rw [e7, eqS_S]
            by_cases he : t.take (recT r).length = recT r
            · rw [decide_eq_true he, front_some.mpr ⟨t.drop (recT r).length, by
                have := List.take_append_drop (recT r).length t
                rw [he] at this; exact this.symm⟩]
              rfl
            · rw [decide_eq_false he, front_none.mpr fun r' z' e => he ?_]
              · rfl
              · obtain ⟨g1, g2, g3⟩ := back r' z' e
                have hn' : n = r'.length := by rw [f3] at g1; have := fmt_inj g1; omega
                simp only [List.cons.injEq, true_and] at g2
                have : r = r' := by rw [← hr, g2, hn', List.take_left' rfl]
                rw [e, this, List.take_left' rfl]
          · rw [ltT (by omega), cond_true, front_none.mpr fun r' z' e => hle ?_]
            obtain ⟨g1, g2, g3⟩ := back r' z' e
            have hn' : n = r'.length := by rw [f3] at g1; have := fmt_inj g1; omega
            simp only [List.cons.injEq, true_and] at g2
            have : r = r' := by rw [← hr, g2, hn', List.take_left' rfl]
            rw [e, this]; simp
  have key : ∀ (v u : List UInt8), t = u ++ v → 58 ∉ u → L_spec_l27One_0 (S (p ++ t)) (p.length : Int) ((p ++ u).length : Nat) = some (match front t with
    | some r => [Dat.str (S r), .int ((p ++ recT r).length : Nat)]
    | none => [Dat.str (S []), .int (-1)]) := by
    intro v
    induction v with
    | nil =>
      intro u hu hne
      have := fin u [] hu hne (.inl rfl)
      rw [List.append_nil] at hu
      rw [← this, L_spec_l27One_0_eq]
      subst hu
      rw [lt_Se]; rfl
    | cons c v ih =>
      intro u hu hne
      have hs : p ++ t = (p ++ u) ++ c :: v := by rw [hu]; simp
      have hpl : (p ++ u).length < 4611686018427387904 := by rw [hs] at hb; simp only [List.length_append] at hb ⊢; omega
      have e1 := lt_S (p ++ u) v c
      have e2 := in_S (p ++ u) v c
      have e3 := by_S (p ++ u) v c
      rw [← hs] at e1 e2 e3
      by_cases hc : c = 58
      · have := fin u (c :: v) hu hne (.inr ⟨v, by rw [hc]⟩)
        rw [← this, L_spec_l27One_0_eq, e1, e2, e3, show eqI (c.toNat : Int) 58 = true from (u8_eqI c 58).trans (decide_eq_true hc)]
        rfl
      · have ih' := ih (u ++ [c]) (by rw [hu]; simp) (by simp only [List.mem_append, List.mem_singleton, not_or]; exact ⟨hne, fun h => hc h.symm⟩)
        rw [← ih', L_spec_l27One_0_eq, e1, e2, e3, show eqI (c.toNat : Int) 58 = false from (u8_eqI c 58).trans (decide_eq_false hc), w64_s (by omega)]
        simp only [cond_true, Bool.not_false]
        congr 2
        simp
        omega
  have := key t [] rfl (by simp)
  rw [List.append_nil] at this
  exact this
theorem sReadRecords (s : List UInt8) (h : s.length < 1000000000) : callI tE f_spec_ReadRecords [.str (S s)] = some [.sl ((readJ s).1.map StE), .bool (readJ s).2] := by
  rw [c_spec_ReadRecords]
  have key : ∀ (k : Nat) (p t : List UInt8) (acc : List (List UInt8)), t.length ≤ k → s = p ++ t → acc.length ≤ p.length → L_spec_ReadRecords_0 (S s) (p.length : Nat) (acc.map StE) = some [.sl ((acc ++ (readJ t).1).map StE), .bool (readJ t).2] := by
    intro k
    induction k with
    | zero =>
      intro p t acc hk hs ha
      have : t = [] := List.length_eq_zero_iff.mp (by omega)
      subst this
      rw [List.append_nil] at hs
      subst hs
      rw [L_spec_ReadRecords_0_eq, lt_Se, readJ_nil]; simp
    | succ k ih =>
      intro p t acc hk hs ha
      by_cases ht : t = []
      · subst ht
        rw [List.append_nil] at hs
        subst hs
        rw [L_spec_ReadRecords_0_eq, lt_Se, readJ_nil]; simp
      · have htl : 0 < t.length := List.length_pos_iff.mpr ht
        have hsl : s.length = p.length + t.length := by rw [hs]; simp
        rw [L_spec_ReadRecords_0_eq, ltT (by rw [szI_S]; omega), cond_true, hs, sOne p t (by rw [← hs]; omega)]
        cases hf : front t with
        | none =>
          rw [readJ_bad ht hf]
          simp only [gn_c, gb_c, gs_c, gl_c, tk_s, tk_0, List.drop_succ_cons, List.drop_zero, List.headD_cons, List.getD_cons_zero, List.getD_cons_succ, bind_s, ltT (show (-1 : Int) < 0 by decide), cond_true, List.append_nil]
        | some r =>
          obtain ⟨y, e⟩ := front_some.mp hf
          simp only [gn_c, gb_c, gs_c, gl_c, tk_s, tk_0, List.drop_succ_cons, List.drop_zero, List.headD_cons, List.getD_cons_zero, List.getD_cons_succ, bind_s]
          rw [ltF (by omega), cond_false, len_map, show fitM (Nat.succ acc.length) 16 = true from fitT (by omega), cond_true, strs_app, e, readJ_ok]
          have hrl : 0 < (recT r).length := by unfold recT; (first | omega | (simp only [List.length_append, List.length_cons, List.length_nil, List.length_map, List.length_take, List.length_drop, List.length_replicate, szI_S] at * <;> omega))
          have := ih (p ++ recT r) y (acc ++ [r]) (by rw [e] at hk; simp at hk; omega) (by rw [hs, e]; simp) (by simp; omega)
          rw [hs, e] at this
          rw [this]; simp
  exact key s.length [] s [] (by omega) rfl (by simp)
theorem readJ_len : ∀ (k : Nat) (s : List UInt8), s.length ≤ k → (readJ s).1.length ≤ s.length := by
  intro k
  induction k with
  | zero =>
    intro s h
    have : s = [] := List.length_eq_zero_iff.mp (by omega)
    subst this; rw [readJ_nil]; simp
  | succ k ih =>
    intro s h
    by_cases hs : s = []
    · subst hs; rw [readJ_nil]; simp
    · cases hf : front s with
      | none => rw [readJ_bad hs hf]; simp
      | some r =>
        obtain ⟨y, e⟩ := front_some.mp hf
        have hrl : 0 < (recT r).length := by unfold recT; (first | omega | (simp only [List.length_append, List.length_cons, List.length_nil, List.length_map, List.length_take, List.length_drop, List.length_replicate, szI_S] at * <;> omega))
        rw [e] at h ⊢
        rw [readJ_ok]
        simp only [List.length_append] at h
        have := ih y (by omega)
        simp; omega
theorem at_last {α : Type} {e : α → List Dat} (u : List α) (a : α) (h : u.length < 4611686018427387904) : w64 (lenI ((u ++ [a]).map e) - 1) = (u.length : Int) ∧ eqI (lenI ((u ++ [a]).map e)) 0 = false := by
  rw [lenI_map]
  refine ⟨?_, eqF (by simp; omega)⟩
  simp only [List.length_append, List.length_cons, List.length_nil]
  rw [w64_id ⟨by omega, by omega⟩]; omega
theorem split_last {α : Type} (l : List α) : l = [] ∨ ∃ u a, l = u ++ [a] := by
  rcases List.eq_nil_or_concat l with h | ⟨u, a, h⟩
  · exact .inl h
  · exact .inr ⟨u, a, by simpa using h⟩
/-- the last record -/
noncomputable def lastJ (s : List UInt8) : List Dat := match (readJ s).1.getLast? with
  | some r => [.str (S r), .bool true]
  | none => [.str (S []), .bool false]
theorem iLastRecord (s : List UInt8) (h : s.length < 1000000000) : callI tE f_impl_LastRecord [.str (S s)] = some (lastJ s) := by
  have hl := readJ_len s.length s (Nat.le_refl _)
  simp only [c_impl_LastRecord, iReadRecords s h, gn_c, gb_c, gs_c, gl_c, tk_s, tk_0, List.drop_succ_cons, List.drop_zero, List.headD_cons, List.getD_cons_zero, List.getD_cons_succ, bind_s]
  unfold lastJ
  rcases split_last (readJ s).1 with e | ⟨u, a, e⟩
  · rw [e]; rfl
  · rw [e] at hl ⊢
    simp only [List.length_append, List.length_cons, List.length_nil] at hl
    obtain ⟨q1, q2⟩ := at_last (e := StE) u a (by omega)
    rw [q1, q2, in_m, tn_c, at_m]
    simp only [StE, gs_c, List.getLast?_append, List.getLast?_singleton, Option.some_or, cond_true, cond_false]
theorem sLastRecord (s : List UInt8) (h : s.length < 1000000000) : callI tE f_spec_LastRecord [.str (S s)] = some (lastJ s) := by
  have hl := readJ_len s.length s (Nat.le_refl _)
  simp only [c_spec_LastRecord, sReadRecords s h, gn_c, gb_c, gs_c, gl_c, tk_s, tk_0, List.drop_succ_cons, List.drop_zero, List.headD_cons, List.getD_cons_zero, List.getD_cons_succ, bind_s]
  unfold lastJ
  rcases split_last (readJ s).1 with e | ⟨u, a, e⟩
  · rw [e]; rfl
  · rw [e] at hl ⊢
    simp only [List.length_append, List.length_cons, List.length_nil] at hl
    obtain ⟨q1, q2⟩ := at_last (e := StE) u a (by omega)
    rw [q1, q2, in_m, tn_c, at_m]
    simp only [StE, gs_c, List.getLast?_append, List.getLast?_singleton, Option.some_or, cond_true, cond_false]
/-- a record appended -/
noncomputable def appJ (j r : List UInt8) : List Dat := bif (readJ j).2 && leN (j ++ recT r).length 20000 then [.str (S (j ++ recT r)), .bool true] else [.str (S j), .bool false]
theorem sAppendRecord (j r : List UInt8) (h : j.length < 1000000000) (hr : r.length < 1000000000) : callI tE f_spec_AppendRecord [.str (S j), .str (S r)] = some (appJ j r) := by
  obtain ⟨l1, l2⟩ := recT_len (r := r) (by omega)
  simp only [c_spec_AppendRecord, sReadRecords j h, sRec r (by omega), gn_c, gb_c, gs_c, gl_c, tk_s, tk_0, List.drop_succ_cons, List.drop_zero, List.headD_cons, List.getD_cons_zero, List.getD_cons_succ, bind_s]
  unfold appJ
  cases hw : (readJ j).2
  · rfl
  · rw [szI_S, szI_S, w64_id ⟨by omega, by omega⟩, fitS_S (by omega), S_app]
    by_cases hle : (j ++ recT r).length ≤ 20000
    · rw [ltF (by simp at hle; omega), leNT hle]; rfl
    · rw [ltT (by simp at hle; omega), show leN (j ++ recT r).length 20000 = false from decide_eq_false hle]; rfl
theorem iAppendRecord (j r : List UInt8) (h : j.length < 1000000000) (hr : r.length < 1000000000) : callI tE f_impl_AppendRecord [.str (S j), .str (S r)] = some (appJ j r) := by
  obtain ⟨l1, l2⟩ := recT_len (r := r) (by omega)
  have h1 := fmt_nat_len (n := r.length) (by omega)
  have h2 := fmt_nat_len (n := chk r) (by have := chk_lt r; omega)
  have hc := chk_lt r
  have e : j ++ fmt (r.length : Nat) ++ [58] ++ r ++ [44] ++ fmt (chk r : Nat) ++ [59] = j ++ recT r := by unfold recT; simp
  simp only [c_impl_AppendRecord, iReadRecords j h, iChecksum r (by omega), szI_S, iFormatInt_ok (n := (r.length : Int)) ⟨by omega, by omega⟩, iFormatInt_ok (n := ((chk r : Nat) : Int)) ⟨by omega, by omega⟩, gn_c, gb_c, gs_c, gl_c, tk_s, tk_0, List.drop_succ_cons, List.drop_zero, List.headD_cons, List.getD_cons_zero, List.getD_cons_succ, bind_s]
  rw [fitS_S (by omega), S_app, fitS_S (by simp; omega), S_app, fitS_S (by simp; omega), S_app, fitS_S (by simp; omega), S_app, fitS_S (by simp; omega), S_app, fitS_S (by simp; omega), S_app, e, szI_S]
  simp only [cond_true]
  unfold appJ
  cases hw : (readJ j).2
  · rfl
  · by_cases hle : (j ++ recT r).length ≤ 20000
    · rw [ltF (by omega), leNT hle]; rfl
    · rw [ltT (by omega), show leN (j ++ recT r).length 20000 = false from decide_eq_false hle]; rfl
theorem StE_map (l : List (List UInt8)) : l.map StE = (l.map S).map stE := by simp [StE, stE]
end Go.Proofs.Ytbmafhpbinjgaaa.Vai
