/- Operations that only compute (continued): lengths, numbers, comparisons, fields, strings; no condition. -/
import Derived.Test.YthjkpphjlmmkdaaVaiOps4
namespace Go.Proofs.Ythjkpphjlmmkdaa.Vai
open Go

section
variable {P : Program} {E : Env} {base : Nat} {M : List Nat} {S0 : Nat → Prop} {R0 : Id → Value} {w0 : World} {nt : Nat} {G : Gh} {st : St} {a : Act} {w : World} {look : Look}

theorem opLenS_ok {ats : Array TypeId} {t ty : TypeId} (ha : ats[0]? = some t) (hu : P.underlying t = some .string) {s : ByteArray} {r : OpRes} (hr : val (.i .i64 s.size) = some r) : PureR E S0 G st.ob ((Builtin.len_ ats ty #[.string s]).run P w) w r :=
  pureR hr (by simp [Builtin.len_, ha, run_underlying hu, goInt]) (.i _ _)
theorem opLen_ok (h : RelG E base M S0 R0 w0 nt G st a w) (hlook : ∀ i x, look i = some x → getO st.ob i = some x) {ats : Array TypeId} {t ty : TypeId} (ha : ats[0]? = some t)
    {e : TypeId} (hu : P.underlying t = some (.slice e)) {x : AV} {v : Value} (hv : VR E w S0 G st.ob x v) (hx : ∀ s, x ≠ .s s)
    {r : OpRes} (hr : opLen look x = some r) : PureR E S0 G st.ob ((Builtin.len_ ats ty #[v]).run P w) w r := by
  have sl : ∀ A n c, v = .slice A n c → (Builtin.len_ ats ty #[v]).run P w = .ok (.int .i64 n) w := fun A n c e => by
    subst e
    simp [Builtin.len_, ha, run_underlying hu, goInt]
  cases hv with
  | s x => exact absurd rfl (hx x)
  | nil =>
    simp only [opLen, Vai.slOf] at hr
    exact pureR hr (sl _ _ _ rfl) (.i _ _)
  | ro e al rows v hrd =>
    simp only [opLen, Vai.slOf] at hr
    cases hrd with
    | sl _ te _ A c u ht' hc hl hm hr' => exact pureR hr (sl _ _ _ rfl) (.i _ _)
  | nest o ver row col e whole rows v hrd hn =>
    simp only [opLen, Vai.slOf] at hr
    cases hrd with
    | sl _ te _ A c u ht' hc hl hm hr' => exact pureR hr (sl _ _ _ rfl) (.i _ _)
  | own o v hr0 h1 =>
    simp only [opLen] at hr
    split at hr
    · rename_i e0 rows dp vr hh hl
      have hgo := hlook _ _ hl
      obtain ⟨te', b1, b2, b3⟩ := (h.objs o _ hgo : RowR E w _ _ rows dp hh _ _ _)
      have hv' := hr0 _ _ _ _ _ hgo
      rcases b3 with ⟨b3, b4, _⟩ | ⟨g, off, c, arr, u, bs, a1, _⟩
      · subst b4
        exact pureR hr (sl _ _ _ (hv'.trans b3)) (.i _ _)
      · exact pureR hr (sl _ _ _ (hv'.trans a1)) (.i _ _)
    · cases hr
  | vw o lo n v hr0 h1 =>
    simp only [opLen] at hr
    split at hr
    · rename_i e0 rows dp vr hh hl
      have hgo := hlook _ _ hl
      obtain ⟨te', b1, b2, b3⟩ := (h.objs o _ hgo : RowR E w _ _ rows dp hh _ _ _)
      obtain ⟨q0, q1, q2, A, c, rfl, q3⟩ := hr0 _ _ _ _ _ te' hgo b1
      have : (n.toNat : Int) = n := Int.toNat_of_nonneg q1
      have k := sl _ _ _ rfl
      rw [this] at k
      exact pureR hr k (.i _ _)
    · cases hr
  | _ => simp [opLen, Vai.slOf] at hr

theorem opIndexS_ok {t : TypeId} (hu : P.underlying t = some .string) {s : ByteArray} {k : IntKind} {n : Int} {r : OpRes}
    (hr : under (decide (0 ≤ n) && decide (n < (s.size : Int))) { v := .i .u8 (byteAt s n) } = some r) (hg : r.g = true) :
    PureR E S0 G st.ob ((Instr.index t (.string s) (.int k n)).run P w) w r := by
  refine pureR_under hr hg fun hb => ?_
  have ⟨l0, l1⟩ : 0 ≤ n ∧ n < (s.size : Int) := by simpa using hb
  have hn : n.toNat < s.size := by omega
  refine ⟨_, ?_, .i _ _⟩
  simp [Instr.index, asIntOf, run_underlying hu, l0, byteAt, hn]

theorem opExtract_ok {x : AV} {v : Value} (hv : VR E w S0 G st.ob x v) {vs : List AV} (hx : x = .tup vs) {ix : Nat} {y : AV} (hy : vs[ix]? = some y) {r : OpRes} (hr : val y = some r) :
    PureR E S0 G st.ob ((Instr.extract v ix).run P w) w r := by
  subst hx
  cases hv with
  | tup _ arr hl h =>
    have hi : ix < arr.size := by have := (List.getElem?_eq_some_iff.mp hy).1; omega
    exact pureR hr (by simp [Instr.extract, hi]) (h ix y _ hy (Array.getElem?_eq_getElem hi))

theorem opField_val_ok (hE : EnvOk P E) {s : TypeId} {ti : TI} (ht : E.T s = some ti) (ha : ti.agg = true) {f fo : Nat} {ft : TypeId} (hf : ti.fs[f]? = some (fo, ft)) {fi : TI} (hfi : E.T ft = some fi)
    {cs : List AV} {v : Value} (hv : VR E w S0 G st.ob (.agg cs) v) (hle : fo + fi.ls.length ≤ cs.length) {r : OpRes} (hr : val (pack fi.agg ((cs.drop fo).take fi.ls.length)) = some r) :
    PureR E S0 G st.ob ((Instr.field s v f).run P w) w r := by
  cases hv with
  | agg _ arr hl h h1 =>
    obtain ⟨fields, hu, hfs⟩ := (hE.T s ti ht).struct ha
    rw [← hfs] at hf
    simp only [List.getElem?_map, Option.map_eq_some_iff, Prod.mk.injEq] at hf
    obtain ⟨fd, hfd, rfl, rfl⟩ := hf
    have hfd' : fields[f]? = some fd := by simpa using hfd
    have hT := hE.T _ _ hfi
    refine pureR hr (v := if fi.agg then .agg ((List.range fi.ls.length).map fun i => arr.getD (fd.offset + i) undef).toArray else arr.getD (fd.offset + 0) undef) ?_ ?_
    · simp only [Instr.field, Sem.run_bind, run_underlying hu, Result.andThen_ok, hfd', asAgg, Sem.run_pure, part, hT.isAgg]
      cases hag : fi.agg with
      | true =>
        simp only [if_true, Sem.run_bind, hT.size, Result.andThen_ok, Sem.run_pure]
        congr 2
        apply Array.ext
        · simp; omega
        · intro i hi hi'
          simp at hi hi'
          simp [Array.getD]
          omega
      | false =>
        obtain ⟨l, hls, _⟩ := hT.single hag
        rw [hls] at hle
        have : fd.offset < arr.size := by simp at hle; omega
        simp [this, Array.getD]
    · refine VR.pack hT _ (fun i => arr.getD (fd.offset + i) undef) (by simp; omega) (fun i y hy => ?_)
      rw [List.getElem?_take] at hy
      split at hy
      · rw [List.getElem?_drop] at hy
        have hi : fd.offset + i < arr.size := by have := (List.getElem?_eq_some_iff.mp hy).1; omega
        have hx : arr[fd.offset + i]? = some (arr.getD (fd.offset + i) undef) := by simp [hi, Array.getD]
        exact ⟨h _ _ _ hy hx, h1 _ _ hx⟩
      · cases hy

/-! ## numbers, comparisons -/
theorem eqGuard_plain (op : BinOp) (t : TypeId) (x y : Operand) (u v : Value) (h1 : u ≠ .nilIface) (h2 : ∀ cs, u ≠ .agg cs) : (eqGuard op t x y u v).run P w = .ok () w := by
  unfold eqGuard
  cases op <;> simp <;> (cases u <;> first | rfl | exact absurd rfl h1 | exact absurd rfl (h2 _))
theorem scal_of {cs : List AV} {v : Value} (hv : VR E w S0 G st.ob (.agg cs) v) : ∃ arr, v = .agg arr ∧ scalRel cs arr := by
  cases hv with
  | agg _ arr hl h h1 =>
    refine ⟨arr, rfl, hl.symm, fun i x y hx hy => ?_⟩
    have := h i x y hx hy
    cases x <;> simp only <;> cases this <;> rfl
theorem opBin_ok (hE : EnvOk P E) {op : BinOp} {t : TypeId} {x y : AV} {u v : Value} (hx : VR E w S0 G st.ob x u) (hy : VR E w S0 G st.ob y v) (xo yo : Operand)
    {r : OpRes} (hr : opBin E op t x y = some r) (hg : r.g = true) : PureR E S0 G st.ob ((do eqGuard op t xo yo u v; binOp op t u v).run P w) w r := by
  unfold opBin at hr
  split at hr
  · rename_i k i k' j
    cases hx; cases hy
    have key : ∀ res, (binOp op t (.int k i) (.int k' j)).run P w = .ok res w → (do eqGuard op t xo yo (.int k i) (.int k' j); binOp op t (.int k i) (.int k' j)).run P w = .ok res w := fun res h => by
      rw [Sem.run_bind, eqGuard_plain op t xo yo _ _ (fun h => by cases h) (fun _ h => by cases h)]
      exact h
    split at hr
    · refine pureR_under hr hg fun hb => ⟨_, key _ ?_, .i _ _⟩
      have hb : 0 ≤ j := by simpa using hb
      simp [binOp, shift_shl_any k k' i j hb]
    · refine pureR_under hr hg fun hb => ⟨_, key _ ?_, .i _ _⟩
      have hb : 0 ≤ j := by simpa using hb
      simp [binOp, shift_shr_any k k' i j hb]
    · rename_i n1 n2
      cases hk : ikEq k k' <;> rw [hk] at hr
      · cases hr
      have : k = k' := by simpa [ikEq] using hk
      subst this
      simp only [Bool.not_true, cond_false] at hr
      split at hr
      · exact pureR hr (key _ (by simp [binOp, Op.intArith])) (.i _ _)
      · exact pureR hr (key _ (by simp [binOp, Op.intArith])) (.i _ _)
      · exact pureR hr (key _ (by simp [binOp, Op.intArith])) (.i _ _)
      · refine pureR_under hr hg fun hb => ⟨_, key _ ?_, .i _ _⟩
        have hb : ¬ j = 0 := by simpa using hb
        simp [binOp, Op.intDiv, hb]
      · refine pureR_under hr hg fun hb => ⟨_, key _ ?_, .i _ _⟩
        have hb : ¬ j = 0 := by simpa using hb
        simp [binOp, Op.intDiv, hb]
      · exact pureR hr (key _ (by simp [binOp, Op.intCmp])) (.b _)
      · exact pureR hr (key _ (by simp [binOp, Op.intCmp]; rfl)) (.b _)
      · exact pureR hr (key _ (by simp [binOp, Op.intCmp])) (.b _)
      · exact pureR hr (key _ (by simp [binOp, Op.intCmp])) (.b _)
      · exact pureR hr (key _ (by simp [binOp, Op.intCmp])) (.b _)
      · exact pureR hr (key _ (by simp [binOp, Op.intCmp])) (.b _)
      · exact pureR hr (key _ (by simp [binOp, intBits_and])) (.i _ _)
      · exact pureR hr (key _ (by simp [binOp, intBits_or])) (.i _ _)
      · exact pureR hr (key _ (by simp [binOp, intBits_xor])) (.i _ _)
      · exact pureR hr (key _ (by simp [binOp, intBits_andNot])) (.i _ _)
      · cases hr
  · rename_i i j
    cases hx; cases hy
    have key : ∀ res, (binOp op t (.string i) (.string j)).run P w = .ok res w → (do eqGuard op t xo yo (.string i) (.string j); binOp op t (.string i) (.string j)).run P w = .ok res w := fun res h => by
      rw [Sem.run_bind, eqGuard_plain op t xo yo _ _ (fun h => by cases h) (fun _ h => by cases h)]
      exact h
    split at hr
    · refine pureR_under hr hg fun hb => ⟨_, key _ ?_, .s _⟩
      have hb : i.size + j.size ≤ 9223372036854775807 := by simpa using hb
      have hb : ¬ (((i.size + j.size : Nat) : Int) > IntKind.i64.max) := by
        have : IntKind.i64.max = 9223372036854775807 := by decide
        rw [this]; omega
      simp only [binOp, Op.stringOp, if_neg hb, Sem.run_pure]
    · exact pureR hr (key _ (by simp [binOp, Op.stringOp])) (.b _)
    · exact pureR hr (key _ (by simp [binOp, Op.stringOp])) (.b _)
    · cases hr
  · rename_i i j
    cases hx; cases hy
    split at hr
    · rename_i fs by_ ht
      obtain ⟨l, hl, hu⟩ := (hE.T _ _ ht).single rfl
      cases hl
      have key : ∀ res, (binOp op t (.bool i) (.bool j)).run P w = .ok res w → (do eqGuard op t xo yo (.bool i) (.bool j); binOp op t (.bool i) (.bool j)).run P w = .ok res w := fun res h => by
        rw [Sem.run_bind, eqGuard_plain op t xo yo _ _ (fun h => by cases h) (fun _ h => by cases h)]
        exact h
      have heq := run_equal_bool w t i j hu
      split at hr
      · exact pureR hr (key _ (by simp [binOp, heq])) (.b _)
      · exact pureR hr (key _ (by simp [binOp, heq])) (.b _)
      · cases hr
    · cases hr
  · rename_i cs ds
    split at hr
    · rename_i ti ht
      cases hb : (!(E.eqT t && (avFits ti.ls cs && avFits ti.ls ds))) <;> rw [hb] at hr
      · simp only [Bool.not_eq_false', Bool.and_eq_true] at hb
        obtain ⟨hb', hf1, hf2⟩ := hb
        obtain ⟨xs, rfl, h1⟩ := scal_of hx
        obtain ⟨ys, rfl, h2⟩ := scal_of hy
        simp only [cond_false] at hr
        split at hr
        · split at hr
          · rename_i q hq
            exact pureR hr (hE.eqT t ti hb' ht w cs ds xs ys q xo yo hf1 hf2 h1 h2 hq).1 (.b _)
          · cases hr
        · split at hr
          · rename_i q hq
            exact pureR hr (hE.eqT t ti hb' ht w cs ds xs ys q xo yo hf1 hf2 h1 h2 hq).2 (.b _)
          · cases hr
        · cases hr
      · cases hr
    · cases hr
  · cases hr

theorem opUn_ok {op : UnOp} {x : AV} {v : Value} {r : OpRes} (hr : (match op, x with
    | .not, .b y => val (.b (!y))
    | .neg, .i k n => val (.i k (k.wrap (0 - n)))
    | _, _ => none) = some r) (hx : VR E w S0 G st.ob x v) : PureR E S0 G st.ob ((Op.unary op v).run P w) w r := by
  cases op <;> cases hx <;> simp only [reduceCtorEq] at hr
  · exact pureR hr (by simp [Op.unary, Op.intArith]) (.i _ _)
  · exact pureR hr (by simp [Op.unary]) (.b _)
theorem opPick_ok {c x y : AV} {vc vx vy : Value} (hc : VR E w S0 G st.ob c vc) (hx : VR E w S0 G st.ob x vx) (hy : VR E w S0 G st.ob y vy)
    {r : OpRes} (hr : opPick c x y = some r) (hg : r.g = true) : PureR E S0 G st.ob ((do pure (if ← asBool vc then vx else vy) : Sem Value).run P w) w r := by
  unfold opPick at hr
  split at hr
  · rename_i t
    cases hc
    have key : ∀ z, VR E w S0 G st.ob z (if t then vx else vy) → val z = some r → PureR E S0 G st.ob ((do pure (if ← asBool (.bool t) then vx else vy) : Sem Value).run P w) w r := fun z hz hr => pureR hr (by simp [asBool]) hz
    split at hr
    · refine key _ ?_ hr
      cases t
      · simpa using hy
      · simpa using hx
    · refine pureR_under hr hg fun hb => ?_
      have : t = false := by simpa using hb
      subst this
      exact ⟨_, by simp [asBool], hy⟩
    · refine pureR_under hr hg fun hb => ?_
      subst hb
      exact ⟨_, by simp [asBool], hx⟩
    · refine pureR_under hr hg fun hb => ?_
      have : t = false := by simpa using hb
      subst this
      exact ⟨_, by simp [asBool], hy⟩
    · refine pureR_under hr hg fun hb => ?_
      subst hb
      exact ⟨_, by simp [asBool], hx⟩
    · rename_i k i k' j
      cases hk : ikEq k k' <;> rw [hk] at hr
      · cases hr
      have : k = k' := by simpa [ikEq] using hk
      subst this
      refine key _ ?_ hr
      cases t
      · simpa using hy
      · simpa using hx
    · refine key _ ?_ hr
      cases t
      · simpa using hy
      · simpa using hx
    · cases hr
  · cases hr
theorem opMinMax_ok {k k' : IntKind} {i j : Int} {at_ : Array TypeId} {ty : TypeId} (mx : Bool) {r : OpRes} (hr : (bif ikEq k k' then val (.i k (bif mx then (bif decide (i < j) then j else i) else (bif decide (j < i) then j else i))) else none) = some r) :
    PureR E S0 G st.ob ((if mx then Builtin.max_ at_ ty #[.int k i, .int k' j] else Builtin.min_ at_ ty #[.int k i, .int k' j]).run P w) w r := by
  cases hk : ikEq k k' <;> rw [hk] at hr
  · cases hr
  have : k = k' := by simpa [ikEq] using hk
  subst this
  cases mx
  · refine pureR hr ?_ (.i _ _)
    by_cases h : j < i <;> simp [Builtin.min_, Builtin.min2, h]
  · refine pureR hr ?_ (.i _ _)
    by_cases h : i < j <;> simp [Builtin.max_, Builtin.max2, h]

/-! ## conversions -/
theorem convInt_ok {src dst : TypeId} {k k' : IntKind} {i : Int} {ks : IntKind} (hs : P.underlying src = some (.int ks)) (hd : P.underlying dst = some (.int k)) {r : OpRes} (hr : val (.i k (k.wrap i)) = some r) :
    PureR E S0 G st.ob ((convert src dst (.int k' i)).run P w) w r :=
  pureR hr (by simp [convert, run_underlying hs, run_underlying hd, Conv.intToInt]) (.i _ _)
theorem convStr_ok {src dst : TypeId} {s : ByteArray} (hs : P.underlying src = some .string) (hd : P.underlying dst = some .string) {r : OpRes} (hr : val (.s s) = some r) :
    PureR E S0 G st.ob ((convert src dst (.string s)).run P w) w r :=
  pureR hr (by simp [convert, run_underlying hs, run_underlying hd]) (.s _)
theorem foldl_push (l : List Int) (s : List UInt8) : (l.foldl (fun r n => r.push (UInt8.ofNat n.toNat)) (⟨s.toArray⟩ : ByteArray)) = ⟨(s ++ l.map fun n => UInt8.ofNat n.toNat).toArray⟩ := by
  induction l generalizing s with
  | nil => simp
  | cons x l ih =>
    simp only [List.foldl_cons, List.map_cons]
    have : (⟨s.toArray⟩ : ByteArray).push (UInt8.ofNat x.toNat) = ⟨(s ++ [UInt8.ofNat x.toNat]).toArray⟩ := by simp [ByteArray.push]
    rw [this, ih]
    simp
theorem convBytes_ok (hE : EnvOk P E) (h : RelG E base M S0 R0 w0 nt G st a w) (hlook : ∀ i x, look i = some x → getO st.ob i = some x) {src dst e : TypeId} {te : TI} (hs : P.underlying src = some (.slice e)) (he : P.underlying e = some (.int .u8))
    (hd : P.underlying dst = some .string) (hte : E.T e = some te) (hls : te.ls = [.int .u8]) {x : AV} {v : Value} (hv : VR E w S0 G st.ob x v) {e' : Option TypeId} {rows : List (List Dat)} (hsl : slOf look x = some (e', rows)) (heq : eOK e e' = true)
    {r : OpRes} (hr : val (.s (strOf rows)) = some r) : PureR E S0 G st.ob ((convert src dst v).run P w) w r := by
  have hrd := h.slOf hlook hv hsl e te hte heq
  have _ := hE
  refine pureR hr ?_ (.s _)
  cases hrd with
  | sl _ te' _ A c u ht hc hl hm hr' =>
    rw [hte] at ht; cases ht
    simp only [Dat.rows] at hc hl hm hr' ⊢
    rw [run_convert_bytes_string w src dst e A _ c hs he hd]
    cases hrows : rows with
    | nil =>
      cases A with
      | none => simp [Conv.bytesToString, strOf]; rfl
      | some ad =>
        rw [List.length_nil, run_bytesToString w ad 0 c [] (by
          rw [run_loadCells w ad 0 (fun _ => undef) (fun j hj => by omega)]; rfl)]
        rfl
    | cons r0 rs =>
      obtain ⟨ad, rfl, hsp, _, _⟩ := hm 0 0 (by rw [hrows]; simp) (by rw [hls]; simp)
      rw [← hrows]
      have hu : ∀ j, j < rows.length → u j 0 = .int .u8 ((rows.getD j []).headD default).n := fun j hj => by
        have hj' : rows[j]? = some (rows.getD j []) := by simp [List.getElem?_eq_getElem hj, List.getD]
        have := hr' j 0 _ (.int .u8) hj' (by rw [hls]; rfl)
        rw [headD_get]
        generalize u j 0 = z at this ⊢
        cases this; rfl
      rw [run_bytesToString w ad rows.length c (rows.map fun r => (r.headD default).n) (by
        rw [run_loadCells w ad rows.length (fun j => u j 0) (fun j hj => by
          obtain ⟨ad', q1, q2, q3, q4⟩ := hm j 0 hj (by rw [hls]; simp)
          cases q1
          obtain ⟨g, o, sp⟩ := ad
          simp only at hsp; subst hsp
          rw [add_at]
          simpa [hls] using q4)]
        congr 2
        apply List.ext_getElem
        · simp
        · intro i h1 h2
          simp at h1
          simp only [List.getElem_map, List.getElem_range, hu i h1]
          simp [List.getD, List.getElem?_eq_getElem h1])]
      have := foldl_push (rows.map fun r => (r.headD default).n) []
      have he : (ByteArray.empty) = (⟨([] : List UInt8).toArray⟩ : ByteArray) := rfl
      rw [he, this]
      simp [strOf, Function.comp_def]

end
end Go.Proofs.Ythjkpphjlmmkdaa.Vai
