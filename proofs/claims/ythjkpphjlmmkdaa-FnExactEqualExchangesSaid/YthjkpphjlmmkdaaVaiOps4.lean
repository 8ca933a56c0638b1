/- Operations that only compute (continued): cuts of strings and slices, numbers, comparisons; no condition. -/
import Derived.Test.YthjkpphjlmmkdaaVaiOps3
namespace Go.Proofs.Ythjkpphjlmmkdaa.Vai
open Go

section
variable {P : Program} {E : Env} {base : Nat} {M : List Nat} {S0 : Nat → Prop} {R0 : Id → Value} {w0 : World} {nt : Nat} {G : Gh} {st : St} {a : Act} {w : World} {look : Look}

/-- what the machine gives for a bound -/
def BndR (E : Env) (w : World) (S0 : Nat → Prop) (G : Gh) (ob : List (Id × Obj)) : Option AV → Option Value → Prop
  | none, none => True
  | some x, some v => VR E w S0 G ob x v
  | _, _ => False

/-! ## cuts of strings -/
theorem bound_of (k : IntKind) (i : Int) (y : Nat) (code : BoundsCode) (h0 : 0 ≤ i) (h1 : i ≤ (y : Int)) (w : World) : (Instr.sliceBound (.int k i) y code).run P w = .ok i.toNat w := by
  simp [Instr.sliceBound, asIntOf, h0, h1]
theorem opSliceS_ok {t : TypeId} (hu : P.underlying t = some .string) {s : ByteArray} {lo hi : Option AV} {vlo vhi : Option Value} (hlo : BndR E w S0 G st.ob lo vlo) (hhi : BndR E w S0 G st.ob hi vhi)
    {r : OpRes} (hr : opSliceS s lo hi = some r) (hg : r.g = true) : PureR E S0 G st.ob ((Instr.sliceAt t (.string s) vlo vhi none).run P w) w r := by
  unfold opSliceS at hr
  have hs : s.extract 0 s.size = s := by
    apply ByteArray.ext
    simp
  split at hr
  · cases vlo with
    | some _ => cases hlo
    | none =>
    cases vhi with
    | some _ => cases hhi
    | none => exact pureR hr (by simp [Instr.sliceAt, run_underlying hu, Instr.slice, Instr.sliceBounds]) (.s _)
  · rename_i kl l
    cases vhi with
    | some _ => cases hhi
    | none =>
    cases vlo with
    | none => cases hlo
    | some v =>
      cases (hlo : VR E w S0 G st.ob (.i kl l) v)
      refine pureR_under hr hg fun hb => ?_
      have ⟨l0, l1⟩ : 0 ≤ l ∧ l ≤ (s.size : Int) := by simpa using hb
      exact ⟨_, by simp [Instr.sliceAt, run_underlying hu, Instr.slice, Instr.sliceBounds, bound_of kl l s.size _ l0 l1], .s _⟩
  · rename_i kh hh
    cases vlo with
    | some _ => cases hlo
    | none =>
    cases vhi with
    | none => cases hhi
    | some v =>
      cases (hhi : VR E w S0 G st.ob (.i kh hh) v)
      refine pureR_under hr hg fun hb => ?_
      have ⟨l0, l1⟩ : 0 ≤ hh ∧ hh ≤ (s.size : Int) := by simpa using hb
      exact ⟨_, by simp [Instr.sliceAt, run_underlying hu, Instr.slice, Instr.sliceBounds, bound_of kh hh s.size _ l0 l1], .s _⟩
  · rename_i kl l kh hh
    cases vlo with
    | none => cases hlo
    | some vl =>
    cases vhi with
    | none => cases hhi
    | some vh =>
      cases (hlo : VR E w S0 G st.ob (.i kl l) vl)
      cases (hhi : VR E w S0 G st.ob (.i kh hh) vh)
      refine pureR_under hr hg fun hb => ?_
      have ⟨l0, l1, l2⟩ : 0 ≤ l ∧ l ≤ hh ∧ hh ≤ (s.size : Int) := by simpa using hb
      exact ⟨_, by simp [Instr.sliceAt, run_underlying hu, Instr.slice, Instr.sliceBounds, bound_of kh hh s.size _ (by omega) l2, bound_of kl l hh.toNat _ l0 (by omega)], .s _⟩
  · cases hr

/-! ## cuts of slices -/
theorem slice_run {t e : TypeId} {te : TI} (hu : P.underlying t = some (.slice e)) (hT : TOk P E e te) (A : Option Addr) (n c : Nat) (l h : Nat) (hl : l ≤ h) (hh : h ≤ n) (hn : n ≤ c)
    {vlo vhi : Option Value} (h1 : vlo = none ∧ l = 0 ∨ ∃ k, vlo = some (.int k l)) (h2 : vhi = none ∧ h = n ∨ ∃ k, vhi = some (.int k h)) :
    (Instr.sliceAt t (.slice A n c) vlo vhi none).run P w = .ok (.slice (if c = l then A else A.map (·.add (l * te.ls.length))) (h - l) (c - l)) w := by
  rcases h1 with ⟨rfl, rfl⟩ | ⟨kl, rfl⟩ <;> rcases h2 with ⟨rfl, rfl⟩ | ⟨kh, rfl⟩
  · simp [Instr.sliceAt, run_underlying hu, Instr.slice, Instr.sliceBounds, hT.size]
  · simp [Instr.sliceAt, run_underlying hu, Instr.slice, Instr.sliceBounds, hT.size, bound_of kh (h : Int) c _ (by omega) (by omega)]
  · simp [Instr.sliceAt, run_underlying hu, Instr.slice, Instr.sliceBounds, hT.size, bound_of kl (l : Int) h _ (by omega) (by omega)]
  · simp [Instr.sliceAt, run_underlying hu, Instr.slice, Instr.sliceBounds, hT.size, bound_of kh (h : Int) c _ (by omega) (by omega), bound_of kl (l : Int) h _ (by omega) (by omega)]

/-- the window of a window -/
theorem Win.cut {sz m : Nat} {root : Value} {lo n : Int} {A : Option Addr} {c : Nat} (h : Win sz m root lo n (.slice A n.toNat c)) (l hh : Nat) (h1 : l ≤ hh) (h2 : (hh : Int) ≤ n) :
    Win sz m root (lo + l) ((hh : Int) - l) (.slice (if c = l then A else A.map (·.add (l * sz))) (hh - l) (c - l)) := by
  obtain ⟨q0, q1, q2, A', c', he, q3⟩ := h
  cases he
  have e1 : ((hh : Int) - l).toNat = hh - l := by omega
  refine ⟨by omega, by omega, by omega, _, c - l, by rw [e1], ?_⟩
  cases root with
  | slice R rn rc =>
    cases R with
    | none =>
      simp only at q3 ⊢
      obtain ⟨rfl, rfl, rfl⟩ := q3
      exact ⟨by split <;> rfl, by omega, rfl⟩
    | some ad =>
      simp only at q3 ⊢
      obtain ⟨off', rfl, q4, q5, q6, q7⟩ := q3
      by_cases hc : c = l
      · subst hc
        simp only [if_true]
        refine ⟨off', rfl, by omega, by omega, .inl (by omega), ?_⟩
        have : off' + 0 ≤ off' + c * sz := by omega
        simp only [Nat.sub_self, Nat.zero_mul]
        omega
      · simp only [hc, if_false, Option.map_some]
        have hlc : l < c := by omega
        have q6 : off' = ad.off + lo.toNat * sz := q6.resolve_left (by omega)
        subst q6
        refine ⟨_, congrArg some (add_at _ _ _), by omega, by omega, .inr ?_, ?_⟩
        · have : (lo + (l : Int)).toNat = lo.toNat + l := by omega
          rw [this, Nat.add_mul]; omega
        · have : c * sz = l * sz + (c - l) * sz := by rw [← Nat.add_mul]; congr 1; omega
          omega
  | _ => exact q3.elim
theorem Win.whole {S : Nat → Prop} {e : TypeId} {rows : List (List Dat)} {deep : Bool} {holes : List (Int × Nat)} {root : Value} {top ins : List Nat} {te : TI} (ht : E.T e = some te)
    (h : RowR E w S e rows deep holes root top ins) : ∃ A c, root = .slice A rows.length c ∧ rows.length ≤ c ∧ Win te.ls.length rows.length root 0 rows.length root := by
  obtain ⟨te', b1, b2, b3⟩ := h
  rw [ht] at b1; cases b1
  rcases b3 with ⟨rfl, rfl, _, _⟩ | ⟨g, off, c, arr, u, bs, a1, a2, a3, a4, a5, a6, a7, a8, a9, a10⟩
  · exact ⟨none, 0, rfl, Nat.le_refl _, by omega, by simp, by simp, none, 0, by simp, rfl, rfl, rfl⟩
  · rw [a1]
    exact ⟨_, c, rfl, a4, by omega, by omega, by omega, _, c, by simp, off, rfl, by simp, by simpa using a4, .inr (by simp), Nat.le_refl _⟩
theorem RD.cut {S : Nat → Prop} {e : TypeId} {te : TI} {rows : List (List Dat)} {A : Option Addr} {n c : Nat} (h : RD E w S (.sl e) (.sl rows) (.slice A n c)) (ht : E.T e = some te) (l hh : Nat) (h1 : l ≤ hh) (h2 : hh ≤ rows.length) :
    RD E w S (.sl e) (.sl (cutRows rows l hh)) (.slice (if c = l then A else A.map (·.add (l * te.ls.length))) (hh - l) (c - l)) := by
  have hlen : (cutRows rows l hh).length = hh - l := by simp [cutRows]; omega
  have hget : ∀ (j : Nat) (r : List Dat), (cutRows rows l hh)[j]? = some r → rows[l + j]? = some r := fun j r hj => by
    simp only [cutRows] at hj
    rw [List.getElem?_take] at hj
    split at hj
    · rw [List.getElem?_drop] at hj; simpa using hj
    · cases hj
  generalize hn : n = n0 at h
  cases h with
  | sl _ te' _ _ _ u ht' hc hl hm hr =>
    rw [ht] at ht'; cases ht'
    simp only [Dat.rows] at hc hl hm hr
    have key := RD.sl (E := E) (w := w) (S := S) e te (.sl (cutRows rows l hh)) (if c = l then A else A.map (·.add (l * te.ls.length))) (c - l) (fun j i => u (l + j) i) ht
      (by simp only [Dat.rows, hlen]; omega) (fun j r hj => hl _ r (hget j r hj)) (fun j i hj hi => by
        simp only [Dat.rows, hlen] at hj
        obtain ⟨ad, rfl, q2, q3, q4⟩ := hm (l + j) i (by omega) hi
        obtain ⟨g, o, sp⟩ := ad
        simp only at q2; subst q2
        have hne : ¬ c = l := by omega
        simp only [hne, if_false, Option.map_some, add_at]
        refine ⟨_, rfl, rfl, q3, ?_⟩
        rw [← q4]
        congr 2
        rw [Nat.add_mul]
        simp only
        omega) (fun j i r l' hj hl' => hr _ i r l' (hget j r hj) hl')
    simp only [Dat.rows, hlen] at key
    exact key
theorem opCut_ok (_hE : EnvOk P E) (h : RelG E base M S0 R0 w0 nt G st a w) (hlook : ∀ i x, look i = some x → getO st.ob i = some x) {e : TypeId} {te : TI} (hte : E.T e = some te) {x : AV} {v : Value} (hv : VR E w S0 G st.ob x v)
    {rows : List (List Dat)} (hs : slOf look x = some (some e, rows)) : ∃ A c, v = .slice A rows.length c ∧ rows.length ≤ c ∧ ∀ l hh : Nat, l ≤ hh → hh ≤ rows.length →
      VR E w S0 G st.ob (opCut x l hh) (.slice (if c = l then A else A.map (·.add (l * te.ls.length))) (hh - l) (c - l)) := by
  have one : ∀ A n c, oneV (.slice A n c) := fun A n c => ⟨(fun _ h => by cases h), (fun _ h => by cases h)⟩
  cases hv with
  | nil => simp [Vai.slOf] at hs
  | own o v hr0 h1 =>
    simp only [Vai.slOf] at hs
    split at hs
    · rename_i e0 rows0 dp vr hl
      simp only [Option.some.injEq, Prod.mk.injEq] at hs
      obtain ⟨rfl, rfl⟩ := hs
      have hgo := hlook _ _ hl
      obtain ⟨A, c, q1, q2, q3⟩ := Win.whole hte (h.objs o _ hgo : RowR E w _ _ _ _ _ _ _ _)
      have hv' := hr0 _ _ _ _ _ hgo
      refine ⟨A, c, hv'.trans q1, q2, fun l hh hl' hh' => .vw _ _ _ _ (fun e rows dp vr hh0 te' hg' ht' => ?_) (one _ _ _)⟩
      rw [hgo] at hg'; cases hg'
      rw [hte] at ht'; cases ht'
      rw [q1] at q3 ⊢
      have := Win.cut (n := (rows0.length : Int)) (by simpa using q3) l hh hl' (by omega)
      simpa using this
    · cases hs
  | vw o lo n v hr0 h1 =>
    simp only [Vai.slOf] at hs
    split at hs
    · rename_i e0 rows0 dp vr hl
      simp only [Option.some.injEq, Prod.mk.injEq] at hs
      obtain ⟨rfl, rfl⟩ := hs
      have hgo := hlook _ _ hl
      have hw := hr0 _ _ _ _ _ te hgo hte
      obtain ⟨q0, q1, q2, A, c, rfl, q3⟩ := id hw
      have hlen : ((rows0.drop lo.toNat).take n.toNat).length = n.toNat := by simp; omega
      have hc : n.toNat ≤ c := by
        obtain ⟨A', c', q4, q5, q6⟩ := Win.whole hte (h.objs o _ hgo : RowR E w _ _ _ _ _ _ _ _)
        rw [q4] at q3
        cases A' with
        | none => simp only at q3; omega
        | some ad => simp only at q3; obtain ⟨_, _, _, q7, _⟩ := q3; exact q7
      refine ⟨A, c, by rw [hlen], by rw [hlen]; exact hc, fun l hh hl' hh' => .vw _ _ _ _ (fun e rows dp vr hh0 te' hg' ht' => ?_) (one _ _ _)⟩
      rw [hgo] at hg'; cases hg'
      rw [hte] at ht'; cases ht'
      rw [hlen] at hh'
      exact Win.cut hw l hh hl' (by omega)
    · cases hs
  | ro e0 al r v hrd =>
    simp only [Vai.slOf, Option.some.injEq, Prod.mk.injEq] at hs
    obtain ⟨rfl, rfl⟩ := hs
    cases hrd' : hrd with
    | sl _ te' _ A c u ht' hc hl hm hr =>
      exact ⟨A, c, rfl, hc, fun l hh hl' hh' => .ro _ _ _ _ (hrd.cut hte l hh hl' hh')⟩
  | nest o ver row col e0 whole r v hrd hn =>
    simp only [Vai.slOf, Option.some.injEq, Prod.mk.injEq] at hs
    obtain ⟨rfl, rfl⟩ := hs
    cases hrd' : hrd with
    | sl _ te' _ A c u ht' hc hl hm hr =>
      refine ⟨A, c, rfl, hc, fun l hh hl' hh' => .nest _ _ _ _ _ _ _ _ (hrd.cut hte l hh hl' hh') ⟨hn.1, fun eo rows' vr h' te1 q1 q2 q3 q4 => ?_⟩⟩
      obtain ⟨p1, p2, r1, g, o0, n, cc, x, p3, p4, p5, p6, lo, n', te2, p7, p8⟩ := hn.2 eo rows' vr h' te1 q1 q2 q3 q4
      rw [hte] at p7; cases p7
      have hn' : n'.toNat = r.length := by
        obtain ⟨_, _, _, A1, c1, e1, _⟩ := p8
        injection e1 with _ e2 _
        exact e2.symm
      refine ⟨p1, p2, r1, g, o0, n, cc, x, p3, p4, p5, fun hf => (by cases hf), _, _, te, hte, Win.cut (n := n') (by rw [hn']; exact p8) l hh hl' (by
        obtain ⟨_, b1, _, _⟩ := p8; omega)⟩
  | _ => simp [Vai.slOf] at hs
theorem opSlice_ok (hE : EnvOk P E) (h : RelG E base M S0 R0 w0 nt G st a w) (hlook : ∀ i x, look i = some x → getO st.ob i = some x) {t e : TypeId} (hu : P.underlying t = some (.slice e)) {te : TI} (hte : E.T e = some te)
    {x : AV} {v : Value} (hv : VR E w S0 G st.ob x v) {lo hi : Option AV} {vlo vhi : Option Value} (hlo : BndR E w S0 G st.ob lo vlo) (hhi : BndR E w S0 G st.ob hi vhi)
    {r : OpRes} (hr : opSlice look e x lo hi = some r) (hg : r.g = true) : PureR E S0 G st.ob ((Instr.sliceAt t v vlo vhi none).run P w) w r := by
  unfold opSlice at hr
  obtain ⟨e', rows, hs⟩ : ∃ e' rows, slOf look x = some (some e', rows) := by
    revert hr
    split
    · rename_i e' rows hs; exact fun _ => ⟨e', rows, hs⟩
    · intro hr; cases hr
  rw [hs] at hr
  simp only at hr
  obtain ⟨he, hr2⟩ := bifT hr; clear hr; have hr := hr2; clear hr2
  have he := beqT he; subst he
  obtain ⟨A, c, rfl, hc, hcut⟩ := opCut_ok hE h hlook hte hv hs
  have hT := hE.T e te hte
  split at hr
  · cases vlo with
    | some _ => cases hlo
    | none =>
    cases vhi with
    | some _ => cases hhi
    | none => exact pureR hr (slice_run hu hT A _ c 0 rows.length (by omega) (by omega) hc (.inl ⟨rfl, rfl⟩) (.inl ⟨rfl, rfl⟩)) (by simpa using hcut 0 rows.length (by omega) (by omega))
  · rename_i kl l
    cases vhi with
    | some _ => cases hhi
    | none =>
    cases vlo with
    | none => cases hlo
    | some v =>
      cases (hlo : VR E w S0 G st.ob (.i kl l) v)
      refine pureR_under hr hg fun hb => ?_
      have ⟨l0, l1⟩ : 0 ≤ l ∧ l ≤ (rows.length : Int) := by simpa using hb
      obtain ⟨l, rfl⟩ := Int.eq_ofNat_of_zero_le l0
      exact ⟨_, slice_run hu hT A _ c l rows.length (by omega) (by omega) hc (.inr ⟨kl, rfl⟩) (.inl ⟨rfl, rfl⟩), hcut l rows.length (by omega) (by omega)⟩
  · rename_i kh hh
    cases vlo with
    | some _ => cases hlo
    | none =>
    cases vhi with
    | none => cases hhi
    | some v =>
      cases (hhi : VR E w S0 G st.ob (.i kh hh) v)
      refine pureR_under hr hg fun hb => ?_
      have ⟨l0, l1⟩ : 0 ≤ hh ∧ hh ≤ (rows.length : Int) := by simpa using hb
      obtain ⟨hh, rfl⟩ := Int.eq_ofNat_of_zero_le l0
      exact ⟨_, slice_run hu hT A _ c 0 hh (by omega) (by omega) hc (.inl ⟨rfl, rfl⟩) (.inr ⟨kh, rfl⟩), by simpa using hcut 0 hh (by omega) (by omega)⟩
  · rename_i kl l kh hh
    cases vlo with
    | none => cases hlo
    | some vl =>
    cases vhi with
    | none => cases hhi
    | some vh =>
      cases (hlo : VR E w S0 G st.ob (.i kl l) vl)
      cases (hhi : VR E w S0 G st.ob (.i kh hh) vh)
      refine pureR_under hr hg fun hb => ?_
      have ⟨l0, l1, l2⟩ : 0 ≤ l ∧ l ≤ hh ∧ hh ≤ (rows.length : Int) := by simpa using hb
      obtain ⟨l, rfl⟩ := Int.eq_ofNat_of_zero_le l0
      obtain ⟨hh, rfl⟩ := Int.eq_ofNat_of_zero_le (by omega : 0 ≤ hh)
      exact ⟨_, slice_run hu hT A _ c l hh (by omega) (by omega) hc (.inr ⟨kl, rfl⟩) (.inr ⟨kh, rfl⟩), hcut l hh (by omega) (by omega)⟩
  · cases hr

end
end Go.Proofs.Ythjkpphjlmmkdaa.Vai
