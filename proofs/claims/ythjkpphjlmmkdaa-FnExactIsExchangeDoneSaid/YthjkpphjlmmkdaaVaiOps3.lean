/- Operations that only compute (continued): addresses, windows, strings, numbers; no condition. -/
import Derived.Test.YthjkpphjlmmkdaaVaiOps2
namespace Go.Proofs.Ythjkpphjlmmkdaa.Vai
open Go

section
variable {P : Program} {E : Env} {base : Nat} {M : List Nat} {S0 : Nat → Prop} {R0 : Id → Value} {w0 : World} {nt : Nat} {G : Gh} {st : St} {a : Act} {w : World} {look : Look}

theorem bifT {α : Type} {b : Bool} {x : Option α} {y : α} (h : (bif b then x else none) = some y) : b = true ∧ x = some y := by
  cases b
  · cases h
  · exact ⟨rfl, h⟩
theorem add_at (g o i : Nat) : (⟨g, o, none⟩ : Addr).add i = ⟨g, o + i, none⟩ := by unfold Addr.add; split <;> simp_all

/-! ## a field's address, a field -/
theorem fieldPlace_of {s : TypeId} {ti : TI} (hE : EnvOk P E) (h : TOk P E s ti) {f fo : Nat} {ft : TypeId} (hf : ti.fs[f]? = some (fo, ft)) (ha : ti.agg = true) (g o : Nat) :
    (Instr.fieldAt s (.pointer (some ⟨g, o, none⟩)) f).run P w = .ok (.pointer (some ⟨g, o + fo, none⟩)) w := by
  obtain ⟨fields, hu, hfs⟩ := h.struct ha
  rw [← hfs] at hf
  simp only [List.getElem?_map, Option.map_eq_some_iff, Prod.mk.injEq] at hf
  obtain ⟨fd, hfd, rfl, rfl⟩ := hf
  obtain ⟨fi, hfi, _⟩ := h.fld f fd.offset fd.type (by rw [← hfs]; simp [hfd])
  have hsz := (hE.T _ _ hfi).size w
  have hpos : ¬ fi.ls.length = 0 := by have := (hE.T _ _ hfi).pos.1; omega
  have hfd' : fields[f]? = some fd := by simpa using hfd
  simp only [Instr.fieldAt, Sem.run_bind, run_underlying hu, Result.andThen_ok, hfd', Instr.sureAddr, Sem.run_pure, fieldPlace, hsz, hpos, if_false, Sem.run_ite, add_at]

theorem VR.one_of {ob : List (Id × Obj)} {x : AV} {v : Value} (h : VR E w S0 G ob x v) (h1 : ∀ cs, x ≠ .agg cs) (h2 : ∀ vs, x ≠ .tup vs) (h3 : x ≠ .dead) : oneV v := by
  cases h with
  | dead => exact absurd rfl h3
  | agg cs => exact absurd rfl (h1 cs)
  | tup vs => exact absurd rfl (h2 vs)
  | ro e al rows v h => exact h.one
  | own o v h h1 => exact h1
  | vw o lo n v h h1 => exact h1
  | nest o ver row col e whole rows v h hn => exact h.one
  | ptr o row off v h h1 => exact h1
  | _ => exact ⟨(fun _ h => by cases h), (fun _ h => by cases h)⟩

/-- a pointer that the machine has: to a live object, or to a cell that can be read -/
theorem opField_ok (hE : EnvOk P E) {s : TypeId} {ti : TI} (ht : E.T s = some ti) {f fo : Nat} {ft : TypeId} (hf : ti.fs[f]? = some (fo, ft)) {o : Id} {row : Int} {off : Nat} {v : Value}
    (hv : VR E w S0 G st.ob (.ptr o row off) v) (hlive : ∃ x, getO st.ob o = some x) (h : RelG E base M S0 R0 w0 nt G st a w) (ha : ti.agg = true) :
    ∃ v', (Instr.fieldAt s v f).run P w = .ok v' w ∧ VR E w S0 G st.ob (.ptr o row (off + fo)) v' := by
  cases hv with
  | ptr _ _ _ _ hp h1 =>
    obtain ⟨x, hx⟩ := hlive
    have key : ∀ g o', v = .pointer (some ⟨g, o', none⟩) → (Instr.fieldAt s v f).run P w = .ok (.pointer (some ⟨g, o' + fo, none⟩)) w := fun g o' e => by
      subst e; exact fieldPlace_of hE (hE.T _ _ ht) hf ha g o'
    cases x with
    | box t cells =>
      obtain ⟨h0, g, hr, hv⟩ := hp.1 _ _ hx
      refine ⟨_, key g off hv, .ptr _ _ _ _ ⟨fun t' c' hx' => ?_, fun e rows dp vr hh te hx' _ => ?_⟩ ⟨(fun _ h => by cases h), (fun _ h => by cases h)⟩⟩
      · exact ⟨h0, g, hr, rfl⟩
      · rw [hx] at hx'; cases hx'
    | row e rows dp vr hh =>
      obtain ⟨te, b1, _⟩ := (h.objs o _ hx : RowR E w _ e rows dp hh _ _ _)
      obtain ⟨q1, q2, g, o0, n, c, q3, q4⟩ := hp.2 _ _ _ _ _ te hx b1
      refine ⟨_, key g _ q4, .ptr _ _ _ _ ⟨fun t' c' hx' => ?_, fun e rows dp vr hh te' hx' hte' => ?_⟩ ⟨(fun _ h => by cases h), (fun _ h => by cases h)⟩⟩
      · rw [hx] at hx'; cases hx'
      · rw [hx] at hx'; cases hx'
        rw [b1] at hte'; cases hte'
        exact ⟨q1, q2, g, o0, n, c, q3, by rw [Nat.add_assoc, Nat.add_assoc]⟩

/-! ## an element's address -/
theorem indexAt_of {t e : TypeId} {te : TI} (hu : P.underlying t = some (.slice e)) (hT : TOk P E e te) (k : IntKind) (n : Int) (g o len c : Nat) (h0 : 0 ≤ n) (h1 : n < (len : Int)) :
    (Instr.indexAt t (.slice (some ⟨g, o, none⟩) len c) (.int k n)).run P w = .ok (.pointer (some ⟨g, o + n.toNat * te.ls.length, none⟩)) w := by
  simp only [Instr.indexAt, asIntOf, Sem.run_bind, Sem.run_pure, Result.andThen_ok, run_underlying hu]
  have : 0 ≤ n ∧ n < (len : Int) := ⟨h0, h1⟩
  simp [this, hT.size, add_at]

theorem opIndexAddr_ok (hE : EnvOk P E) (h : RelG E base M S0 R0 w0 nt G st a w) (hlook : ∀ i x, look i = some x → getO st.ob i = some x) {t e : TypeId} (hu : P.underlying t = some (.slice e)) {te : TI} (hte : E.T e = some te)
    {x : AV} {v : Value} {k : IntKind} {n : Int} (hv : VR E w S0 G st.ob x v) {r : OpRes} (hr : opIndexAddr look e x n = some r) (hg : r.g = true) :
    PureR E S0 G st.ob ((Instr.indexAt t v (.int k n)).run P w) w r := by
  have hT := hE.T e te hte
  have hb : ∀ m : Nat, (decide (0 ≤ n) && decide (n < (m : Int))) = true → 0 ≤ n ∧ n < (m : Int) := fun m hm => by simpa using hm
  -- out of what can be read
  have rd : ∀ (al : Bool) (rows : List (List Dat)), RD E w (fun b => S0 b ∨ (al = true ∧ b ∈ G.F)) (.sl e) (.sl rows) v → 0 ≤ n → n < (rows.length : Int) →
      ∃ v', (Instr.indexAt t v (.int k n)).run P w = .ok v' w ∧ VR E w S0 G st.ob (.pro e al (rows.getD n.toNat []) 0) v' := fun al rows hrd h0 h1 => by
    cases hrd with
    | sl _ te' _ A c u ht' hc hl hm hr' =>
      rw [hte] at ht'; cases ht'
      simp only [Dat.rows] at hc hl hm hr' ⊢
      have hn : n.toNat < rows.length := by omega
      have hrow : rows[n.toNat]? = some (rows.getD n.toNat []) := by simp [List.getElem?_eq_getElem hn, List.getD]
      obtain ⟨ad, rfl, hsp, _, _⟩ := hm n.toNat 0 hn hT.pos.1
      obtain ⟨g, o0, sp⟩ := ad
      simp only at hsp; subst hsp
      refine ⟨_, indexAt_of hu hT k n g o0 rows.length c h0 h1, ?_⟩
      have := VR.pro (E := E) (w := w) (S0 := S0) (G := G) (ob := st.ob) e te al (rows.getD n.toNat []) 0 g (o0 + n.toNat * te.ls.length) (fun i => u n.toNat i) hte (hl _ _ hrow) (fun i hi => by
        obtain ⟨ad, q1, q2, q3, q4⟩ := hm n.toNat i hn hi
        cases q1
        exact ⟨q3, by rw [Nat.add_assoc]; exact q4⟩) (fun i l hl' => hr' n.toNat i _ l hrow hl')
      simpa using this
  cases hv with
  | own o v hr0 h1 =>
    simp only [opIndexAddr] at hr
    split at hr
    · rename_i e0 rows dp vr hh hl
      have hgo := hlook _ _ hl
      obtain ⟨he, hr2⟩ := bifT hr; clear hr; have hr := hr2; clear hr2
      have he := beqT he; subst he
      refine pureR_under hr hg fun hb' => ?_
      obtain ⟨n0, n1⟩ := hb _ hb'
      rw [hr0 _ _ _ _ _ hgo]
      obtain ⟨te', b1, b2, b3⟩ := (h.objs o _ hgo : RowR E w _ e rows dp hh _ _ _)
      rw [hte] at b1; cases b1
      rcases b3 with ⟨b3, b4, _⟩ | ⟨g, off, c, arr, u, bs, a1, a2, a3, a4, a5, a6, a7, a8, a9, a10⟩
      · subst b4; simp at n1; omega
      · rw [a1]
        refine ⟨_, indexAt_of hu hT k n g off rows.length c n0 n1, .ptr _ _ _ _ ⟨fun t' c' hx' => ?_, fun e rows' dp vr hh te' hx' hte' => ?_⟩ ⟨(fun _ h => by cases h), (fun _ h => by cases h)⟩⟩
        · rw [hgo] at hx'; cases hx'
        · rw [hgo] at hx'; cases hx'
          rw [hte] at hte'; cases hte'
          exact ⟨n0, by omega, g, off, _, c, a1, by simp⟩
    · cases hr
  | vw o lo m v hr0 h1 =>
    simp only [opIndexAddr] at hr
    split at hr
    · rename_i e0 rows dp vr hh hl
      have hgo := hlook _ _ hl
      obtain ⟨he, hr2⟩ := bifT hr; clear hr; have hr := hr2; clear hr2
      have he := beqT he; subst he
      refine pureR_under hr hg fun hb' => ?_
      have ⟨n0, n1⟩ : 0 ≤ n ∧ n < m := by simpa using hb'
      obtain ⟨l0, l1, l2, A', c', rfl, l3⟩ := hr0 _ _ _ _ _ te hgo hte
      obtain ⟨te', b1, b2, b3⟩ := (h.objs o _ hgo : RowR E w _ e rows dp hh _ _ _)
      rw [hte] at b1; cases b1
      rcases b3 with ⟨b3, b4, _⟩ | ⟨g, off, c, arr, u, bs, a1, a2, a3, a4, a5, a6, a7, a8, a9, a10⟩
      · subst b4; simp at l2; omega
      · rw [a1] at l3
        simp only at l3
        obtain ⟨off', rfl, l4, l5, l6, l7⟩ := l3
        have l6 : off' = off + lo.toNat * te.ls.length := l6.resolve_left (by omega)
        subst l6
        refine ⟨_, indexAt_of hu hT k n g _ m.toNat c' n0 (by omega), .ptr _ _ _ _ ⟨fun t' c' hx' => ?_, fun e rows' dp vr hh te' hx' hte' => ?_⟩ ⟨(fun _ h => by cases h), (fun _ h => by cases h)⟩⟩
        · rw [hgo] at hx'; cases hx'
        · rw [hgo] at hx'; cases hx'
          rw [hte] at hte'; cases hte'
          refine ⟨by omega, by omega, g, off, _, c, a1, ?_⟩
          have : (lo + n).toNat = lo.toNat + n.toNat := by omega
          rw [this, Nat.add_mul]
          simp [Nat.add_assoc]
    · cases hr
  | ro e0 al rows v hrd =>
    simp only [opIndexAddr] at hr
    obtain ⟨he, hr2⟩ := bifT hr; clear hr; have hr := hr2; clear hr2
    have he := beqT he; subst he
    have hr' := hr
    simp only [under, Option.some.injEq] at hr'
    subst hr'
    obtain ⟨n0, n1⟩ := hb _ hg
    obtain ⟨v', q1, q2⟩ := rd al rows hrd n0 n1
    exact ⟨_, v', rfl, rfl, q1, q2⟩
  | nest o ver row col e0 whole rows v hrd hn =>
    simp only [opIndexAddr] at hr
    obtain ⟨he, hr2⟩ := bifT hr; clear hr; have hr := hr2; clear hr2
    have he := beqT he; subst he
    have hr' := hr
    simp only [under, Option.some.injEq] at hr'
    subst hr'
    obtain ⟨n0, n1⟩ := hb _ hg
    obtain ⟨v', q1, q2⟩ := rd true rows (hrd.mono fun b hb => hb.imp id fun hb => ⟨rfl, hb⟩) n0 n1
    exact ⟨_, v', rfl, rfl, q1, q2⟩
  | _ => simp [opIndexAddr] at hr
end
end Go.Proofs.Ythjkpphjlmmkdaa.Vai
