/- append, as the interpreter tells it (continued); no condition. -/
import Derived.Test.YthjkpphjlmmkdaaVaiApp2
namespace Go.Proofs.Ythjkpphjlmmkdaa.Vai
open Go

theorem disjI_iff {x y : List Id} : disjI x y = true ↔ ∀ o ∈ x, o ∉ y := by
  induction x with
  | nil => simp [disjI]
  | cons o x ih =>
    simp only [disjI, Bool.and_eq_true, ih, List.mem_cons, forall_eq_or_imp]
    have : (!memId o y) = true ↔ o ∉ y := by
      rw [Bool.not_eq_true', memId_false]
    rw [this]

section
variable {P : Program} {E : Env} {base : Nat} {M : List Nat} {S0 : Nat → Prop} {R0 : Id → Value} {w0 : World} {nt : Nat} {G : Gh} {st : St} {a : Act} {w : World} {look : Look}

theorem SrcR.deepS {S D : Nat → Prop} {te : TI} {rows : List (List Dat)} {v : Value} (h : SrcR E w S D te rows true v) : SrcR E w D D te rows true v := by
  obtain ⟨B, c, u, bs, h1, h2, h3, h4⟩ := h
  exact ⟨B, c, u, bs, h1, h2, h3, ⟨h4.len, fun j i r l hj hl => (h4.ot rfl j i r l hj hl).rd (fun b hb => h4.sub j i b hb), h4.ot, h4.sub, h4.nodup, h4.disj⟩⟩
theorem DstR.of_ot {e : TypeId} {te : TI} (hte : E.T e = some te) {rows : List (List Dat)} {v : Value} {bs : List Nat} (h : OT E w (.sl e) (.sl rows) v bs) (hnd : bs.Nodup) :
    ∃ hd tl, bs = hd ++ tl ∧ ∀ S : Nat → Prop, (∀ b ∈ tl, S b) → DstR E w S (fun b => b ∈ tl) (fun b => b ∈ hd) e te rows true v := by
  cases h with
  | nil _ te' _ ht hd => exact ⟨[], [], rfl, fun S _ => .inl ⟨rfl, hd⟩⟩
  | row _ te' _ g off c arr u bs ht hb hc hs hl hm hr =>
    rw [hte] at ht; cases ht
    simp only [Dat.rows] at hc hl hm hr hnd ⊢
    have hnd' := (List.nodup_cons.mp hnd).2
    refine ⟨[g], flatB bs rows.length te.ls.length, rfl, fun S hS => .inr ⟨g, off, c, arr, u, clip rows.length te.ls.length bs, rfl, by simp, hb, hc, hs, hm, ⟨hl, fun j i r l hj hl' => ?_, fun _ j i r l hj hl' => ?_, fun j i b hb => ?_, (clip_nodup hnd').1, (clip_nodup hnd').2⟩⟩⟩
    · exact (hr j i r l hj hl').rd fun b hb => hS b (mem_flatB.mpr ⟨j, i, (List.getElem?_eq_some_iff.mp hj).1, (List.getElem?_eq_some_iff.mp hl').1, hb⟩)
    · rw [clip_in (List.getElem?_eq_some_iff.mp hj).1 (List.getElem?_eq_some_iff.mp hl').1]
      exact hr j i r l hj hl'
    · obtain ⟨c1, c2, c3⟩ := mem_clip hb
      exact mem_flatB.mpr ⟨j, i, c1, c2, c3⟩

/-- append's second argument -/
theorem src_ok (hE : EnvOk P E) (h : RelG E base M S0 R0 w0 nt G st a w) (hlook : ∀ i x, look i = some x → getO st.ob i = some x) {e : TypeId} {te : TI} (hte : E.T e = some te) {x : AV} {v : Value} (hv : VR E w S0 G st.ob x v) {g : Given}
    (hg : (bif hasSl te.ls then give look (.sl e) x else (toDat look (.sl e) x).map fun d => (⟨d, [], true⟩ : Given)) = some g) :
    SrcR E w (SOf S0 G g.ids) (DOf G g.ids) te g.d.rows g.deep v ∧ ∀ o ∈ g.ids, ∃ y, getO st.ob o = some y := by
  have _ := hE
  cases hs : hasSl te.ls <;> rw [hs] at hg
  · simp only [cond_false, Option.map_eq_some_iff] at hg
    obtain ⟨d, hd, rfl⟩ := hg
    have hrd := h.toDat hlook hv (fun e' he => by cases he; exact ⟨te, hte⟩) hd
    exact ⟨SrcR.of_scal hte hs hrd _ _, fun o ho => by cases ho⟩
  · simp only [cond_true] at hg
    obtain ⟨⟨bs, hb⟩, hl⟩ := give_ok h hlook (fun e' he => by cases he; exact ⟨te, hte⟩) hv hg
    exact ⟨SrcR.of_give hte hb, hl⟩

theorem clear_get (nw : List (Id × Obj)) {st : St} (h : RelG E base M S0 R0 w0 nt G st a w) (hpk : ∀ k ∈ keys nw, isPar k = false) : ∀ o x, getO (clearAll nw st).ob o = some x → ∃ y, getO st.ob o = some y := fun o x hx => by
  obtain ⟨_, y, hy, _⟩ := (h.clears nw hpk).2.2.2 o x hx
  exact ⟨y, hy⟩

/-- onto a row that is free, or onto nil -/
theorem appendFree (hE : EnvOk P E) (h : RelG E base M S0 R0 w0 nt G st a w) {dst : Option Nat} (hd : inB nt dst = true) {ats : Array TypeId} {ty tt t1 e e1 : TypeId} {te : TI} (ha0 : ats[0]? = some tt) (ha1 : ats[1]? = some t1) (hu : P.underlying tt = some (.slice e))
    (hu1 : P.underlying t1 = some (.slice e1)) (hte : E.T e = some te) {t : Nat} (hti : t < 1000000) {ids1 ids2 : List Id} (hnd : (ids1 ++ ids2).Nodup) (hl1 : ∀ o ∈ ids1, ∃ y, getO st.ob o = some y) (hl2 : ∀ o ∈ ids2, ∃ y, getO st.ob o = some y)
    {r1 r2 : List (List Dat)} {d1 d2 : Bool} {vs vx : Value} (hs : DstR E w (fun b => S0 b ∨ b ∈ G.F) (fun b => ∃ o ∈ ids1, b ∈ G.ins o) (fun b => ∃ o ∈ ids1, b ∈ G.top o) e te r1 d1 vs)
    (hsrc : SrcR E w (SOf S0 G ids2) (DOf G ids2) te r2 d2 vx) (hby : (r1.length + r2.length) * te.by_ ≤ maxBytes) :
    Stepped E base M S0 R0 w0 nt st a dst { v := .own (t, 0), nw := [((t, 0), .row e (r1 ++ r2) (d1 && d2) 0 [])], dl := ids1 ++ ids2 } ((Builtin.append_ ats ty #[vs, vx]).run P w) := by
  obtain ⟨n1, n2, n3⟩ := List.nodup_append.mp hnd
  obtain ⟨h1, h2, h3⟩ := h.after_dels (ids1 ++ ids2) [((t, 0), .row e (r1 ++ r2) (d1 && d2) 0 [])] (notPar1 hti 0 _)
  have live : ∀ o x, getO (clearAll [((t, 0), .row e (r1 ++ r2) (d1 && d2) 0 [])] { st with ob := delAll (ids1 ++ ids2) st.ob }).ob o = some x → o ∉ ids1 ∧ o ∉ ids2 ∧ ∃ y, getO st.ob o = some y := fun o x hx => by
    obtain ⟨_, q1, y, q2, _⟩ := h3 o x hx
    rw [List.mem_append, not_or] at q1
    exact ⟨q1.1, q1.2, y, q2⟩
  have mono : ∀ {S S' D T : Nat → Prop}, (∀ b, S b → S' b) → DstR E w S D T e te r1 d1 vs → DstR E w S' D T e te r1 d1 vs := fun hm hd => by
    rcases hd with hd | ⟨g, off, c, arr, u, bs, q1, q2, q3, q4, q5, q6, q7⟩
    · exact .inl hd
    · exact .inr ⟨g, off, c, arr, u, bs, q1, q2, q3, q4, q5, q6, ⟨q7.len, fun j i r l hj hl => (q7.rd j i r l hj hl).mono hm, q7.ot, q7.sub, q7.nodup, q7.disj⟩⟩
  obtain ⟨v', w', G', f1, f2, f3⟩ := h1.appendTo hE (h2 (t, 0) (by simp [keys])) (ty := ty) ha0 ha1 hu hu1 hte (fl := ids2.flatMap G.top) (T := fun b => ∃ o ∈ ids1, b ∈ G.top o)
    (fun b hb => by
      obtain ⟨o, ho, hb⟩ := List.mem_flatMap.mp hb
      obtain ⟨y, hy⟩ := hl2 o ho
      obtain ⟨q1, q2, q3⟩ := h.tops o y hy b hb
      refine ⟨q1, q3, h.top_lt hy b hb, fun o' x' hx' => ?_⟩
      obtain ⟨r1', r2', y', r3⟩ := live o' x' hx'
      exact ⟨h.tops2 o y o' y' hy r3 (fun e => r2' (e ▸ ho)) b hb, fun hb' => q2 ((h.ins o' y' r3).1 b hb')⟩)
    (fun b ⟨o, ho, hb⟩ => by
      obtain ⟨y, hy⟩ := hl1 o ho
      obtain ⟨q1, q2, q3⟩ := h.tops o y hy b hb
      refine ⟨q1, q2, fun hb' => ?_, q3, fun o' x' hx' => ?_⟩
      · obtain ⟨o', ho', hb'⟩ := List.mem_flatMap.mp hb'
        obtain ⟨y', hy'⟩ := hl2 o' ho'
        exact h.tops2 o y o' y' hy hy' (n3 o ho o' ho') b hb hb'
      · obtain ⟨r1', r2', y', r3⟩ := live o' x' hx'
        exact h.tops2 o y o' y' hy r3 (fun e => r1' (e ▸ ho)) b hb)
    (fun b hb => by
      rcases hb with ⟨o, ho, hb⟩ | ⟨o, ho, hb⟩
      · obtain ⟨y, hy⟩ := hl1 o ho
        refine ⟨.inl ((h.ins o y hy).1 b hb), fun o' x' hx' => ?_⟩
        obtain ⟨r1', r2', y', r3⟩ := live o' x' hx'
        exact h.ins2 o y o' y' hy r3 (fun e => r1' (e ▸ ho)) b hb
      · obtain ⟨y, hy⟩ := hl2 o ho
        refine ⟨hb.elim (fun hb => .inr (List.mem_flatMap.mpr ⟨o, ho, hb⟩)) (fun hb => .inl ((h.ins o y hy).1 b hb)), fun o' x' hx' hb' => ?_⟩
        obtain ⟨r1', r2', y', r3⟩ := live o' x' hx'
        exact h.apart hy r3 (fun e => r2' (e ▸ ho)) hb (.inr hb'))
    (fun b ⟨o, ho, hb⟩ ⟨o', ho', hb'⟩ => by
      obtain ⟨y, hy⟩ := hl1 o ho
      obtain ⟨y', hy'⟩ := hl2 o' ho'
      exact h.apart hy hy' (n3 o ho o' ho') (.inr hb) hb')
    (fun b hb ⟨o', ho', hb'⟩ => by
      obtain ⟨y', hy'⟩ := hl1 o' ho'
      rcases hb with ⟨o, ho, hb⟩ | ⟨o, ho, hb⟩
      · obtain ⟨y, hy⟩ := hl1 o ho
        exact (h.tops o' y' hy' b hb').2.1 ((h.ins o y hy).1 b hb)
      · obtain ⟨y, hy⟩ := hl2 o ho
        exact h.apart hy hy' (fun e => n3 o' ho' o ho e.symm) hb (.inl hb'))
    (S := SOf S0 G ids2) (fun b hb => hb.imp id fun hb => hb.imp id fun ⟨o, ho, hb⟩ => List.mem_flatMap.mpr ⟨o, ho, hb⟩)
    (mono (fun b hb => hb.imp id .inl) hs) hsrc hby
  refine ⟨v', w', f1, ?_⟩
  rw [applyD_eq]
  exact ⟨G', f2.putO hd f3⟩

theorem opAppend_ok (hE : EnvOk P E) (h : RelG E base M S0 R0 w0 nt G st a w) (hlook : ∀ i x, look i = some x → getO st.ob i = some x) {dst : Option Nat} (hd : inB nt dst = true) {ats : Array TypeId} {ty tt t1 e e1 : TypeId} (ha0 : ats[0]? = some tt) (ha1 : ats[1]? = some t1)
    (hu : P.underlying tt = some (.slice e)) (hu1 : P.underlying t1 = some (.slice e1)) {t : Nat} (hti : t < 1000000) {s x : AV} {vs vx : Value} (hs : VR E w S0 G st.ob s vs) (hx : VR E w S0 G st.ob x vx) {r : OpRes} (hr : opAppend E look t e s x = some r) (hg : r.g = true) :
    r.o = some [] ∧ Stepped E base M S0 R0 w0 nt st a dst (r.f []) ((Builtin.append_ ats ty #[vs, vx]).run P w) := by
  unfold opAppend at hr
  split at hr
  · cases hr
  · rename_i te hte
    split at hr
    · cases hr
    · rename_i d hd'
      split at hr
      · cases hr
      · rename_i g hgv
        obtain ⟨hsrc, hlive2⟩ := src_ok hE h hlook hte hx hgv
        rcases Bool.eq_false_or_eq_true (!nodupId (d.ids ++ g.ids) || ((!g.deep && !d.up.isEmpty) || !disjI (keys d.up) g.ids)) with hb | hb <;> rw [hb] at hr
        · cases hr
        simp only [cond_false, under, Option.some.injEq] at hr
        subst hr
        simp only [Bool.or_eq_false_iff, Bool.not_eq_false'] at hb
        obtain ⟨hnd, hdeep, hdis⟩ := hb
        have hnd := nodupId_iff.mp hnd
        have hby : (d.rows.length + g.d.rows.length) * te.by_ ≤ maxBytes := by simpa using hg
        refine ⟨rfl, ?_⟩
        cases hs with
        | nil =>
          simp only [dstOf, Option.some.injEq] at hd'
          subst hd'
          exact appendFree hE h hd ha0 ha1 hu hu1 hte hti (ids1 := []) (r1 := []) (d1 := true) hnd (fun o ho => by cases ho) hlive2 (.inl ⟨rfl, rfl⟩) hsrc hby
        | own o v hr0 h1 =>
          simp only [dstOf] at hd'
          split at hd'
          · rename_i e' rows dp vr hlk
            obtain ⟨he, hd2⟩ := bifT hd'
            have he := beqT he; subst he
            simp only [Option.some.injEq] at hd2
            subst hd2
            have hgo := hlook _ _ hlk
            obtain ⟨A, c, q1, q2, q3⟩ := Win.whole hte (h.objs o _ hgo : RowR E w _ _ _ _ _ _ _ _)
            have hdst := h.dst_row hte hgo q3
            simp only [Int.toNat_zero, List.drop_zero, Int.toNat_natCast, List.take_length] at hdst
            rw [hr0 _ _ _ _ _ hgo]
            refine appendFree hE h hd ha0 ha1 hu hu1 hte hti (ids1 := [o]) hnd (fun o' ho' => by simp at ho'; subst ho'; exact ⟨_, hgo⟩) hlive2 ?_ hsrc hby
            simpa using hdst
          · cases hd'
        | vw o lo n v hr0 h1 =>
          simp only [dstOf] at hd'
          split at hd'
          · rename_i e' rows dp vr hlk
            obtain ⟨he, hd2⟩ := bifT hd'
            have he := beqT he; subst he
            simp only [Option.some.injEq] at hd2
            subst hd2
            have hgo := hlook _ _ hlk
            have hdst := h.dst_row hte hgo (hr0 _ _ _ _ _ te hgo hte)
            refine appendFree hE h hd ha0 ha1 hu hu1 hte hti (ids1 := [o]) hnd (fun o' ho' => by simp at ho'; subst ho'; exact ⟨_, hgo⟩) hlive2 ?_ hsrc hby
            simpa using hdst
          · cases hd'
        | nest o ver row col e' whole rows v hrd hn =>
          simp only [dstOf] at hd'
          split at hd'
          · rename_i eo rowso dp ver' holes hlk
            obtain ⟨he, hd2⟩ := bifT hd'
            simp only [Bool.and_eq_true, Bool.not_eq_true'] at he
            obtain ⟨he1, he2, he3, he4⟩ := he
            have he1 := beqT he1; subst he1
            have he2 := beqT he2; subst he2
            subst he3
            simp only [Option.some.injEq] at hd2
            subst hd2
            have hgo := hlook _ _ hlk
            simp only [keys, disjI_iff, List.mem_singleton, forall_eq] at hdis
            simp only [List.isEmpty_cons, Bool.not_false, Bool.and_true] at hdeep
            have hdeep : g.deep = true := by simpa using hdeep
            simp only [List.nil_append] at hnd
            have hnh : ∀ q, (q, col) ∉ holes := fun q hq => by
              have : ∀ hs : List (Int × Nat), (q, col) ∈ hs → colIn col 1 hs = true := fun hs => by
                induction hs with
                | nil => intro hh; cases hh
                | cons p hs ih =>
                  intro hh
                  obtain ⟨p1, p2⟩ := p
                  simp only [colIn]
                  rcases List.mem_cons.mp hh with hh | hh
                  · cases hh
                    have c1 : Nat.ble col col = true := Nat.ble_eq.mpr (by omega)
                    have c2 : Nat.blt col (col + 1) = true := Nat.ble_eq.mpr (by omega)
                    simp [c1, c2]
                  · rw [ih hh]; cases (Nat.ble col p2 && Nat.blt p2 (col + 1)) <;> rfl
              rw [this holes hq] at he4; cases he4
            obtain ⟨teo, hteo, _⟩ := (h.objs o _ hgo : RowR E w _ eo rowso true holes _ _ _)
            obtain ⟨hr0, hcol, rr, gb, o0, n, cc, xv, hrow, hroot, hcell, _, lo, n', te', hte', hwin⟩ := hn.2 eo rowso ver holes teo hgo rfl hnh hteo
            rw [hte] at hte'; cases hte'
            have h1 := (h.dels g.ids).numb G.F (fun _ hb => hb) (fun o' e' rows' v' hh hg' b hb => ((h.dels g.ids).ins o' _ hg').1 b hb)
            have hgo1 : getO (numbO (delAll g.ids st.ob)) o = some (.row eo rowso true ver holes) := by
              rw [getO_numbO, getO_delAll, if_neg hdis, hgo]; rfl
            obtain ⟨G2, bsC, k1, k2, k3, k4, k5, k6, k7, k8, k9⟩ := h1.hole (numbT_idem _) (numbO_numb _) hteo hgo1 hr0 hcol hrow hnh hroot hcell
            obtain ⟨bs', o1, o2, o3⟩ := OT.window hte (k2.sl_dat (d' := .sl (rr.getD col default).rows) rfl) k3 hwin
            have o1 : OT E w (.sl e) (.sl rows) vs bs' := OT.of_rd o1 hrd
            obtain ⟨hdl, tl, rfl, hdst⟩ := DstR.of_ot hte o1 o2
            obtain ⟨m1, m2, m3⟩ := List.nodup_append.mp o2
            rw [hdeep] at hsrc
            have hsrc := hsrc.deepS
            have hinso := h.ins o _ hgo
            have hbsC : ∀ b, b ∈ bsC → b ∈ G.ins o := fun b hb => (k4 b hb).1
            have hF : ∀ b, b ∈ bsC → ¬ S0 b ∧ (base ≤ b ∨ b ∈ M) ∧ b < w.heap.size ∧ b ∈ G.F := fun b hb => by
              have := hinso.1 b (hbsC b hb)
              obtain ⟨q1, q2, q3⟩ := h.F b this
              exact ⟨q1, q2, q3, this⟩
            -- what lives at last
            let st2 : St := { tm := numbT st.tm, ob := setO (numbO (delAll g.ids st.ob)) o (.row eo rowso true ver ((row, col) :: holes)) }
            have live2 : ∀ o' y, getO st2.ob o' = some y → o' ∉ g.ids ∧ ∃ z, getO st.ob o' = some z := fun o' y hy => by
              simp only [st2, getO_setO] at hy
              split at hy
              · rename_i e0; subst e0; exact ⟨hdis, _, hgo⟩
              · rw [getO_numbO, getO_delAll] at hy
                split at hy
                · cases hy
                · rename_i hn2
                  cases hz : getO st.ob o' with
                  | none => rw [hz] at hy; cases hy
                  | some z => exact ⟨hn2, z, rfl⟩
            have live : ∀ o' y, getO (clearAll [((t, 0), .row e (rows ++ g.d.rows) (true && true) 0 [])] st2).ob o' = some y → o' ∉ g.ids ∧ (∃ z, getO st.ob o' = some z) ∧ ∃ z, getO st2.ob o' = some z := fun o' y hy => by
              obtain ⟨z, hz⟩ := clear_get _ k1 (notPar1 hti 0 _) o' y hy
              exact ⟨(live2 o' z hz).1, (live2 o' z hz).2, z, hz⟩
            have hno := (k1.clears [((t, 0), .row e (rows ++ g.d.rows) (true && true) 0 [])] (notPar1 hti 0 _)).2.1 (t, 0) (by simp [keys])
            have hk := (k1.clears [((t, 0), .row e (rows ++ g.d.rows) (true && true) 0 [])] (notPar1 hti 0 _)).1
            have hinsG : ∀ o' b, b ∈ G2.ins o' → b ∈ G.ins o' := fun o' b hb => by
              by_cases e0 : o' = o
              · subst e0; exact k9 b hb
              · rw [k8 o' e0] at hb; exact hb
            have hDfl : ∀ b, DOf G g.ids b → b ∉ bsC ∧ (b ∈ G2.F ∨ b ∈ g.ids.flatMap G.top) := fun b ⟨o', ho', hb⟩ => by
              obtain ⟨y, hy⟩ := hlive2 o' ho'
              have hne : o ≠ o' := fun e0 => hdis (e0 ▸ ho')
              have hnb : b ∉ bsC := fun hb' => h.apart hgo hy hne (.inr (hbsC b hb')) hb
              refine ⟨hnb, ?_⟩
              rcases hb with hb | hb
              · exact .inr (List.mem_flatMap.mpr ⟨o', ho', hb⟩)
              · exact .inl ((k5 b ((h.ins o' y hy).1 b hb)).resolve_right hnb)
            obtain ⟨v', w', G', f1, f2, f3⟩ := hk.appendTo hE hno (ty := ty) ha0 ha1 hu hu1 hte (fl := g.ids.flatMap G.top ++ tl) (T := fun b => b ∈ hdl) (D1 := fun b => b ∈ tl) (D2 := DOf G g.ids)
              (fun b hb => by
                rcases List.mem_append.mp hb with hb | hb
                · obtain ⟨o', ho', hb⟩ := List.mem_flatMap.mp hb
                  obtain ⟨y, hy⟩ := hlive2 o' ho'
                  obtain ⟨q1, q2, q3⟩ := h.tops o' y hy b hb
                  refine ⟨q1, q3, h.top_lt hy b hb, fun o'' y' hy' => ?_⟩
                  obtain ⟨r1, ⟨z, r2⟩, _⟩ := live o'' y' hy'
                  refine ⟨fun hb' => ?_, fun hb' => q2 ((h.ins o'' z r2).1 b (hinsG o'' b hb'))⟩
                  rw [(k7 o'').2] at hb'
                  exact h.tops2 o' y o'' z hy r2 (fun e0 => r1 (e0 ▸ ho')) b hb hb'
                · have hbC := o3 b (List.mem_append.mpr (.inr hb))
                  obtain ⟨q1, q2, q3, q4⟩ := hF b hbC
                  refine ⟨q1, q2, q3, fun o'' y' hy' => ?_⟩
                  obtain ⟨_, _, z, r3⟩ := live o'' y' hy'
                  exact (k4 b hbC).2.2 o'' z r3)
              (fun b hb => by
                have hbC := o3 b (List.mem_append.mpr (.inl hb))
                obtain ⟨q1, q2, q3, q4⟩ := hF b hbC
                refine ⟨q1, (k4 b hbC).2.1, fun hb' => ?_, q2, fun o'' y' hy' => ?_⟩
                · rcases List.mem_append.mp hb' with hb' | hb'
                  · obtain ⟨o', ho', hb'⟩ := List.mem_flatMap.mp hb'
                    obtain ⟨y, hy⟩ := hlive2 o' ho'
                    exact (h.tops o' y hy b hb').2.1 q4
                  · exact m3 b hb b hb' rfl
                · obtain ⟨_, _, z, r3⟩ := live o'' y' hy'
                  exact ((k4 b hbC).2.2 o'' z r3).1)
              (fun b hb => by
                rcases hb with hb | hb
                · refine ⟨.inr (List.mem_append.mpr (.inr hb)), fun o'' y' hy' => ?_⟩
                  obtain ⟨_, _, z, r3⟩ := live o'' y' hy'
                  exact ((k4 b (o3 b (List.mem_append.mpr (.inr hb)))).2.2 o'' z r3).2
                · obtain ⟨s1, s2⟩ := hDfl b hb
                  refine ⟨s2.imp id fun hb => List.mem_append.mpr (.inl hb), fun o'' y' hy' hb' => ?_⟩
                  obtain ⟨r1, ⟨z, r2⟩, _⟩ := live o'' y' hy'
                  obtain ⟨o', ho', hb⟩ := hb
                  obtain ⟨y, hy⟩ := hlive2 o' ho'
                  exact h.apart hy r2 (fun e0 => r1 (e0 ▸ ho')) hb (.inr (hinsG o'' b hb')))
              (fun b hb hb' => (hDfl b hb').1 (o3 b (List.mem_append.mpr (.inr hb))))
              (fun b hb hb' => by
                rcases hb with hb | hb
                · exact m3 b hb' b hb rfl
                · exact (hDfl b hb).1 (o3 b (List.mem_append.mpr (.inl hb'))))
              (S := fun b => S0 b ∨ b ∈ G2.F ∨ b ∈ g.ids.flatMap G.top ++ tl) (fun b hb => hb)
              (hdst _ (fun b hb => .inr (.inr (List.mem_append.mpr (.inr hb)))))
              (by
                obtain ⟨B, c, u, bs, s1, s2, s3, s4⟩ := hsrc
                exact ⟨B, c, u, bs, s1, s2, s3, ⟨s4.len, fun j i r l hj hl => (s4.rd j i r l hj hl).mono (fun b hb => .inr ((hDfl b hb).2.imp id fun hb => List.mem_append.mpr (.inl hb))), s4.ot, s4.sub, s4.nodup, s4.disj⟩⟩) hby
            refine ⟨v', w', f1, ?_⟩
            rw [applyD_eq]
            simp only [hdeep]
            exact ⟨G', f2.putO hd f3⟩
          · cases hd'
        | _ => simp [dstOf] at hd'

end
end Go.Proofs.Ythjkpphjlmmkdaa.Vai
