/- A loop's head: objects told anew; no condition. -/
import Derived.Test.YthjkpphjlmmkdaaVaiCallP
namespace Go.Proofs.Ythjkpphjlmmkdaa.Vai
open Go

def InR (ρ : List (Id × Id)) (o o' : Id) : Prop := (o, o') ∈ ρ
theorem newId_in {ρ : List (Id × Id)} {o o' : Id} (h : newId ρ o = some o') : InR ρ o o' := by
  induction ρ with
  | nil => cases h
  | cons p r ih =>
    obtain ⟨k, v⟩ := p
    simp only [newId] at h
    cases hk : idEq k o <;> rw [hk] at h
    · exact List.mem_cons_of_mem _ (ih h)
    · simp only [cond_true, Option.some.injEq] at h
      rw [← idEq_iff.mp hk, ← h]
      exact List.mem_cons_self
theorem mem_snds {ρ : List (Id × Id)} {o o' : Id} (h : InR ρ o o') : o' ∈ snds ρ := by
  induction ρ with
  | nil => cases h
  | cons p r ih =>
    obtain ⟨k, v⟩ := p
    simp only [snds, List.mem_cons]
    rcases List.mem_cons.mp h with h | h
    · cases h; exact .inl rfl
    · exact .inr (ih h)
theorem mem_fsts {ρ : List (Id × Id)} {o o' : Id} (h : InR ρ o o') : o ∈ fsts ρ := by
  induction ρ with
  | nil => cases h
  | cons p r ih =>
    obtain ⟨k, v⟩ := p
    simp only [fsts, List.mem_cons]
    rcases List.mem_cons.mp h with h | h
    · cases h; exact .inl rfl
    · exact .inr (ih h)
theorem snds_inj {ρ : List (Id × Id)} (hn : (snds ρ).Nodup) {o p o' : Id} (h1 : InR ρ o o') (h2 : InR ρ p o') : o = p := by
  induction ρ with
  | nil => cases h1
  | cons q r ih =>
    obtain ⟨k, v⟩ := q
    simp only [snds, List.nodup_cons] at hn
    rcases List.mem_cons.mp h1 with a1 | a1 <;> rcases List.mem_cons.mp h2 with a2 | a2
    · cases a1; cases a2; rfl
    · cases a1; exact absurd (mem_snds (ρ := r) a2) hn.1
    · cases a2; exact absurd (mem_snds (ρ := r) a1) hn.1
    · exact ih hn.2 a1 a2
theorem fsts_fun {ρ : List (Id × Id)} (hn : (fsts ρ).Nodup) {o p q : Id} (h1 : InR ρ o p) (h2 : InR ρ o q) : p = q := by
  induction ρ with
  | nil => cases h1
  | cons x r ih =>
    obtain ⟨k, v⟩ := x
    simp only [fsts, List.nodup_cons] at hn
    rcases List.mem_cons.mp h1 with a1 | a1 <;> rcases List.mem_cons.mp h2 with a2 | a2
    · cases a1; cases a2; rfl
    · cases a1; exact absurd (mem_fsts (ρ := r) a2) hn.1
    · cases a2; exact absurd (mem_fsts (ρ := r) a1) hn.1
    · exact ih hn.2 a1 a2
theorem parOk_in {ρ : List (Id × Id)} (h : parOk ρ = true) {o o' : Id} (hi : InR ρ o o') : o = o' ∨ isPar o' = false := by
  induction ρ with
  | nil => cases hi
  | cons x r ih =>
    obtain ⟨k, v⟩ := x
    simp only [parOk, Bool.and_eq_true, Bool.or_eq_true, Bool.not_eq_true'] at h
    rcases List.mem_cons.mp hi with hi | hi
    · cases hi
      rcases h.1 with h | h
      · exact .inl (idEq_iff.mp h)
      · exact .inr h.2
    · exact ih h.2 hi
theorem getO_ren {ρ0 : List (Id × Id)} {ob : List (Id × Obj)} : ∀ {ρ : List (Id × Id)} {o' : Id} {x : Obj}, getO (renOb ρ0 ob ρ) o' = some x → ∃ o y, InR ρ o o' ∧ getO ob o = some y ∧ x = renObj ρ0 y
  | [], o', x, h => by simp [renOb, getO] at h
  | (k, v) :: r, o', x, h => by
    simp only [renOb] at h
    cases hk : getO ob k with
    | none =>
      rw [hk] at h
      obtain ⟨o, y, h1, h2⟩ := getO_ren h
      exact ⟨o, y, List.mem_cons_of_mem _ h1, h2⟩
    | some y =>
      rw [hk] at h
      simp only [getO] at h
      cases hv : idEq v o' <;> rw [hv] at h
      · obtain ⟨o, y, h1, h2⟩ := getO_ren h
        exact ⟨o, y, List.mem_cons_of_mem _ h1, h2⟩
      · simp only [cond_true, Option.some.injEq] at h
        have := idEq_iff.mp hv
        subst this
        exact ⟨k, y, List.mem_cons_self, hk, h.symm⟩
def back : List (Id × Id) → Id → Id
  | [], o' => o'
  | (o, p) :: r, o' => if p = o' then o else back r o'
theorem back_in {ρ : List (Id × Id)} (hn : (snds ρ).Nodup) {o o' : Id} (h : InR ρ o o') : back ρ o' = o := by
  induction ρ with
  | nil => cases h
  | cons x r ih =>
    obtain ⟨k, v⟩ := x
    simp only [snds, List.nodup_cons] at hn
    simp only [back]
    rcases List.mem_cons.mp h with a | a
    · cases a; simp
    · by_cases e : v = o'
      · subst e; exact absurd (mem_snds (ρ := r) a) hn.1
      · rw [if_neg e]; exact ih hn.2 a
theorem renL_get (ρ : List (Id × Id)) (cs : List AV) (i : Nat) : (renL ρ cs)[i]? = (cs[i]?).map (renA ρ) := by
  induction cs generalizing i with
  | nil => simp [renL]
  | cons c cs ih =>
    cases i with
    | zero => simp [renL]
    | succ i => simpa [renL] using ih i
theorem renL_length (ρ : List (Id × Id)) (cs : List AV) : (renL ρ cs).length = cs.length := by
  induction cs with
  | nil => rfl
  | cons c cs ih => simp [renL, ih]
def Gh.ren (G : Gh) (ρ : List (Id × Id)) : Gh where
  root := fun o => G.root (back ρ o)
  top := fun o => G.top (back ρ o)
  ins := fun o => G.ins (back ρ o)
  F := G.F

section
variable {P : Program} {E : Env} {base : Nat} {M : List Nat} {S0 : Nat → Prop} {R0 : Id → Value} {w0 : World} {nt : Nat} {G : Gh} {st : St} {a : Act} {w : World} {look : Look}

theorem VR.ren {ρ : List (Id × Id)} (hn : (snds ρ).Nodup) {ob ob' : List (Id × Obj)} (hob : ∀ o' x, getO ob' o' = some x → ∃ o y, InR ρ o o' ∧ getO ob o = some y ∧ x = renObj ρ y) {x : AV} {v : Value} (h : VR E w S0 G ob x v) :
    VR E w S0 (G.ren ρ) ob' (renA ρ x) v := by
  have hrow : ∀ o o' e rows dp vr hh, InR ρ o o' → getO ob' o' = some (.row e rows dp vr hh) → ∃ vr0, getO ob o = some (.row e rows dp vr0 hh) := fun o o' e rows dp vr hh hi hg => by
    obtain ⟨o1, y, hi1, hy, he⟩ := hob o' _ hg
    have := snds_inj hn hi1 hi
    subst this
    cases y with
    | row e' r' d' v' h' => simp only [renObj, Obj.row.injEq] at he; obtain ⟨rfl, rfl, rfl, _, rfl⟩ := he; exact ⟨v', hy⟩
    | box t cs => cases he
  have hbox : ∀ o o' t cs, InR ρ o o' → getO ob' o' = some (.box t cs) → ∃ cs0, getO ob o = some (.box t cs0) := fun o o' t cs hi hg => by
    obtain ⟨o1, y, hi1, hy, he⟩ := hob o' _ hg
    have := snds_inj hn hi1 hi
    subst this
    cases y with
    | row e' r' d' v' h' => cases he
    | box t' cs' => simp only [renObj, Obj.box.injEq] at he; obtain ⟨rfl, _⟩ := he; exact ⟨cs', hy⟩
  induction h with
  | dead v => exact .dead v
  | i k n => exact .i k n
  | b x => exact .b x
  | s x => exact .s x
  | nil => exact .nil
  | agg cs arr hl h h1 ih =>
    refine .agg _ arr ((renL_length ρ cs).trans hl) (fun i v x hv hx => ?_) h1
    rw [renL_get] at hv
    obtain ⟨v0, h0, rfl⟩ := Option.map_eq_some_iff.mp hv
    exact ih i v0 x h0 hx
  | tup vs arr hl h ih =>
    refine .tup _ arr ((renL_length ρ vs).trans hl) (fun i v x hv hx => ?_)
    rw [renL_get] at hv
    obtain ⟨v0, h0, rfl⟩ := Option.map_eq_some_iff.mp hv
    exact ih i v0 x h0 hx
  | ro e al rows v h => exact .ro e al rows v h
  | nest o ver row col e whole rows v h hnn => exact .ro e true rows v (h.mono fun b hb => hb.imp id fun hb => ⟨rfl, hb⟩)
  | pro e te al cells off g o0 u ht hl hm hr => exact .pro e te al cells off g o0 u ht hl hm hr
  | own o v h h1 =>
    simp only [renA]
    split
    · rename_i o' ho
      have hi := newId_in ho
      refine .own o' v (fun e rows dp vr hh hg => ?_) h1
      obtain ⟨vr0, h0⟩ := hrow o o' e rows dp vr hh hi hg
      rw [h e rows dp vr0 hh h0]
      simp only [Gh.ren, back_in hn hi]
    · exact .dead v
  | vw o lo n v h h1 =>
    simp only [renA]
    split
    · rename_i o' ho
      have hi := newId_in ho
      refine .vw o' lo n v (fun e rows dp vr hh te hg ht => ?_) h1
      obtain ⟨vr0, h0⟩ := hrow o o' e rows dp vr hh hi hg
      have := h e rows dp vr0 hh te h0 ht
      simp only [Gh.ren, back_in hn hi]
      exact this
    · exact .dead v
  | ptr o row off v h h1 =>
    simp only [renA]
    split
    · rename_i o' ho
      have hi := newId_in ho
      refine .ptr o' row off v ⟨fun t cells hg => ?_, fun e rows dp vr hh te hg ht => ?_⟩ h1
      · obtain ⟨cs0, h0⟩ := hbox o o' t cells hi hg
        simp only [Gh.ren, back_in hn hi]
        exact h.1 t cs0 h0
      · obtain ⟨vr0, h0⟩ := hrow o o' e rows dp vr hh hi hg
        simp only [Gh.ren, back_in hn hi]
        exact h.2 e rows dp vr0 hh te h0 ht
    · exact .dead v
theorem getT_renTm (ρ : List (Id × Id)) (tm : List (Nat × AV)) : ∀ (keep : List Nat) (t : Nat), getT (renTm ρ tm keep) t = renA ρ (getT tm t) ∨ getT (renTm ρ tm keep) t = .dead
  | [], t => .inr rfl
  | k :: r, t => by
    simp only [renTm, getT]
    cases h : Nat.beq k t
    · simpa using getT_renTm ρ tm r t
    · have := beqT h
      subst this
      exact .inl rfl
theorem RelG.ren (h : RelG E base M S0 R0 w0 nt G st a w) {ρ : List (Id × Id)} (hn : (snds ρ).Nodup) (hf : (fsts ρ).Nodup) (hp : parOk ρ = true) (keep : List Nat) : RelG E base M S0 R0 w0 nt (G.ren ρ) { tm := renTm ρ st.tm keep, ob := renOb ρ st.ob ρ } a w := by
  have hob : ∀ o' x, getO (renOb ρ st.ob ρ) o' = some x → ∃ o y, InR ρ o o' ∧ getO st.ob o = some y ∧ x = renObj ρ y := fun o' x hx => getO_ren hx
  have hne : ∀ {o1 o2 o1' o2'}, InR ρ o1 o1' → InR ρ o2 o2' → o1' ≠ o2' → o1 ≠ o2 := fun h1 h2 hne e => hne (by subst e; exact fsts_fun hf h1 h2)
  refine ⟨h.kept, h.old, fun o x hx => ?_, fun o x hx => ?_, fun o x o' x' hx hx' hno => ?_, fun o x hx => ?_, fun o x o' x' hx hx' hno => ?_, h.F, fun t => ?_, h.defers, h.size, fun o x hpar hx => ?_⟩
  · obtain ⟨o1, y, hi, hy, rfl⟩ := hob o x hx
    have := h.objs o1 y hy
    have hb := back_in hn hi
    cases y with
    | row e rows d v hh => simp only [renObj, ObjR, Gh.ren, hb]; exact this
    | box t cs =>
      simp only [renObj, ObjR, Gh.ren, hb]
      obtain ⟨g, arr, et, h1, h2, h3, h4, h5, h6⟩ := (this : BoxR E w S0 G st.ob cs _ _ _)
      refine ⟨g, arr, et, h1, h2, h3, h4, h5.trans (renL_length ρ cs).symm, fun i v x hv hxx => ?_⟩
      rw [renL_get] at hv
      obtain ⟨v0, h0, rfl⟩ := Option.map_eq_some_iff.mp hv
      obtain ⟨h7, h8⟩ := h6 i v0 x h0 hxx
      exact ⟨h7.ren hn hob, h8⟩
  · obtain ⟨o1, y, hi, hy, _⟩ := hob o x hx
    simp only [Gh.ren, back_in hn hi]
    exact h.tops o1 y hy
  · obtain ⟨o1, y, hi, hy, _⟩ := hob o x hx
    obtain ⟨o2, y', hi', hy', _⟩ := hob o' x' hx'
    simp only [Gh.ren, back_in hn hi, back_in hn hi']
    exact h.tops2 o1 y o2 y' hy hy' (hne hi hi' hno)
  · obtain ⟨o1, y, hi, hy, _⟩ := hob o x hx
    simp only [Gh.ren, back_in hn hi]
    exact h.ins o1 y hy
  · obtain ⟨o1, y, hi, hy, _⟩ := hob o x hx
    obtain ⟨o2, y', hi', hy', _⟩ := hob o' x' hx'
    simp only [Gh.ren, back_in hn hi, back_in hn hi']
    exact h.ins2 o1 y o2 y' hy hy' (hne hi hi' hno)
  · rcases getT_renTm ρ st.tm keep t with e | e
    · show VR _ _ _ _ _ (getT (renTm ρ st.tm keep) t) _
      rw [e]
      exact (h.tmps t).ren hn hob
    · show VR _ _ _ _ _ (getT (renTm ρ st.tm keep) t) _
      rw [e]
      exact .dead _
  · obtain ⟨o1, y, hi, hy, _⟩ := hob o x hx
    rcases parOk_in hp hi with e | e
    · subst e
      simp only [Gh.ren, back_in hn hi]
      exact h.par o1 y hpar hy
    · rw [hpar] at e; cases e
theorem RelG.clean2 (h : RelG E base M S0 R0 w0 nt G st a w) (keep : List Nat) : Rel E base M S0 R0 w0 nt (Vai.clean2 keep st) a w := by
  unfold Vai.clean2
  cases hb : (nodupId (fsts (renum 0 (keepIds keep st))) && (nodupId (snds (renum 0 (keepIds keep st))) && parOk (renum 0 (keepIds keep st))))
  · simp only [hb, cond_false]
    exact ⟨G, h.kept, h.old, (fun o x hx => by cases hx), (fun o x hx => by cases hx), (fun o x o' x' hx => by cases hx), (fun o x hx => by cases hx), (fun o x o' x' hx => by cases hx), h.F, (fun t => .dead _), h.defers, h.size, (fun o x _ hx => by cases hx)⟩
  · simp only [hb, cond_true]
    simp only [Bool.and_eq_true] at hb
    exact ⟨_, h.ren (nodupId_iff.mp hb.2.1) (nodupId_iff.mp hb.1) hb.2.2 keep⟩
end
end Go.Proofs.Ythjkpphjlmmkdaa.Vai
