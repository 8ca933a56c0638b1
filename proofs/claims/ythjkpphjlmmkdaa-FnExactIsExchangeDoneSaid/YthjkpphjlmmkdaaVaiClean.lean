/- A loop's head: what is forgotten there; no condition. -/
import Derived.Test.YthjkpphjlmmkdaaVaiReg
namespace Go.Proofs.Ythjkpphjlmmkdaa.Vai
open Go

theorem stripL_get (cs : List AV) (i : Nat) : (stripL cs)[i]? = (cs[i]?).map strip := by
  induction cs generalizing i with
  | nil => simp [stripL]
  | cons c cs ih =>
    cases i with
    | zero => simp [stripL]
    | succ i => simpa [stripL] using ih i
theorem stripL_length (cs : List AV) : (stripL cs).length = cs.length := by
  induction cs with
  | nil => rfl
  | cons c cs ih => simp [stripL, ih]
theorem getT_pick (tm : List (Nat × AV)) : ∀ (keep : List Nat) (t : Nat), getT (pickTm tm keep) t = strip (getT tm t) ∨ getT (pickTm tm keep) t = .dead
  | [], t => .inr rfl
  | k :: r, t => by
    simp only [pickTm, getT]
    cases h : Nat.beq k t
    · simpa using getT_pick tm r t
    · have := beqT h
      subst this
      exact .inl rfl
theorem getO_pick (ob : List (Id × Obj)) : ∀ (ids : List Id) (o : Id) (x : Obj), getO (pickObs ob ids) o = some x → ∃ y, getO ob o = some y ∧ x = freshO y
  | [], o, x, h => by simp [pickObs, getO] at h
  | k :: r, o, x, h => by
    simp only [pickObs] at h
    cases hk : getO ob k with
    | none =>
      rw [hk] at h
      exact getO_pick ob r o x (by simpa using h)
    | some y =>
      rw [hk] at h
      simp only [List.singleton_append, getO] at h
      cases hko : idEq k o
      · rw [hko] at h
        exact getO_pick ob r o x (by simpa using h)
      · rw [hko] at h
        have := idEq_iff.mp hko
        subst this
        simp only [cond_true, Option.some.injEq] at h
        exact ⟨y, hk, h.symm⟩

section
variable {P : Program} {E : Env} {base : Nat} {M : List Nat} {S0 : Nat → Prop} {R0 : Id → Value} {w0 : World} {nt : Nat} {G : Gh} {st : St} {a : Act} {w : World} {look : Look}

theorem VR.strip {ob ob' : List (Id × Obj)} (hob : ∀ o x, getO ob' o = some x → ∃ y, getO ob o = some y ∧ x = freshO y) {x : AV} {v : Value} (h : VR E w S0 G ob x v) : VR E w S0 G ob' (strip x) v := by
  have hrow : ∀ o e rows dp vr hh, getO ob' o = some (.row e rows dp vr hh) → ∃ vr0, getO ob o = some (.row e rows dp vr0 hh) := fun o e rows dp vr hh hg => by
    obtain ⟨y, hy, he⟩ := hob o _ hg
    cases y with
    | row e' r' d' v' h' => simp only [freshO, Obj.row.injEq] at he; obtain ⟨rfl, rfl, rfl, _, rfl⟩ := he; exact ⟨v', hy⟩
    | box t cs => cases he
  have hbox : ∀ o t cs, getO ob' o = some (.box t cs) → ∃ cs0, getO ob o = some (.box t cs0) := fun o t cs hg => by
    obtain ⟨y, hy, he⟩ := hob o _ hg
    cases y with
    | row e' r' d' v' h' => cases he
    | box t' cs' => simp only [freshO, Obj.box.injEq] at he; obtain ⟨rfl, _⟩ := he; exact ⟨cs', hy⟩
  induction h with
  | dead v => exact .dead v
  | i k n => exact .i k n
  | b x => exact .b x
  | s x => exact .s x
  | nil => exact .nil
  | agg cs arr hl h h1 ih =>
    refine .agg _ arr ((stripL_length cs).trans hl) (fun i v x hv hx => ?_) h1
    rw [stripL_get] at hv
    obtain ⟨v0, h0, rfl⟩ := Option.map_eq_some_iff.mp hv
    exact ih i v0 x h0 hx
  | tup vs arr hl h ih =>
    refine .tup _ arr ((stripL_length vs).trans hl) (fun i v x hv hx => ?_)
    rw [stripL_get] at hv
    obtain ⟨v0, h0, rfl⟩ := Option.map_eq_some_iff.mp hv
    exact ih i v0 x h0 hx
  | ro e al rows v h => exact .ro e al rows v h
  | own o v h h1 =>
    refine .own o v (fun e rows dp vr hh hg => ?_) h1
    obtain ⟨vr0, h0⟩ := hrow o e rows dp vr hh hg
    exact h e rows dp vr0 hh h0
  | vw o lo n v h h1 =>
    refine .vw o lo n v (fun e rows dp vr hh te hg ht => ?_) h1
    obtain ⟨vr0, h0⟩ := hrow o e rows dp vr hh hg
    exact h e rows dp vr0 hh te h0 ht
  | nest o ver row col e whole rows v h hn => exact .ro e true rows v (h.mono fun b hb => hb.imp id fun hb => ⟨rfl, hb⟩)
  | ptr o row off v h h1 =>
    refine .ptr o row off v ⟨fun t cells hg => ?_, fun e rows dp vr hh te hg ht => ?_⟩ h1
    · obtain ⟨cs0, h0⟩ := hbox o t cells hg
      exact h.1 t cs0 h0
    · obtain ⟨vr0, h0⟩ := hrow o e rows dp vr hh hg
      exact h.2 e rows dp vr0 hh te h0 ht
  | pro e te al cells off g o0 u ht hl hm hr => exact .pro e te al cells off g o0 u ht hl hm hr

theorem RelG.clean (h : RelG E base M S0 R0 w0 nt G st a w) (keep : List Nat) : RelG E base M S0 R0 w0 nt G (clean keep st) a w := by
  have hob : ∀ o x, getO (Vai.clean keep st).ob o = some x → ∃ y, getO st.ob o = some y ∧ x = freshO y := fun o x hx => getO_pick _ _ o x hx
  refine ⟨h.kept, h.old, fun o x hx => ?_, fun o x hx => ?_, fun o x o' x' hx hx' => ?_, fun o x hx => ?_, fun o x o' x' hx hx' => ?_, h.F, fun t => ?_, h.defers, h.size, fun o x hp hx => ?_⟩
  · obtain ⟨y, hy, rfl⟩ := hob o x hx
    have := h.objs o y hy
    cases y with
    | row e rows d v hh => exact this
    | box t cs =>
      obtain ⟨g, arr, et, h1, h2, h3, h4, h5, h6⟩ := (this : BoxR E w S0 G st.ob cs _ _ _)
      refine ⟨g, arr, et, h1, h2, h3, h4, h5.trans (stripL_length cs).symm, fun i v x hv hxx => ?_⟩
      rw [stripL_get] at hv
      obtain ⟨v0, h0, rfl⟩ := Option.map_eq_some_iff.mp hv
      obtain ⟨h7, h8⟩ := h6 i v0 x h0 hxx
      exact ⟨h7.strip hob, h8⟩
  · obtain ⟨y, hy, _⟩ := hob o x hx
    exact h.tops o y hy
  · obtain ⟨y, hy, _⟩ := hob o x hx
    obtain ⟨y', hy', _⟩ := hob o' x' hx'
    exact h.tops2 o y o' y' hy hy'
  · obtain ⟨y, hy, _⟩ := hob o x hx
    exact h.ins o y hy
  · obtain ⟨y, hy, _⟩ := hob o x hx
    obtain ⟨y', hy', _⟩ := hob o' x' hx'
    exact h.ins2 o y o' y' hy hy'
  · rcases getT_pick st.tm keep t with e | e
    · simp only [Vai.clean]
      rw [e]
      exact (h.tmps t).strip hob
    · simp only [Vai.clean]
      rw [e]
      exact .dead _
  · obtain ⟨y, hy, _⟩ := hob o x hx
    exact h.par o y hp hy
end
end Go.Proofs.Ythjkpphjlmmkdaa.Vai
