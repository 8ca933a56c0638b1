/- Steps that keep the relation between a state of the interpreter and the machine; no condition. -/
import Derived.Test.YthjkpphjlmmkdaaVaiMap
namespace Go.Proofs.Ythjkpphjlmmkdaa.Vai
open Go

section
variable {E : Env} {base : Nat} {M : List Nat} {S0 : Nat → Prop} {R0 : Id → Value} {w0 : World} {nt : Nat} {G : Gh} {st : St} {a : Act} {w : World}

/-! ## a temporary is written -/
theorem tmps_put (a : Act) (t t' : Nat) (v : Value) (h : t < a.tmps.size) : (a.put (some t) v).tmps.getD t' undef = if t' = t then v else a.tmps.getD t' undef := by
  simp only [Act.put]
  rw [Array.getD_eq_getD_getElem?, Array.getElem?_setIfInBounds]
  by_cases ht : t = t'
  · subst ht
    simp [h]
  · simp [ht, Ne.symm ht, Array.getD_eq_getD_getElem?]
theorem RelG.put (h : RelG E base M S0 R0 w0 nt G st a w) {t : Nat} (ht : t < nt) {x : AV} {v : Value} (hv : VR E w S0 G st.ob x v) :
    RelG E base M S0 R0 w0 nt G { st with tm := putT st.tm t x } (a.put (some t) v) w := by
  refine ⟨h.kept, h.old, h.objs, h.tops, h.tops2, h.ins, h.ins2, h.F, fun t' => ?_, h.defers, ?_, h.par⟩
  · rw [getT_putT, tmps_put a t t' v (h.size ▸ ht)]
    by_cases e : t' = t
    · simp only [e, if_true]; exact hv
    · simp only [e, if_false]; exact h.tmps t'
  · simp only [Act.put, Array.size_setIfInBounds]; exact h.size

/-! ## memory that nobody speaks of changes -/
theorem RelG.world (h : RelG E base M S0 R0 w0 nt G st a w) {w' : World} (hk : Kept base M w0 w') (hs : w.heap.size ≤ w'.heap.size)
    (hold : ∀ b, S0 b → w'.heap[b]? = w.heap[b]?) (hF : ∀ b ∈ G.F, w'.heap[b]? = w.heap[b]?)
    (ht : ∀ o x, getO st.ob o = some x → ∀ b ∈ G.top o, w'.heap[b]? = w.heap[b]?) : RelG E base M S0 R0 w0 nt G st a w' := by
  have hc : Comp (fun _ => False) E w S0 G st.ob w' G st.ob :=
    ⟨hold, fun b hb => ⟨hF b hb, hb⟩, fun o t cells _ hg => ⟨rfl, t, cells, hg⟩, fun o e rows dp vr hh _ hg => ⟨rfl, rows, dp, vr, hh, hg, rfl, Nat.le_refl _, fun hd _ => ⟨hd, fun _ hx => hx,
      fun te j r hte hj => ⟨r, hj, fun col e' hc hq => ⟨rfl, fun g o0 n c hr => cell_same (a := ⟨g, o0 + (j * te.ls.length + col), none⟩) (ht o _ hg g (by
        obtain ⟨te', _, _, h3⟩ := (h.objs o _ hg : RowR E w _ e rows dp hh _ _ _)
        rcases h3 with ⟨h3, _⟩ | ⟨g', off, c', arr, u, bs, a1, a2, _⟩
        · rw [h3] at hr; cases hr
        · rw [a1] at hr; cases hr; rw [a2]; simp))⟩⟩⟩⟩⟩
  refine ⟨hk, h.old, fun o x hx => ?_, h.tops, h.tops2, h.ins, h.ins2, fun b hb => ⟨(h.F b hb).1, (h.F b hb).2.1, Nat.lt_of_lt_of_le (h.F b hb).2.2 hs⟩, fun t => (h.tmps t).map hc noEx, h.defers, h.size, h.par⟩
  have := h.objs o x hx
  cases x with
  | row e rows d v hh => exact this.frame (ht o _ hx) (fun b hb => hF b ((h.ins o _ hx).1 b hb)) (fun _ b hb => hb.elim (hold b) (hF b)) (fun _ hb => hb)
  | box t cs => exact this.map hc (fun _ _ => noEx) (ht o _ hx)

/-! ## objects go -/
theorem RelG.del (h : RelG E base M S0 R0 w0 nt G st a w) (o : Id) : RelG E base M S0 R0 w0 nt G { st with ob := delO st.ob o } a w := by
  have hget : ∀ o' x, getO (delO st.ob o) o' = some x → o' ≠ o ∧ getO st.ob o' = some x := fun o' x hx => by
    rw [getO_delO] at hx
    by_cases ho : o' = o
    · simp [ho] at hx
    · rw [if_neg ho] at hx; exact ⟨ho, hx⟩
  have hc : Comp (fun _ => False) E w S0 G st.ob w G (delO st.ob o) := Comp.less fun o' x hx => ⟨x, (hget o' x hx).2, .inl rfl⟩
  refine ⟨h.kept, h.old, fun o' x hx => ?_, fun o' x hx => h.tops o' x (hget o' x hx).2, fun o1 x o2 y hx hy => h.tops2 o1 x o2 y (hget _ _ hx).2 (hget _ _ hy).2, fun o' x hx => h.ins o' x (hget o' x hx).2,
    fun o1 x o2 y hx hy => h.ins2 o1 x o2 y (hget _ _ hx).2 (hget _ _ hy).2, h.F, fun t => (h.tmps t).map hc noEx, h.defers, h.size, fun o' x hp hx => h.par o' x hp (hget o' x hx).2⟩
  have := h.objs o' x (hget o' x hx).2
  cases x with
  | row e rows d v hh => exact this.frame (fun _ _ => rfl) (fun _ _ => rfl) (fun _ _ _ => rfl) (fun _ hb => hb)
  | box t cs => exact this.map hc (fun _ _ => noEx) (fun _ _ => rfl)
theorem RelG.dels (ids : List Id) : ∀ {st : St}, RelG E base M S0 R0 w0 nt G st a w → RelG E base M S0 R0 w0 nt G { st with ob := delAll ids st.ob } a w := by
  induction ids with
  | nil => exact fun h => h
  | cons o ids ih => exact fun h => ih (h.del o)
theorem getO_delAll (ids : List Id) : ∀ (ob : List (Id × Obj)) (o : Id), getO (delAll ids ob) o = if o ∈ ids then none else getO ob o := by
  induction ids with
  | nil => intro ob o; simp [delAll]
  | cons i ids ih =>
    intro ob o
    simp only [delAll, ih, getO_delO, List.mem_cons]
    by_cases h1 : o ∈ ids
    · simp [h1]
    · by_cases h2 : o = i
      · simp [h2]
      · simp [h1, h2]

/-! ## objects come -/
def findN : List (Id × Obj) → Id → Option Obj
  | [], _ => none
  | (k, x) :: r, o => match findN r o with
    | some y => some y
    | none => if o = k then some x else none
theorem findN_keys {nw : List (Id × Obj)} {o : Id} : (∃ x, findN nw o = some x) ↔ o ∈ keys nw := by
  induction nw with
  | nil => simp [findN, keys]
  | cons p nw ih =>
    obtain ⟨k, x⟩ := p
    simp only [findN, keys, List.mem_cons, ← ih]
    cases h : findN nw o with
    | some y => simp
    | none => by_cases hk : o = k <;> simp [hk]
theorem getO_upAll (nw : List (Id × Obj)) : ∀ (ob : List (Id × Obj)) (o : Id), getO (upAll nw ob) o = match findN nw o with
    | some x => some x
    | none => getO ob o := by
  induction nw with
  | nil => intro ob o; simp [upAll, findN]
  | cons p nw ih =>
    intro ob o
    obtain ⟨k, x⟩ := p
    simp only [upAll, ih, findN]
    cases h : findN nw o with
    | some y => rfl
    | none =>
      simp only [getO_setO]
      by_cases hk : o = k <;> simp [hk]
/-- b is live: somebody speaks of it. -/
def Live (S0 : Nat → Prop) (G : Gh) (ob : List (Id × Obj)) (b : Nat) : Prop := S0 b ∨ b ∈ G.F ∨ ∃ o x, getO ob o = some x ∧ b ∈ G.top o
theorem RelG.add (h : RelG E base M S0 R0 w0 nt G st a w) (nw : List (Id × Obj)) (hno : ∀ k ∈ keys nw, NoRef k st) (G' : Gh) {w' : World}
    (hk : Kept base M w0 w') (hs : w.heap.size ≤ w'.heap.size) (hw : ∀ b, Live S0 G st.ob b → w'.heap[b]? = w.heap[b]?)
    (hG : ∀ o, o ∉ keys nw → G'.root o = G.root o ∧ G'.top o = G.top o ∧ G'.ins o = G.ins o)
    (hF : ∀ b ∈ G.F, b ∈ G'.F)
    (hF' : ∀ b ∈ G'.F, b ∈ G.F ∨ (¬ S0 b ∧ (base ≤ b ∨ b ∈ M) ∧ b < w'.heap.size ∧ ∀ o x, getO st.ob o = some x → b ∉ G.top o))
    (hobj : ∀ k x, findN nw k = some x → ObjR E w' S0 G' (upAll nw st.ob) k x)
    (htop : ∀ k ∈ keys nw, ∀ b ∈ G'.top k, ¬ S0 b ∧ b ∉ G'.F ∧ (base ≤ b ∨ b ∈ M) ∧ ∀ o x, getO st.ob o = some x → b ∉ G.top o)
    (hins : ∀ k ∈ keys nw, (∀ b ∈ G'.ins k, b ∈ G'.F ∧ ∀ o x, getO st.ob o = some x → b ∉ G.ins o) ∧ (G'.ins k).Nodup)
    (htop2 : ∀ k ∈ keys nw, ∀ k' ∈ keys nw, k ≠ k' → ∀ b ∈ G'.top k, b ∉ G'.top k')
    (hins2 : ∀ k ∈ keys nw, ∀ k' ∈ keys nw, k ≠ k' → ∀ b ∈ G'.ins k, b ∉ G'.ins k') :
    RelG E base M S0 R0 w0 nt G' { st with ob := upAll nw st.ob } a w' := by
  have hget : ∀ o x, getO (upAll nw st.ob) o = some x → findN nw o = some x ∧ o ∈ keys nw ∨ o ∉ keys nw ∧ getO st.ob o = some x := fun o x hx => by
    rw [getO_upAll] at hx
    cases hf : findN nw o with
    | some y => rw [hf] at hx; simp only [Option.some.injEq] at hx; subst hx; exact .inl ⟨rfl, findN_keys.mp ⟨y, hf⟩⟩
    | none =>
      rw [hf] at hx
      refine .inr ⟨fun hk => ?_, hx⟩
      obtain ⟨y, hy⟩ := findN_keys.mpr hk
      rw [hf] at hy; cases hy
  have hc : Comp (fun k => k ∈ keys nw) E w S0 G st.ob w' G' (upAll nw st.ob) :=
    ⟨fun b hb => hw b (.inl hb), fun b hb => ⟨hw b (.inr (.inl hb)), hF b hb⟩, fun o t cells hn hg => by
      rcases hget o _ hg with ⟨_, hin⟩ | ⟨_, hg⟩
      · exact absurd hin hn
      · exact ⟨(hG o hn).1, t, cells, hg⟩, fun o e rows dp vr hh hn hg => by
      rcases hget o _ hg with ⟨_, hin⟩ | ⟨_, hg⟩
      · exact absurd hin hn
      · refine ⟨(hG o hn).1, rows, dp, vr, hh, hg, rfl, Nat.le_refl _, fun hd _ => ⟨hd, fun _ hx => hx, fun te j r hte hj => ⟨r, hj, fun col e' hc hq => ⟨rfl, fun g o0 n c hr => ?_⟩⟩⟩⟩
        refine cell_same (a := ⟨g, o0 + (j * te.ls.length + col), none⟩) (hw g (.inr (.inr ⟨o, _, hg, ?_⟩)))
        obtain ⟨te', _, _, h3⟩ := (h.objs o _ hg : RowR E w _ e rows dp hh _ _ _)
        rcases h3 with ⟨h3, _⟩ | ⟨g', off, c', arr, u, bs, a1, a2, _⟩
        · rw [h3] at hr; cases hr
        · rw [a1] at hr; cases hr; rw [a2]; simp⟩
  refine ⟨hk, h.old, fun o x hx => ?_, fun o x hx => ?_, fun o x o' x' hx hx' hne => ?_, fun o x hx => ?_, fun o x o' x' hx hx' hne => ?_, fun b hb => ?_, fun t => (h.tmps t).map hc (fun o ho hin => (hno o hin).1 t ho), h.defers, h.size, fun o x hp hx => ?_⟩
  · rcases hget o x hx with ⟨hf, _⟩ | ⟨hn, hg⟩
    · exact hobj o x hf
    · have := h.objs o x hg
      obtain ⟨g1, g2, g3⟩ := hG o hn
      cases x with
      | row e rows d v hh =>
        simp only [ObjR, g1, g2, g3]
        exact this.frame (fun b hb => hw b (.inr (.inr ⟨o, _, hg, hb⟩))) (fun b hb => hw b (.inr (.inl ((h.ins o _ hg).1 b hb)))) (fun _ b hb => hw b (hb.imp id .inl)) (fun b hb => hb.imp id (hF b))
      | box t cs =>
        simp only [ObjR, g1, g2, g3]
        exact this.map hc (fun v hv o' ho' hin => (hno o' hin).2.1 o t cs hg (by
          obtain ⟨i, hi⟩ := List.getElem?_of_mem hv
          exact mem_idsL hi ho')) (fun b hb => hw b (.inr (.inr ⟨o, _, hg, hb⟩)))
  · rcases hget o x hx with ⟨_, hin⟩ | ⟨hn, hg⟩
    · intro b hb
      obtain ⟨h1, h2, h3, _⟩ := htop o hin b hb
      exact ⟨h1, h2, h3⟩
    · intro b hb
      rw [(hG o hn).2.1] at hb
      obtain ⟨h1, h2, h3⟩ := h.tops o x hg b hb
      exact ⟨h1, fun hb' => (hF' b hb').elim h2 fun hh => hh.2.2.2 o x hg hb, h3⟩
  · intro b hb hb'
    rcases hget o x hx with ⟨_, hin⟩ | ⟨hn, hg⟩ <;> rcases hget o' x' hx' with ⟨_, hin'⟩ | ⟨hn', hg'⟩
    · exact htop2 o hin o' hin' hne b hb hb'
    · rw [(hG o' hn').2.1] at hb'
      exact (htop o hin b hb).2.2.2 o' x' hg' hb'
    · rw [(hG o hn).2.1] at hb
      exact (htop o' hin' b hb').2.2.2 o x hg hb
    · rw [(hG o hn).2.1] at hb
      rw [(hG o' hn').2.1] at hb'
      exact h.tops2 o x o' x' hg hg' hne b hb hb'
  · rcases hget o x hx with ⟨_, hin⟩ | ⟨hn, hg⟩
    · exact ⟨fun b hb => ((hins o hin).1 b hb).1, (hins o hin).2⟩
    · rw [(hG o hn).2.2]
      exact ⟨fun b hb => hF b ((h.ins o x hg).1 b hb), (h.ins o x hg).2⟩
  · intro b hb hb'
    rcases hget o x hx with ⟨_, hin⟩ | ⟨hn, hg⟩ <;> rcases hget o' x' hx' with ⟨_, hin'⟩ | ⟨hn', hg'⟩
    · exact hins2 o hin o' hin' hne b hb hb'
    · rw [(hG o' hn').2.2] at hb'
      exact ((hins o hin).1 b hb).2 o' x' hg' hb'
    · rw [(hG o hn).2.2] at hb
      exact ((hins o' hin').1 b hb').2 o x hg hb
    · rw [(hG o hn).2.2] at hb
      rw [(hG o' hn').2.2] at hb'
      exact h.ins2 o x o' x' hg hg' hne b hb hb'
  · rcases hF' b hb with hb' | ⟨h1, h2, h3, _⟩
    · exact ⟨(h.F b hb').1, (h.F b hb').2.1, Nat.lt_of_lt_of_le (h.F b hb').2.2 hs⟩
    · exact ⟨h1, h2, h3⟩
  · rcases hget o x hx with ⟨_, hin⟩ | ⟨hn, hg⟩
    · have := (hno o hin).2.2.2
      rw [hp] at this; cases this
    · exact (hG o hn).1.trans (h.par o x hp hg)

/-! ## an object turns -/
theorem RelG.upd (h : RelG E base M S0 R0 w0 nt G st a w) (o : Id) (x y : Obj) (hx : getO st.ob o = some x) (G' : Gh) {w' : World}
    (hk : Kept base M w0 w') (hs : w.heap.size ≤ w'.heap.size)
    (hold : ∀ b, S0 b → w'.heap[b]? = w.heap[b]?) (hF : ∀ b ∈ G.F, w'.heap[b]? = w.heap[b]? ∧ b ∈ G'.F)
    (ht : ∀ o' x', getO st.ob o' = some x' → o' ≠ o → ∀ b ∈ G.top o', w'.heap[b]? = w.heap[b]?)
    (hG : ∀ o', o' ≠ o → G'.root o' = G.root o' ∧ G'.top o' = G.top o' ∧ G'.ins o' = G.ins o') (hGt : G'.top o = G.top o)
    (hF' : ∀ b ∈ G'.F, b ∈ G.F ∨ (¬ S0 b ∧ (base ≤ b ∨ b ∈ M) ∧ b < w'.heap.size ∧ ∀ o x, getO st.ob o = some x → b ∉ G.top o))
    (hc : Comp (fun _ => False) E w S0 G st.ob w' G' (setO st.ob o y))
    (hobj : ObjR E w' S0 G' (setO st.ob o y) o y)
    (hins : (∀ b ∈ G'.ins o, b ∈ G'.F ∧ ∀ o' x', getO st.ob o' = some x' → o' ≠ o → b ∉ G.ins o') ∧ (G'.ins o).Nodup) :
    RelG E base M S0 R0 w0 nt G' { st with ob := setO st.ob o y } a w' := by
  have hget : ∀ o' x', getO (setO st.ob o y) o' = some x' → o' = o ∧ x' = y ∨ o' ≠ o ∧ getO st.ob o' = some x' := fun o' x' hx' => by
    rw [getO_setO] at hx'
    by_cases ho : o' = o
    · rw [if_pos ho] at hx'; exact .inl ⟨ho, (Option.some.inj hx').symm⟩
    · rw [if_neg ho] at hx'; exact .inr ⟨ho, hx'⟩
  refine ⟨hk, h.old, fun o' x' hx' => ?_, fun o' x' hx' => ?_, fun o1 x1 o2 x2 h1 h2 hne => ?_, fun o' x' hx' => ?_, fun o1 x1 o2 x2 h1 h2 hne => ?_, fun b hb => ?_, fun t => (h.tmps t).map hc noEx, h.defers, h.size, fun o' x' hp hx' => ?_⟩
  · rcases hget o' x' hx' with ⟨rfl, rfl⟩ | ⟨hn, hg⟩
    · exact hobj
    · have := h.objs o' x' hg
      obtain ⟨g1, g2, g3⟩ := hG o' hn
      cases x' with
      | row e rows d v hh =>
        simp only [ObjR, g1, g2, g3]
        exact this.frame (ht o' _ hg hn) (fun b hb => (hF b ((h.ins o' _ hg).1 b hb)).1) (fun _ b hb => hb.elim (hold b) fun hb => (hF b hb).1) (fun b hb => hb.imp id fun hb => (hF b hb).2)
      | box t cs =>
        simp only [ObjR, g1, g2, g3]
        exact this.map hc (fun _ _ => noEx) (ht o' _ hg hn)
  · intro b hb
    have key : ∀ o' x', getO st.ob o' = some x' → b ∈ G.top o' → ¬ S0 b ∧ b ∉ G'.F ∧ (base ≤ b ∨ b ∈ M) := fun o' x' hg hb => by
      obtain ⟨h1, h2, h3⟩ := h.tops o' x' hg b hb
      exact ⟨h1, fun hb' => (hF' b hb').elim h2 fun hh => hh.2.2.2 o' x' hg hb, h3⟩
    rcases hget o' x' hx' with ⟨rfl, rfl⟩ | ⟨hn, hg⟩
    · exact key _ x hx (hGt ▸ hb)
    · exact key o' x' hg ((hG o' hn).2.1 ▸ hb)
  · have t1 : ∀ o' x', getO (setO st.ob o y) o' = some x' → ∃ z, getO st.ob o' = some z ∧ G'.top o' = G.top o' := fun o' x' hx' => by
      rcases hget o' x' hx' with ⟨rfl, _⟩ | ⟨hn, hg⟩
      · exact ⟨x, hx, hGt⟩
      · exact ⟨x', hg, (hG o' hn).2.1⟩
    obtain ⟨z1, g1, e1⟩ := t1 o1 x1 h1
    obtain ⟨z2, g2, e2⟩ := t1 o2 x2 h2
    rw [e1, e2]
    exact h.tops2 o1 z1 o2 z2 g1 g2 hne
  · rcases hget o' x' hx' with ⟨rfl, _⟩ | ⟨hn, hg⟩
    · exact ⟨fun b hb => (hins.1 b hb).1, hins.2⟩
    · rw [(hG o' hn).2.2]
      exact ⟨fun b hb => (hF b ((h.ins o' x' hg).1 b hb)).2, (h.ins o' x' hg).2⟩
  · intro b hb hb'
    rcases hget o1 x1 h1 with ⟨rfl, _⟩ | ⟨hn, hg⟩ <;> rcases hget o2 x2 h2 with ⟨rfl, _⟩ | ⟨hn', hg'⟩
    · exact hne rfl
    · rw [(hG o2 hn').2.2] at hb'
      exact (hins.1 b hb).2 o2 x2 hg' hn' hb'
    · rw [(hG o1 hn).2.2] at hb
      exact (hins.1 b hb').2 o1 x1 hg hn hb
    · rw [(hG o1 hn).2.2] at hb
      rw [(hG o2 hn').2.2] at hb'
      exact h.ins2 o1 x1 o2 x2 hg hg' hne b hb hb'
  · rcases hF' b hb with hb' | ⟨h1, h2, h3, _⟩
    · exact ⟨(h.F b hb').1, (h.F b hb').2.1, Nat.lt_of_lt_of_le (h.F b hb').2.2 hs⟩
    · exact ⟨h1, h2, h3⟩
  · rcases hget o' x' hx' with ⟨rfl, rfl⟩ | ⟨hn, hg⟩
    · have hr : G'.root o' = G.root o' := by
        cases x' with
        | box t cs => exact (hc.box o' t cs (fun h => h) hx').1
        | row e rows d v hh => exact (hc.row o' e rows d v hh (fun h => h) hx').1
      exact hr.trans (h.par o' x hp hx)
    · exact (hG o' hn).1.trans (h.par o' x' hp hg)
end

end Go.Proofs.Ythjkpphjlmmkdaa.Vai
