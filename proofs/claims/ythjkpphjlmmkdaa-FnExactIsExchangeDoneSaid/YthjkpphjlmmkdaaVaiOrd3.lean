/- Regions whose order is open, the theorem: whatever order their edges allow, the end is one; no condition. -/
import Derived.Test.YthjkpphjlmmkdaaVaiOrd2
namespace Go.Proofs.Ythjkpphjlmmkdaa.Vai
open Go

section
variable {P : Program} {E : Env} {base : Nat} {M : List Nat} {S0 : Nat → Prop} {R0 : Id → Value} {w0 : World} {nt : Nat} {G : Gh} {st : St} {a : Act} {w : World}

theorem Rel.fs {st st' : St} (h : Rel E base M S0 R0 w0 nt st a w) (hs : fsOf st' = fsOf st) : Rel E base M S0 R0 w0 nt st' a w := by
  obtain ⟨G, h⟩ := h
  simp only [fsOf, FS.mk.injEq] at hs
  obtain ⟨ht, ho⟩ := hs
  have hc : Comp (fun _ => False) E w S0 G st.ob w G st'.ob := Comp.less fun o x hx => ⟨x, by rw [← ho]; exact hx, .inl rfl⟩
  have hob : ∀ o x, getO st'.ob o = some x → getO st.ob o = some x := fun o x hx => by rw [← ho]; exact hx
  refine ⟨G, ⟨h.kept, h.old, fun o x hx => ?_, fun o x hx => h.tops o x (hob o x hx), fun o x o' x' hx hx' => h.tops2 o x o' x' (hob o x hx) (hob o' x' hx'), fun o x hx => h.ins o x (hob o x hx), fun o x o' x' hx hx' => h.ins2 o x o' x' (hob o x hx) (hob o' x' hx'), h.F, fun t => ?_, h.defers, h.size, fun o x hp hx => h.par o x hp (hob o x hx)⟩⟩
  · have := h.objs o x (hob o x hx)
    cases x with
    | row e rows d v hh => exact this
    | box t cs =>
      obtain ⟨g, arr, et, h1, h2, h3, h4, h5, h6⟩ := this
      exact ⟨g, arr, et, h1, h2, h3, h4, h5, fun i v x hv hxx => ⟨(h6 i v x hv hxx).1.map hc noEx, (h6 i v x hv hxx).2⟩⟩
  · rw [ht]
    exact (h.tmps t).map hc noEx
theorem Rel.drew (h : Rel E base M S0 R0 w0 nt st a w) {n : Nat} : Rel E base M S0 R0 w0 nt st a { w with drawn := n } := by
  obtain ⟨G, h⟩ := h
  exact ⟨G, h.world (w' := { w with drawn := n }) ⟨h.kept.size, h.kept.heap, h.kept.os, h.kept.tape, h.kept.output⟩ (Nat.le_refl _) (fun _ _ => rfl) (fun _ _ => rfl) (fun _ _ _ _ _ => rfl)⟩

/-- one operation in the text's order: done or passed over -/
def Ent (E : Env) (nt : Nat) (call : FuncId → List Dat → Option (List Dat)) (ops : List Oper) (j : Nat) (st : St) (o : Oper) (d : Delta) (rc : Rec) : Prop :=
  inB nt o.dst = true ∧ RecOk rc (o.dst, d) ∧ rc.idx = j ∧
  ((∃ r ds, iop E call (lookOf st o) st.tm o = some r ∧ r.g = true ∧ r.o = some ds ∧ r.f ds = d ∧ rc.reads = tmpsOf o.op.operands.toList ++ guardT ops o ∧ rc.touch = touchOf st o ∧
      (o.guard = none ∨ ∃ i want ti, o.guard = some (i, want) ∧ (ops[i]?).bind (·.dst) = some ti ∧ getT st.tm ti = .b want)) ∨
   (d = { v := .tup [] } ∧ rc.reads = guardT ops o ∧ ∃ i want ti, o.guard = some (i, want) ∧ (ops[i]?).bind (·.dst) = some ti ∧ (getT st.tm ti = .b (!want) ∨ getT st.tm ti = .tup [])))
inductive Tr (E : Env) (nt : Nat) (call : FuncId → List Dat → Option (List Dat)) (ops : List Oper) : List Oper → Nat → St → List (Option Nat × Delta) → List Rec → St → Prop
  | nil (j : Nat) (st : St) : Tr E nt call ops [] j st [] [] st
  | cons (o : Oper) (rest : List Oper) (j : Nat) (st st' stf : St) (d : Delta) (rc : Rec) (L : List (Option Nat × Delta)) (rs : List Rec) (h : Ent E nt call ops j st o d rc) (hs : fsOf st' = fsOf (applyD st o.dst d))
      (ht : Tr E nt call ops rest (j + 1) st' L rs stf) : Tr E nt call ops (o :: rest) j st ((o.dst, d) :: L) (rc :: rs) stf

theorem runOps_tr {call : FuncId → List Dat → Option (List Dat)} {ops : List Oper} {fin : List Rec → St → Option (List Dat)} {out : List Dat} : ∀ {rest : List Oper} {j : Nat} {rs : List Rec} {st : St}, runOps E nt call ops fin rest j rs st = some out →
    ∃ L rs' stf, Tr E nt call ops rest j st L rs' stf ∧ fin (rs'.reverse ++ rs) stf = some out
  | [], j, rs, st, h => ⟨[], [], st, .nil j st, h⟩
  | o :: rest, j, rs, st, h => by
    have fin' : ∀ {d : Delta} {rc : Rec} {st' : St}, Ent E nt call ops j st o d rc → fsOf st' = fsOf (applyD st o.dst d) → runOps E nt call ops fin rest (j + 1) (rc :: rs) st' = some out →
        ∃ L rs' stf, Tr E nt call ops (o :: rest) j st L rs' stf ∧ fin (rs'.reverse ++ rs) stf = some out := fun he hs hr => by
      obtain ⟨L, rs', stf, h1, h2⟩ := runOps_tr hr
      exact ⟨_, _, stf, .cons _ _ _ _ _ _ _ _ _ _ he hs h1, by simpa using h2⟩
    have exec : (o.guard = none ∨ ∃ i want ti, o.guard = some (i, want) ∧ (ops[i]?).bind (·.dst) = some ti ∧ getT st.tm ti = .b want) → (let touch := touchOf st o
      let look : Look := fun i => bif memId i touch then getO st.ob i else none
      match iop E call look st.tm o with
      | none => none
      | some r => bif inB nt o.dst && r.g then r.o.bind fun ds =>
          let d := r.f ds
          let st' := applyD st o.dst d
          let rc : Rec := recOf ops j o touch d
          bif guarded ops j then match d.v, o.dst with
            | .b t, some dt => bif t then runOps E nt call ops fin rest (j + 1) (rc :: rs) { st' with tm := putT st'.tm dt (.b true) }
                else runOps E nt call ops fin rest (j + 1) (rc :: rs) { st' with tm := putT st'.tm dt (.b false) }
            | _, _ => none
          else runOps E nt call ops fin rest (j + 1) (rc :: rs) st'
        else none) = some out → ∃ L rs' stf, Tr E nt call ops (o :: rest) j st L rs' stf ∧ fin (rs'.reverse ++ rs) stf = some out := fun hgd hX => by
      simp only at hX
      split at hX
      · cases hX
      · rename_i r hiop
        obtain ⟨hg, hX2⟩ := bifT hX
        simp only [Bool.and_eq_true] at hg
        simp only [Option.bind_eq_some_iff] at hX2
        obtain ⟨ds, hds, hX3⟩ := hX2
        have he : Ent E nt call ops j st o (r.f ds) (recOf ops j o (touchOf st o) (r.f ds)) := ⟨hg.1, recOf_ok, rfl, .inl ⟨r, ds, hiop, hg.2, hds, rfl, rfl, rfl, hgd⟩⟩
        cases hgu : guarded ops j <;> rw [hgu] at hX3
        · exact fin' he rfl hX3
        · simp only [cond_true] at hX3
          split at hX3
          · rename_i t dt hdv hdst
            have key : ∀ b, b = t → fsOf { applyD st o.dst (r.f ds) with tm := putT (applyD st o.dst (r.f ds)).tm dt (.b b) } = fsOf (applyD st o.dst (r.f ds)) := fun b hb => by
              subst hb
              simp only [fsOf, FS.mk.injEq, and_true]
              funext t'
              rw [getT_putT]
              split
              · rename_i e; subst e; rw [hdst, getT_applyD, hdv]
              · rfl
            cases ht : t <;> rw [ht] at hX3
            · exact fin' he (key false ht.symm) hX3
            · exact fin' he (key true ht.symm) hX3
          · cases hX3
    simp only [runOps] at h
    cases hgu : o.guard with
    | none =>
      rw [hgu] at h
      exact exec (.inl hgu) h
    | some p =>
      obtain ⟨i, want⟩ := p
      rw [hgu] at h
      simp only at h
      split at h
      · cases h
      · rename_i ti hti
        have pass : (getT st.tm ti = .b (!want) ∨ getT st.tm ti = .tup []) → (bif !inB nt o.dst then none else runOps E nt call ops fin rest (j + 1) (⟨j, o.dst, guardT ops o, [], [], [], [], false⟩ :: rs) (applyD st o.dst { v := .tup [] })) = some out →
            ∃ L rs' stf, Tr E nt call ops (o :: rest) j st L rs' stf ∧ fin (rs'.reverse ++ rs) stf = some out := fun hv hp => by
          cases hb : inB nt o.dst <;> rw [hb] at hp
          · cases hp
          · exact fin' ⟨hb, pass_ok, rfl, .inr ⟨rfl, rfl, i, want, ti, hgu, hti, hv⟩⟩ rfl hp
        split at h
        · rename_i x hx
          cases hxw : (x == want) with
          | true =>
            rw [hxw] at h
            have : x = want := by simpa using hxw
            exact exec (.inr ⟨i, want, ti, hgu, hti, by rw [hx, this]⟩) h
          | false =>
            rw [hxw] at h
            have : x = !want := by cases x <;> cases want <;> simp at hxw ⊢
            exact pass (.inl (by rw [hx, this])) h
        · rename_i hx; exact pass (.inr hx) h
        · cases h

/-- what is looked at, said plainly -/
structure Chk (ops : List Oper) (L : List (Option Nat × Delta)) (rs : List Rec) (s0 : FS) : Prop where
  rc : ∀ (i : Nat) p rc, L[i]? = some p → rs[i]? = some rc → RecOk rc p ∧ rc.nm = false ∧ ∀ k ∈ rc.nws, NoR k s0
  pair : ∀ (i j : Nat) x y, j < i → rs[i]? = some x → rs[j]? = some y → disjI x.nws (y.vids ++ y.writes) = true ∧ (j ∈ (befores ops []).getD i [] ∨ apart x y = true)
  edge : ∀ (i : Nat) o, ops[i]? = some o → ∀ e ∈ o.after.toList, Region.binds .any e = true → e.on < i
  len : L.length = ops.length ∧ rs.length = ops.length

def Closed (B : List (List Nat)) (X : Nat → Bool) : Prop := ∀ j, X j = true → ∀ i ∈ B.getD j [], X i = true

variable {ops : List Oper} {L : List (Option Nat × Delta)} {rs : List Rec} {s0 : FS}

theorem Chk.before_lt (c : Chk ops L rs s0) : ∀ (n j : Nat), j < n → ∀ i ∈ (befores ops []).getD j [], i < j
  | 0, _, h => by omega
  | n + 1, j, h => by
    intro i hi
    cases ho : ops[j]? with
    | none =>
      exfalso
      have hlen : ∀ (r : List Oper) (acc : List (List Nat)), (befores r acc).length = acc.length + r.length := by
        intro r
        induction r with
        | nil => intro acc; rfl
        | cons o r ih => intro acc; simp only [befores, ih, List.length_append, List.length_cons, List.length_nil]; omega
      have : ops.length ≤ j := by simpa using ho
      rw [List.getD_eq_getElem?_getD, List.getElem?_eq_none (by rw [hlen]; simpa using this)] at hi
      simp at hi
    | some o =>
      have := befores_get ops [] j o ho i (by simpa using hi)
      obtain ⟨e, h1, h2, h3⟩ := this
      have hlt := c.edge j o ho e h1 h2
      rcases h3 with rfl | h3
      · exact hlt
      · have := c.before_lt n e.on (by omega) i h3
        omega
theorem Chk.closed_lt (c : Chk ops L rs s0) (j : Nat) : Closed (befores ops []) (fun k => decide (k < j)) := fun k hk i hi => by
  have := c.before_lt (k + 1) k (by omega) i hi
  simp only [decide_eq_true_eq] at hk ⊢
  omega

theorem apart_spec {x y : Rec} (h : apart x y = true) : (∀ d, x.dst = some d → d ∉ y.reads ∧ y.dst ≠ some d) ∧ (∀ d, y.dst = some d → d ∉ x.reads) ∧ (∀ i ∈ x.writes, i ∉ y.touch ∧ i ∉ y.writes) ∧ (∀ i ∈ y.writes, i ∉ x.touch) ∧ ∀ i ∈ y.nws, i ∉ x.vids := by
  simp only [apart, Bool.and_eq_true] at h
  obtain ⟨h1, h2, h3, h4, h5⟩ := h
  have nb : ∀ {l : List Nat} {d : Nat}, (!(l.any (Nat.beq d))) = true → d ∉ l := fun {l d} hh hm => by
    have : l.any (Nat.beq d) = true := List.any_eq_true.mpr ⟨d, hm, Nat.beq_refl d⟩
    rw [this] at hh
    cases hh
  refine ⟨fun d hd => ?_, fun d hd => ?_, fun i hi => ?_, fun i hi => disjI_iff.mp h4 i hi, fun i hi => disjI_iff.mp h5 i hi⟩
  · rw [hd] at h1
    simp only [Bool.and_eq_true] at h1
    refine ⟨nb h1.1, fun hy => ?_⟩
    have h12 := h1.2
    rw [hy] at h12
    simp only [Nat.beq_refl, Bool.not_true] at h12
    cases h12
  · rw [hd] at h2
    exact nb h2
  · have := disjI_iff.mp h3 i hi
    simpa using this

section
variable {X : Nat → Bool} {i : Nat}
/-- the pairs that count when i is next after X -/
theorem Chk.later (c : Chk ops L rs s0) (hcl : Closed (befores ops []) X) (hi : X i = false) {x : Rec} (hx : rs[i]? = some x) {m : Nat} {y : Rec} (hy : rs[m]? = some y) (hm : i < m) (hX : X m = true) : apart y x = true := by
  rcases (c.pair m i y x hm hy hx).2 with h | h
  · have := hcl m hX i h
    rw [hi] at this; cases this
  · exact h
theorem Chk.earlier (c : Chk ops L rs s0) (hb : ∀ k ∈ (befores ops []).getD i [], X k = true) {x : Rec} (hx : rs[i]? = some x) {m : Nat} {y : Rec} (hy : rs[m]? = some y) (hm : m < i) (hX : X m = false) : apart x y = true := by
  rcases (c.pair i m x y hm hx hy).2 with h | h
  · have := hb m h
    rw [hX] at this; cases this
  · exact h
theorem Chk.recAt (c : Chk ops L rs s0) {m : Nat} {p : Option Nat × Delta} (hp : L[m]? = some p) : ∃ y, rs[m]? = some y ∧ RecOk y p ∧ y.nm = false ∧ ∀ k ∈ y.nws, NoR k s0 := by
  have hlt : m < rs.length := by
    have := (List.getElem?_eq_some_iff.mp hp).1
    have := c.len
    omega
  obtain ⟨h1, h2, h3⟩ := c.rc m p rs[m] hp (List.getElem?_eq_getElem hlt)
  exact ⟨rs[m], List.getElem?_eq_getElem hlt, h1, h2, h3⟩
theorem Chk.noR (c : Chk ops L rs s0) (hcl : Closed (befores ops []) X) (hi : X i = false) {x : Rec} {p : Option Nat × Delta} (hx : rs[i]? = some x) (hp : L[i]? = some p) : ∀ k ∈ x.nws, NoR k (fX X L 0 s0) := by
  intro k hk
  obtain ⟨x', hx', h1, h2, h3⟩ := c.recAt hp
  rw [hx] at hx'
  cases hx'
  refine fX_noR (h3 k hk) fun m q hq hX => ?_
  have hX : X m = true := by simpa using hX
  obtain ⟨y, hy, r1, r2, r3⟩ := c.recAt hq
  have hk' : k ∉ y.vids := by
    rcases Nat.lt_trichotomy m i with hlt | heq | hgt
    · intro hv
      exact disjI_iff.mp (c.pair i m x y hlt hx hy).1 k hk (by simp [hv])
    · subst heq; rw [hi] at hX; cases hX
    · exact (apart_spec (c.later hcl hi hx hy hgt hX)).2.2.2.2 k hk
  exact ⟨fun h => hk' (r1.v k h), fun o t cells ho h => hk' (r1.box o t cells ho k h)⟩
theorem Chk.step (c : Chk ops L rs s0) (hcl : Closed (befores ops []) X) (hi : X i = false) {o : Oper} {d : Delta} (hp : L[i]? = some (o.dst, d)) {st1 : St} (hs : fsOf st1 = fX X L 0 s0) : fsOf (applyD st1 o.dst d) = fX (addX X i) L 0 s0 := by
  obtain ⟨x, hx, h1, h2, h3⟩ := c.recAt hp
  obtain ⟨n1, n2⟩ := h1.nm h2
  rw [applyD_fs n1 (fun k hk => by rw [hs]; exact c.noR hcl hi hx hp k (by rw [h1.nws]; exact hk)) n2, hs]
  refine (fX_add hi (by omega) hp fun m q hq hm hX => ?_).symm
  have hX : X m = true := by simpa using hX
  obtain ⟨y, hy, r1, r2, r3⟩ := c.recAt hq
  have ha := apart_spec (c.later hcl hi hx hy hm hX)
  refine ⟨fun t ht hd => ?_, fun k => ?_⟩
  · exact (ha.1 t (by rw [r1.dst]; exact ht)).2 (by rw [h1.dst]; exact hd)
  · by_cases hw : k ∈ y.writes
    · exact .inr (h1.wr k (ha.2.2.1 k hw).2)
    · exact .inl (r1.wr k hw)
theorem addX_lt (j : Nat) : addX (fun k => decide (k < j)) j = fun k => decide (k < j + 1) := by
  funext k
  simp only [addX]
  by_cases h : k = j
  · subst h; simp
  · rw [if_neg h]
    by_cases h2 : k < j
    · simp [h2]; omega
    · simp [h2]; omega
end

theorem Tr.at {call : FuncId → List Dat → Option (List Dat)} (c : Chk ops L rs s0) : ∀ {rest : List Oper} {j : Nat} {st stf : St} {L' : List (Option Nat × Delta)} {rs' : List Rec}, Tr E nt call ops rest j st L' rs' stf → L.drop j = L' → rs.drop j = rs' → fsOf st = fX (fun k => decide (k < j)) L 0 s0 →
    (∀ (k : Nat) o, rest[k]? = some o → ∃ st1 d rc, L[j + k]? = some (o.dst, d) ∧ rs[j + k]? = some rc ∧ Ent E nt call ops (j + k) st1 o d rc ∧ fsOf st1 = fX (fun m => decide (m < j + k)) L 0 s0) ∧ fsOf stf = fX (fun k => decide (k < j + rest.length)) L 0 s0 := by
  intro rest j st stf L' rs' h
  induction h with
  | nil j st => exact fun _ _ hs => ⟨fun k o h => by simp at h, hs⟩
  | cons o rest j st st' stf d rc L' rs' he hst ht ih =>
    intro hL hR hs
    have hp : L[j]? = some (o.dst, d) := by
      have : (L.drop j)[0]? = some (o.dst, d) := by rw [hL]; rfl
      simpa using this
    have hr : rs[j]? = some rc := by
      have : (rs.drop j)[0]? = some rc := by rw [hR]; rfl
      simpa using this
    have hs' : fsOf st' = fX (fun k => decide (k < j + 1)) L 0 s0 := by
      rw [hst, c.step (c.closed_lt j) (by simp) hp hs, addX_lt]
    obtain ⟨i1, i2⟩ := ih (by rw [← List.drop_drop, hL]; rfl) (by rw [← List.drop_drop, hR]; rfl) hs'
    refine ⟨fun k q hq => ?_, by rw [i2]; simp only [List.length_cons]; rw [show j + 1 + rest.length = j + (rest.length + 1) by omega]⟩
    cases k with
    | zero =>
      simp only [List.getElem?_cons_zero, Option.some.injEq] at hq
      subst hq
      exact ⟨st, d, rc, hp, hr, he, hs⟩
    | succ k =>
      have := i1 k q (by simpa using hq)
      rw [show j + 1 + k = j + (k + 1) by omega] at this
      exact this
theorem Tr.len {call : FuncId → List Dat → Option (List Dat)} {rest : List Oper} {j : Nat} {st stf : St} (h : Tr E nt call ops rest j st L rs stf) : L.length = rest.length ∧ rs.length = rest.length := by
  induction h with
  | nil => exact ⟨rfl, rfl⟩
  | cons o rest j st st' stf d rc L rs he hs ht ih => simp [ih]
theorem Tr.recs {call : FuncId → List Dat → Option (List Dat)} {rest : List Oper} {j : Nat} {st stf : St} (h : Tr E nt call ops rest j st L rs stf) : ∀ (i : Nat) p rc, L[i]? = some p → rs[i]? = some rc → RecOk rc p ∧ rc.idx = j + i := by
  induction h with
  | nil => intro i p rc h; simp at h
  | cons o rest j st st' stf d rc L rs he hs ht ih =>
    intro i p rc' hp hr
    cases i with
    | zero =>
      simp only [List.getElem?_cons_zero, Option.some.injEq] at hp hr
      subst hp; subst hr
      exact ⟨he.2.1, he.2.2.1⟩
    | succ i =>
      obtain ⟨h1, h2⟩ := ih i p rc' (by simpa using hp) (by simpa using hr)
      exact ⟨h1, by omega⟩

theorem obIds_get {ob : List (Id × Obj)} {o : Id} {t : TypeId} {cells : List AV} (h : getO ob o = some (.box t cells)) : ∀ k ∈ idsL cells, k ∈ obIds ob := by
  induction ob with
  | nil => simp [getO] at h
  | cons p ob ih =>
    obtain ⟨k0, x⟩ := p
    intro k hk
    simp only [getO] at h
    cases he : idEq k0 o <;> rw [he] at h
    · have := ih h k hk
      cases x <;> simp [obIds, this]
    · cases h; simp [obIds, hk]
theorem avs_get {tm : List (Nat × AV)} {t : Nat} : ∀ k ∈ idsA (getT tm t), k ∈ idsL (avsOf tm) := by
  induction tm with
  | nil => intro k hk; simp [getT, idsA] at hk
  | cons p tm ih =>
    obtain ⟨t0, v⟩ := p
    intro k hk
    simp only [getT] at hk
    simp only [avsOf, idsL, List.mem_append]
    cases hb : Nat.beq t0 t <;> rw [hb] at hk
    · exact .inr (ih k hk)
    · exact .inl hk
theorem indep_get {bs : List (List Nat)} : ∀ {l : List Rec}, indepAll bs l = true → ∀ (i j : Nat) x y, i < j → l[i]? = some x → l[j]? = some y → disjI x.nws (y.vids ++ y.writes) = true ∧ (y.idx ∈ bs.getD x.idx [] ∨ apart x y = true)
  | [], _, _, _, _, _, _, h, _ => by simp at h
  | z :: r, h, i, j, x, y, hij, hx, hy => by
    simp only [indepAll, Bool.and_eq_true, List.all_eq_true] at h
    cases i with
    | zero =>
      simp only [List.getElem?_cons_zero, Option.some.injEq] at hx
      subst hx
      obtain ⟨j', rfl⟩ : ∃ j', j = j' + 1 := ⟨j - 1, by omega⟩
      have hm : y ∈ r := List.mem_of_getElem? (by simpa using hy)
      obtain ⟨h1, h2⟩ := h.1 y hm
      refine ⟨h1, ?_⟩
      simp only [Bool.or_eq_true, List.any_eq_true] at h2
      rcases h2 with ⟨q, hq, hb⟩ | h2
      · exact .inl (by rw [beqT hb]; exact hq)
      · exact .inr h2
    | succ i =>
      obtain ⟨j', rfl⟩ : ∃ j', j = j' + 1 := ⟨j - 1, by omega⟩
      exact indep_get h.2 i j' x y (by omega) (by simpa using hx) (by simpa using hy)
theorem Tr.chk {call : FuncId → List Dat → Option (List Dat)} {st stf : St} (h : Tr E nt call ops ops 0 st L rs stf) (ho : orderOk ops st rs.reverse = true) : Chk ops L rs (fsOf st) where
  rc := fun i p rc hp hr => by
    simp only [orderOk, Bool.and_eq_true, List.all_eq_true] at ho
    have hm : rc ∈ rs.reverse := by simp [List.mem_of_getElem? hr]
    obtain ⟨h1, h2⟩ := ho.2.1 rc hm
    refine ⟨(h.recs i p rc hp hr).1, by simpa using h1, fun k hk => ?_⟩
    have := disjI_iff.mp h2 k hk
    simp only [List.mem_append, not_or] at this
    exact ⟨fun t ht => this.1 (avs_get k ht), fun o t cells hc hh => this.2.1 (obIds_get hc k hh)⟩
  pair := fun i j x y hij hx hy => by
    simp only [orderOk, Bool.and_eq_true] at ho
    have hli := (List.getElem?_eq_some_iff.mp hx).1
    have hlj := (List.getElem?_eq_some_iff.mp hy).1
    have := indep_get ho.2.2 (rs.length - 1 - i) (rs.length - 1 - j) x y (by omega) (by rw [List.getElem?_reverse (by omega)]; rw [show rs.length - 1 - (rs.length - 1 - i) = i by omega]; exact hx) (by rw [List.getElem?_reverse (by omega)]; rw [show rs.length - 1 - (rs.length - 1 - j) = j by omega]; exact hy)
    have hL := h.len
    have e1 := (h.recs i L[i] x (List.getElem?_eq_getElem (by omega)) hx).2
    have e2 := (h.recs j L[j] y (List.getElem?_eq_getElem (by omega)) hy).2
    rw [e1, e2] at this
    simpa using this
  edge := fun i o ho' e he hb => by
    simp only [orderOk, Bool.and_eq_true] at ho
    have := edgesOk_get ho.1 ho' e he hb
    omega
  len := h.len
end
end Go.Proofs.Ythjkpphjlmmkdaa.Vai
