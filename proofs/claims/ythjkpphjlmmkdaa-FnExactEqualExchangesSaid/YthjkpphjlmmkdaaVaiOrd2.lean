/- Regions whose order is open, the theorem: whatever order their edges allow, the end is one; no condition. -/
import Derived.Test.YthjkpphjlmmkdaaVaiOrd
namespace Go.Proofs.Ythjkpphjlmmkdaa.Vai
open Go

/-! ## an operation hangs on its operands and on what it touches -/
theorem ev_at {tm tm' : List (Nat × AV)} {l : List Operand} (h : ∀ t ∈ tmpsOf l, getT tm t = getT tm' t) : ∀ x ∈ l, ev tm x = ev tm' x := by
  induction l with
  | nil => intro x hx; cases hx
  | cons y l ih =>
    intro x hx
    rcases List.mem_cons.mp hx with rfl | hx
    · cases x with
      | tmp t => exact h t (by simp [tmpsOf])
      | _ => rfl
    · refine ih (fun t ht => h t ?_) x hx
      cases y <;> simp [tmpsOf, ht]
theorem evs_at {tm tm' : List (Nat × AV)} : ∀ {l : List Operand}, (∀ x ∈ l, ev tm x = ev tm' x) → evs tm l = evs tm' l
  | [], _ => rfl
  | x :: l, h => by simp only [evs, h x (by simp), evs_at (l := l) (fun y hy => h y (by simp [hy]))]
theorem evp_at {tm tm' : List (Nat × AV)} : ∀ {l : List (Nat × Operand)}, (∀ x ∈ l.map (·.2), ev tm x = ev tm' x) → evp tm l = evp tm' l ∧ evpV tm l = evpV tm' l
  | [], _ => ⟨rfl, rfl⟩
  | (i, x) :: l, h => by
    obtain ⟨h1, h2⟩ := evp_at (l := l) (fun y hy => h y (by simp only [List.map_cons, List.mem_cons]; exact .inr hy))
    simp only [evp, evpV, h x (by simp), h1, h2, and_self]
theorem iop_at {E : Env} {call : FuncId → List Dat → Option (List Dat)} {look : Look} {tm tm' : List (Nat × AV)} {o : Oper} (h : ∀ x ∈ o.op.operands.toList, ev tm x = ev tm' x) : iop E call look tm o = iop E call look tm' o := by
  unfold iop
  cases hop : o.op <;> rw [hop] at h <;> simp only [Op.operands, List.mem_cons, List.not_mem_nil, or_false, forall_eq_or_imp, forall_eq, Array.toList_append] at h ⊢
  all_goals first
    | rfl
    | (simp only [h]; done)
    | skip
  case build ty ps =>
    obtain ⟨h1, h2⟩ := evp_at (l := ps.toList) (by simpa using h)
    rw [h1, h2]
  case buildSlice ty n ps =>
    obtain ⟨h1, h2⟩ := evp_at (l := ps.toList) (by simpa using h)
    rw [h1]
  case slice ty x lo hi mx =>
    cases mx with
    | some m => rfl
    | none =>
      have hx := h x (by simp)
      have hlo : evo tm lo = evo tm' lo := by
        cases lo with
        | none => rfl
        | some l => simp only [evo, h l (by simp)]
      have hhi : evo tm hi = evo tm' hi := by
        cases hi with
        | none => rfl
        | some l => simp only [evo, h l (by simp)]
      simp only [hx, hlo, hhi]
  case call c =>
    obtain ⟨cal, args, tys⟩ := c
    have ha : evs tm args.toList = evs tm' args.toList := evs_at fun x hx => h x (by
      simp only [Call.operands]
      cases cal <;> simp [hx])
    cases cal with
    | builtin b => simp only [ha]
    | value f =>
      cases f with
      | func f => simp only [ha]
      | _ => rfl
    | _ => rfl
theorem boxIds_at {ob ob' : List (Id × Obj)} : ∀ {l : List Id}, (∀ i ∈ l, getO ob i = getO ob' i) → boxIds l ob = boxIds l ob'
  | [], _ => rfl
  | i :: l, h => by simp only [boxIds, h i (by simp), boxIds_at (l := l) (fun j hj => h j (by simp [hj]))]
def lookOf (st : St) (o : Oper) : Look := fun i => bif memId i (touchOf st o) then getO st.ob i else none
theorem iop_local {E : Env} {call : FuncId → List Dat → Option (List Dat)} {st st' : St} {o : Oper} (ht : ∀ t ∈ tmpsOf o.op.operands.toList, getT st'.tm t = getT st.tm t) (ho : ∀ i ∈ touchOf st o, getO st'.ob i = getO st.ob i) :
    iop E call (lookOf st' o) st'.tm o = iop E call (lookOf st o) st.tm o := by
  have he := ev_at ht
  have hto : touchOf st' o = touchOf st o := by
    unfold touchOf
    rw [evs_at he, boxIds_at (fun i hi => ho i (by unfold touchOf; simp [hi]))]
  have hl : lookOf st' o = lookOf st o := funext fun i => by
    unfold lookOf
    rw [hto]
    cases hm : memId i (touchOf st o) with
    | false => rfl
    | true => exact ho i (memId_iff.mp hm)
  rw [hl]
  exact iop_at he

/-! ## what the records tell -/
structure RecOk (rc : Rec) (p : Option Nat × Delta) : Prop where
  dst : rc.dst = p.1
  wr : ∀ i, i ∉ rc.writes → ovO p.2 i = none
  v : ∀ k ∈ idsA p.2.v, k ∈ rc.vids
  box : ∀ i t cells, ovO p.2 i = some (some (.box t cells)) → ∀ k ∈ idsL cells, k ∈ rc.vids
  nws : rc.nws = keys p.2.nw
  nm : rc.nm = false → p.2.nm = false ∧ ∀ k ∈ keys p.2.nw, ∀ o t cells, findN p.2.up o = some (.box t cells) → k ∉ idsL cells
theorem findN_box {nw : List (Id × Obj)} {o : Id} {t : TypeId} {cells : List AV} (h : findN nw o = some (.box t cells)) : ∀ k ∈ idsL cells, k ∈ obIds nw := by
  induction nw with
  | nil => simp [findN] at h
  | cons p nw ih =>
    obtain ⟨k0, x⟩ := p
    simp only [findN] at h
    intro k hk
    split at h
    · rename_i y hy
      have := ih (by rw [hy]; exact h) k hk
      cases x <;> simp [obIds, this]
    · split at h
      · cases h; simp [obIds, hk]
      · cases h
theorem recOf_ok {ops : List Oper} {j : Nat} {o : Oper} {tc : List Id} {d : Delta} : RecOk (recOf ops j o tc d) (o.dst, d) where
  dst := rfl
  wr := fun i hi => by
    simp only [recOf, List.mem_append, not_or] at hi
    have f : ∀ {nw : List (Id × Obj)}, i ∉ keys nw → findN nw i = none := fun {nw} hk => by
      cases hf : findN nw i with
      | none => rfl
      | some x => exact absurd (findN_keys.mp ⟨x, hf⟩) hk
    simp only [ovO, f hi.1, f hi.2.1, f hi.2.2.1, if_neg hi.2.2.2]
  v := fun k hk => by simp [recOf, hk]
  box := fun i t cells h k hk => by
    simp only [ovO] at h
    simp only [recOf, List.mem_append]
    split at h
    · rename_i x hx; cases h; exact .inr (.inr (.inr (findN_box hx k hk)))
    · split at h
      · rename_i x hx; cases h; exact .inr (.inl (findN_box hx k hk))
      · split at h
        · rename_i x hx; cases h; exact .inr (.inr (.inl (findN_box hx k hk)))
        · split at h <;> cases h
  nws := rfl
  nm := fun h => by
    simp only [recOf, Bool.or_eq_false_iff, Bool.not_eq_false'] at h
    exact ⟨h.1, fun k hk o t cells hf hc => disjI_iff.mp h.2 k hk (findN_box hf k hc)⟩
theorem pass_ok {j : Nat} {dst : Option Nat} {rd : List Nat} : RecOk ⟨j, dst, rd, [], [], [], [], false⟩ (dst, { v := .tup [] }) where
  dst := rfl
  wr := fun i _ => by simp [ovO, findN]
  v := fun k hk => by simp [idsA, idsL] at hk
  box := fun i t cells h => by simp [ovO, findN] at h
  nws := rfl
  nm := fun _ => ⟨rfl, fun k hk => by simp [keys] at hk⟩

theorem fX_noR {X : Nat → Bool} {k : Id} : ∀ {L : List (Option Nat × Delta)} {j : Nat} {s : FS}, NoR k s → (∀ m p, L[m]? = some p → X (j + m) = true → k ∉ idsA p.2.v ∧ ∀ i t cells, ovO p.2 i = some (some (.box t cells)) → k ∉ idsL cells) → NoR k (fX X L j s)
  | [], _, _, h, _ => h
  | p :: r, j, s, h, hp => by
    simp only [fX]
    refine fX_noR ?_ (fun m q hq hx => hp (m + 1) q (by simpa using hq) (by rw [show j + (m + 1) = j + 1 + m by omega]; exact hx))
    cases hx : X j
    · simpa using h
    · simp only [if_true]
      obtain ⟨h1, h2⟩ := hp 0 p rfl hx
      refine ⟨fun t => ?_, fun o t cells hc => ?_⟩
      · simp only [FS.app]
        split
        · exact h1
        · exact h.1 t
      · simp only [FS.app] at hc
        cases ho : ovO p.2 o with
        | none => rw [ho] at hc; exact h.2 o t cells hc
        | some x =>
          rw [ho] at hc
          simp only [Option.getD_some] at hc
          subst hc
          exact h2 o t cells ho

/-! ## the table of what comes before -/
theorem after1_mem {acc : List (List Nat)} {o : Oper} {i : Nat} (h : i ∈ after1 acc o) : ∃ e ∈ o.after.toList, Region.binds .any e = true ∧ (i = e.on ∨ i ∈ acc.getD e.on []) := by
  unfold after1 at h
  have key : ∀ (l : List Edge) (s : List Nat), i ∈ l.foldl (fun s e => bif Region.binds .any e then e.on :: (acc.getD e.on [] ++ s) else s) s → i ∈ s ∨ ∃ e ∈ l, Region.binds .any e = true ∧ (i = e.on ∨ i ∈ acc.getD e.on []) := by
    intro l
    induction l with
    | nil => intro s h; exact .inl h
    | cons e l ih =>
      intro s h
      rcases ih _ h with h | ⟨e', h1, h2, h3⟩
      · simp only at h
        cases hb : Region.binds .any e
        · rw [hb] at h; exact .inl h
        · rw [hb] at h
          simp only [cond_true, List.mem_cons, List.mem_append] at h
          rcases h with h | h | h
          · exact .inr ⟨e, by simp, hb, .inl h⟩
          · exact .inr ⟨e, by simp, hb, .inr h⟩
          · exact .inl h
      · exact .inr ⟨e', by simp [h1], h2, h3⟩
  rcases key _ _ h with h | h
  · cases h
  · exact h
theorem befores_acc : ∀ (r : List Oper) (acc : List (List Nat)) (m : Nat), m < acc.length → (befores r acc).getD m [] = acc.getD m []
  | [], _, _, _ => rfl
  | o :: r, acc, m, h => by
    simp only [befores]
    rw [befores_acc r _ m (by simp; omega)]
    simp only [List.getD_eq_getElem?_getD]
    rw [List.getElem?_append_left h]
theorem befores_get : ∀ (r : List Oper) (acc : List (List Nat)) (k : Nat) (o : Oper), r[k]? = some o → ∀ i ∈ (befores r acc).getD (acc.length + k) [], ∃ e ∈ o.after.toList, Region.binds .any e = true ∧ (i = e.on ∨ i ∈ (befores r acc).getD e.on [])
  | [], _, _, _, h => by simp at h
  | q :: r, acc, 0, o, h => by
    simp only [List.getElem?_cons_zero, Option.some.injEq] at h
    subst h
    intro i hi
    simp only [befores, Nat.add_zero] at hi ⊢
    rw [befores_acc r _ _ (by simp)] at hi
    simp only [List.getD_eq_getElem?_getD] at hi
    rw [List.getElem?_append_right (Nat.le_refl _)] at hi
    simp only [Nat.sub_self, List.getElem?_cons_zero, Option.getD_some] at hi
    obtain ⟨e, h1, h2, h3⟩ := after1_mem hi
    refine ⟨e, h1, h2, h3.imp id fun h3 => ?_⟩
    by_cases hlt : e.on < acc.length
    · rw [befores_acc r _ _ (by simp; omega)]
      simp only [List.getD_eq_getElem?_getD] at h3 ⊢
      rw [List.getElem?_append_left hlt]
      exact h3
    · simp only [List.getD_eq_getElem?_getD, List.getElem?_eq_none (by omega : acc.length ≤ e.on)] at h3
      simp at h3
  | q :: r, acc, k + 1, o, h => by
    simp only [befores]
    have := befores_get r (acc ++ [after1 acc q]) k o (by simpa using h)
    simpa [Nat.add_assoc, Nat.add_comm 1 k] using this
theorem edgesOk_get : ∀ {r : List Oper} {j k : Nat} {o : Oper}, edgesOk r j = true → r[k]? = some o → ∀ e ∈ o.after.toList, Region.binds .any e = true → e.on < j + k
  | [], _, _, _, _, h => by simp at h
  | q :: r, j, k, o, h, hk => by
    simp only [edgesOk, Bool.and_eq_true, List.all_eq_true] at h
    intro e he hb
    cases k with
    | zero =>
      simp only [List.getElem?_cons_zero, Option.some.injEq] at hk
      subst hk
      have := h.1 e he
      rw [hb] at this
      have h2 : Nat.blt e.on j = true := by simpa using this
      exact Nat.le_of_ble_eq_true h2
    | succ k =>
      have := edgesOk_get h.2 (by simpa using hk) e he hb
      omega

end Go.Proofs.Ythjkpphjlmmkdaa.Vai
