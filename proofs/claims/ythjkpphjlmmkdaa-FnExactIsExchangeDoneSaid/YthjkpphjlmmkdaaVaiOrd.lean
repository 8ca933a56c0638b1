/- Regions whose order is open: whatever order their edges allow, the end is one; no condition. -/
import Derived.Test.YthjkpphjlmmkdaaVaiReg
import Derived.Orders
namespace Go.Proofs.Ythjkpphjlmmkdaa.Vai
open Go

/-! ## states by what they answer -/
structure FS where
  t : Nat → AV
  o : Id → Option Obj
def fsOf (st : St) : FS := ⟨getT st.tm, getO st.ob⟩
def ovO (d : Delta) (i : Id) : Option (Option Obj) :=
  match findN d.up2 i with
  | some x => some (some x)
  | none => match findN d.nw i with
    | some x => some (some x)
    | none => match findN d.up i with
      | some x => some (some x)
      | none => if i ∈ d.dl then some none else none
def FS.app (s : FS) (p : Option Nat × Delta) : FS :=
  ⟨fun t => if p.1 = some t then p.2.v else s.t t, fun i => (ovO p.2 i).getD (s.o i)⟩
def fX (X : Nat → Bool) : List (Option Nat × Delta) → Nat → FS → FS
  | [], _, s => s
  | p :: r, j, s => fX X r (j + 1) (if X j then s.app p else s)

theorem fX_t {X Y : Nat → Bool} {t : Nat} : ∀ {L : List (Option Nat × Delta)} {j : Nat} {s s' : FS}, (∀ k p, L[k]? = some p → X (j + k) ≠ Y (j + k) → p.1 ≠ some t) → s.t t = s'.t t → (fX X L j s).t t = (fX Y L j s').t t
  | [], _, _, _, _, h => h
  | p :: r, j, s, s', hp, h => by
    simp only [fX]
    refine fX_t (fun k q hq hne => hp (k + 1) q (by simpa using hq) (by rw [show j + (k + 1) = j + 1 + k by omega]; exact hne)) ?_
    have h0 := hp 0 p rfl
    cases hx : X j <;> cases hy : Y j <;> simp only [if_true, FS.app, Bool.false_eq_true, if_false]
    · exact h
    · rw [if_neg (h0 (by simp [hx, hy]))]; exact h
    · rw [if_neg (h0 (by simp [hx, hy]))]; exact h
    · rw [h]
theorem fX_o {X Y : Nat → Bool} {i : Id} : ∀ {L : List (Option Nat × Delta)} {j : Nat} {s s' : FS}, (∀ k p, L[k]? = some p → X (j + k) ≠ Y (j + k) → ovO p.2 i = none) → s.o i = s'.o i → (fX X L j s).o i = (fX Y L j s').o i
  | [], _, _, _, _, h => h
  | p :: r, j, s, s', hp, h => by
    simp only [fX]
    refine fX_o (fun k q hq hne => hp (k + 1) q (by simpa using hq) (by rw [show j + (k + 1) = j + 1 + k by omega]; exact hne)) ?_
    have h0 := hp 0 p rfl
    cases hx : X j <;> cases hy : Y j <;> simp only [if_true, FS.app, Bool.false_eq_true, if_false]
    · exact h
    · rw [h0 (by simp [hx, hy])]; exact h
    · rw [h0 (by simp [hx, hy])]; exact h
    · rw [h]
/-- do two deltas write apart? -/
def Ap (p q : Option Nat × Delta) : Prop := (∀ t, p.1 = some t → q.1 ≠ some t) ∧ ∀ i, ovO p.2 i = none ∨ ovO q.2 i = none
theorem Ap.comm {p q : Option Nat × Delta} (h : Ap p q) (s : FS) : (s.app p).app q = (s.app q).app p := by
  simp only [FS.app, FS.mk.injEq]
  refine ⟨funext fun t => ?_, funext fun i => ?_⟩
  · by_cases hq : q.1 = some t
    · rw [if_pos hq, if_neg (fun hp => h.1 t hp hq), if_pos hq]
    · rw [if_neg hq, if_neg hq]
  · rcases h.2 i with h | h <;> simp [h]
theorem fX_comm {X : Nat → Bool} {q : Option Nat × Delta} : ∀ {L : List (Option Nat × Delta)} {j : Nat} {s : FS}, (∀ k p, L[k]? = some p → X (j + k) = true → Ap p q) → fX X L j (s.app q) = (fX X L j s).app q
  | [], _, _, _ => rfl
  | p :: r, j, s, hp => by
    simp only [fX]
    have ih := fun s => fX_comm (X := X) (q := q) (L := r) (j := j + 1) (s := s) (fun k p' hp' hx => hp (k + 1) p' (by simpa using hp') (by rw [show j + (k + 1) = j + 1 + k by omega]; exact hx))
    cases hx : X j
    · simpa using ih s
    · simp only [if_true]
      rw [← ih, (hp 0 p rfl hx).comm]
def addX (X : Nat → Bool) (i : Nat) : Nat → Bool := fun k => if k = i then true else X k
theorem fX_out {X : Nat → Bool} {i : Nat} : ∀ {L : List (Option Nat × Delta)} {j : Nat} {s : FS}, i < j → fX (addX X i) L j s = fX X L j s
  | [], _, _, _ => rfl
  | p :: r, j, s, h => by
    simp only [fX]
    rw [fX_out (by omega)]
    simp only [addX, if_neg (show ¬ j = i by omega)]
theorem fX_add {X : Nat → Bool} {i : Nat} {q : Option Nat × Delta} (hX : X i = false) : ∀ {L : List (Option Nat × Delta)} {j k : Nat} {s : FS}, i = j + k → L[k]? = some q → (∀ m p, L[m]? = some p → k < m → X (j + m) = true → Ap p q) → fX (addX X i) L j s = (fX X L j s).app q
  | [], _, _, _, _, h, _ => by simp at h
  | p :: r, j, 0, s, hi, hq, hp => by
    simp only [List.getElem?_cons_zero, Option.some.injEq] at hq
    subst hq
    have hi : i = j := hi
    subst hi
    simp only [fX]
    rw [fX_out (by omega)]
    simp only [addX, if_true, hX, Bool.false_eq_true, if_false]
    exact fX_comm fun m p' hp' hx => hp (m + 1) p' (by simpa using hp') (by omega) (by rw [show i + (m + 1) = i + 1 + m by omega]; exact hx)
  | p :: r, j, k + 1, s, hi, hq, hp => by
    simp only [fX]
    rw [fX_add hX (j := j + 1) (k := k) (by omega) (by simpa using hq) (fun m p' hp' hk hx => hp (m + 1) p' (by simpa using hp') (by omega) (by rw [show j + (m + 1) = j + 1 + m by omega]; exact hx))]
    simp only [addX, if_neg (show ¬ j = i by omega)]

theorem fX_none : ∀ (L : List (Option Nat × Delta)) (j : Nat) (s : FS), fX (fun _ => false) L j s = s
  | [], _, _ => rfl
  | p :: r, j, s => by simp only [fX, Bool.false_eq_true, if_false]; exact fX_none r (j + 1) s
theorem fX_cong {X Y : Nat → Bool} : ∀ {L : List (Option Nat × Delta)} {j : Nat} {s : FS}, (∀ k, k < L.length → X (j + k) = Y (j + k)) → fX X L j s = fX Y L j s
  | [], _, _, _ => rfl
  | p :: r, j, s, h => by
    have h0 : X j = Y j := h 0 (by simp)
    simp only [fX, h0]
    exact fX_cong fun k hk => by
      have := h (k + 1) (by simpa using hk)
      rw [show j + (k + 1) = j + 1 + k by omega] at this
      exact this

/-! ## no killing -/
mutual
theorem killA_none {k : Id} : ∀ {v : AV}, k ∉ idsA v → killA k v = v
  | .own o, h => by simp only [idsA, List.mem_singleton] at h; simp only [killA, idEq_false.mpr h, cond_false]
  | .vw o _ _, h => by simp only [idsA, List.mem_singleton] at h; simp only [killA, idEq_false.mpr h, cond_false]
  | .nest o _ _ _ _ _ _, h => by simp only [idsA, List.mem_singleton] at h; simp only [killA, idEq_false.mpr h, cond_false]
  | .ptr o _ _, h => by simp only [idsA, List.mem_singleton] at h; simp only [killA, idEq_false.mpr h, cond_false]
  | .agg cs, h => by simp only [idsA] at h; simp only [killA, killL_none h]
  | .tup cs, h => by simp only [idsA] at h; simp only [killA, killL_none h]
  | .dead, _ => rfl
  | .i _ _, _ => rfl
  | .b _, _ => rfl
  | .s _, _ => rfl
  | .nil, _ => rfl
  | .ro _ _ _, _ => rfl
  | .pro _ _ _ _, _ => rfl
theorem killL_none {k : Id} : ∀ {vs : List AV}, k ∉ idsL vs → killL k vs = vs
  | [], _ => rfl
  | v :: r, h => by
    simp only [idsL, List.mem_append, not_or] at h
    simp only [killL, killA_none h.1, killL_none h.2]
end
/-- k is named nowhere in a state -/
def NoR (k : Id) (s : FS) : Prop := (∀ t, k ∉ idsA (s.t t)) ∧ ∀ o t cells, s.o o = some (.box t cells) → k ∉ idsL cells
theorem clear_fs (nw : List (Id × Obj)) : ∀ {st : St}, (∀ k ∈ keys nw, NoR k (fsOf st)) → (∀ t, getT (clearAll nw st).tm t = getT st.tm t) ∧ ∀ i, getO (clearAll nw st).ob i = if i ∈ keys nw then none else getO st.ob i := by
  induction nw with
  | nil => exact fun {st} _ => ⟨fun _ => rfl, fun i => by simp [keys, clearAll]⟩
  | cons p nw ih =>
    intro st h
    obtain ⟨k, x⟩ := p
    have hk := h k (by simp [keys])
    have ht : ∀ t, getT (killT k st.tm) t = getT st.tm t := fun t => by rw [getT_killT]; exact killA_none (hk.1 t)
    have ho : ∀ i, getO (killO k (delO st.ob k)) i = if i = k then none else getO st.ob i := fun i => by
      rw [getO_killO, getO_delO]
      by_cases hi : i = k
      · simp [hi]
      · simp only [if_neg hi]
        cases hg : getO st.ob i with
        | none => rfl
        | some y =>
          cases y with
          | row e rows d v h => rfl
          | box t cs => simp only [Option.map_some, killObj, killL_none (hk.2 i t cs hg)]
    obtain ⟨i1, i2⟩ := ih (st := { tm := killT k st.tm, ob := killO k (delO st.ob k) }) (fun k' hk' => by
      obtain ⟨h1, h2⟩ := h k' (by simp [keys, hk'])
      refine ⟨fun t => ?_, fun o t cells hc => ?_⟩
      · show k' ∉ idsA (getT (killT k st.tm) t)
        rw [ht]; exact h1 t
      · have hc : getO (killO k (delO st.ob k)) o = some (.box t cells) := hc
        rw [ho] at hc
        split at hc
        · cases hc
        · exact h2 o t cells hc)
    refine ⟨fun t => (i1 t).trans (ht t), fun i => (i2 i).trans ?_⟩
    simp only [keys, List.mem_cons]
    rw [ho]
    by_cases hi : i = k
    · simp [hi]
    · simp [hi]

theorem applyD_fs {st : St} {dst : Option Nat} {d : Delta} (hnm : d.nm = false) (hno : ∀ k ∈ keys d.nw, NoR k (fsOf st)) (hup : ∀ k ∈ keys d.nw, ∀ o t cells, findN d.up o = some (.box t cells) → k ∉ idsL cells) :
    fsOf (applyD st dst d) = (fsOf st).app (dst, d) := by
  rw [applyD_eq]
  simp only [hnm, cond_false]
  have hob : ∀ i, getO (upAll d.up (delAll d.dl st.ob)) i = match findN d.up i with
      | some x => some x
      | none => if i ∈ d.dl then none else getO st.ob i := fun i => by
    rw [getO_upAll, getO_delAll]
    cases findN d.up i <;> rfl
  obtain ⟨h1, h2⟩ := clear_fs d.nw (st := { tm := st.tm, ob := upAll d.up (delAll d.dl st.ob) }) (fun k hk => ⟨(hno k hk).1, fun o t cells hc => by
    have hc : getO (upAll d.up (delAll d.dl st.ob)) o = some (.box t cells) := hc
    rw [hob] at hc
    split at hc
    · rename_i x hx
      cases hc
      exact hup k hk o t cells hx
    · split at hc
      · cases hc
      · exact (hno k hk).2 o t cells hc⟩)
  have hO : ∀ i, getO (upAll d.up2 (upAll d.nw (clearAll d.nw { tm := st.tm, ob := upAll d.up (delAll d.dl st.ob) }).ob)) i = (ovO d i).getD (getO st.ob i) := fun i => by
    rw [getO_upAll, getO_upAll, h2, hob]
    unfold ovO
    cases findN d.up2 i with
    | some x => rfl
    | none =>
      cases hn : findN d.nw i with
      | some x => rfl
      | none =>
        have : i ∉ keys d.nw := fun hh => by
          obtain ⟨x, hx⟩ := findN_keys.mpr hh
          rw [hx] at hn; cases hn
        simp only [if_neg this]
        cases findN d.up i with
        | some x => rfl
        | none =>
          by_cases hd : i ∈ d.dl
          · simp [hd]
          · simp [hd]
  cases dst with
  | none =>
    simp only [putD, fsOf, FS.app, FS.mk.injEq]
    refine ⟨funext fun t => ?_, funext hO⟩
    rw [if_neg (by simp)]
    exact h1 t
  | some dt =>
    simp only [putD, fsOf, FS.app, FS.mk.injEq]
    refine ⟨funext fun t => ?_, funext hO⟩
    rw [getT_putT]
    by_cases ht : t = dt
    · simp [ht]
    · rw [if_neg ht, if_neg (fun e => ht (Option.some.inj e).symm)]
      exact h1 t

end Go.Proofs.Ythjkpphjlmmkdaa.Vai
