/- Regions in their given order; no condition. -/
import Derived.Test.YthjkpphjlmmkdaaVaiOp
namespace Go.Proofs.Ythjkpphjlmmkdaa.Vai
open Go

section
variable {P : Program} {E : Env} {base : Nat} {M : List Nat} {S0 : Nat → Prop} {R0 : Id → Value} {w0 : World} {nt : Nat} {G : Gh} {st : St} {a : Act} {w : World} {look : Look}

theorem Rel.tmEq {st' : St} (h : Rel E base M S0 R0 w0 nt st a w) (ht : ∀ t, getT st'.tm t = getT st.tm t) (ho : st'.ob = st.ob) : Rel E base M S0 R0 w0 nt st' a w := by
  obtain ⟨G, h⟩ := h
  refine ⟨G, ?_⟩
  obtain ⟨q1, q2, q3, q4, q5, q6, q7, q8, q9, q10, q11, q12⟩ := h
  exact ⟨q1, q2, ho ▸ q3, ho ▸ q4, ho ▸ q5, ho ▸ q6, ho ▸ q7, q8, fun t => by rw [ht t, ho]; exact q9 t, q10, q11, ho ▸ q12⟩
theorem getT_applyD (st : St) (t : Nat) (d : Delta) : getT (applyD st (some t) d).tm t = d.v := by
  rw [applyD_eq]
  simp only [putD, getT_putT, if_true]
theorem evs_look (touch : List Id) (ob : List (Id × Obj)) : ∀ i x, (bif memId i touch then getO ob i else none) = some x → getO ob i = some x := fun i x h => by
  cases hm : memId i touch <;> rw [hm] at h
  · cases h
  · exact h
theorem yielded_b (h : RelG E base M S0 R0 w0 nt G st a w) {ops : Array Oper} {i ti : Nat} (hi : (ops[i]?).bind (·.dst) = some ti) {x : Bool} (hx : getT st.tm ti = .b x) : yielded ops a.tmps i = some x := by
  have := h.tmps ti
  rw [hx] at this
  generalize hv : a.tmps.getD ti undef = v at this
  cases this
  unfold yielded
  rw [hi]
  simp only [Option.bind_some]
  rw [Array.getD_eq_getD_getElem?] at hv
  cases he : a.tmps[ti]? with
  | none => rw [he] at hv; simp [undef] at hv
  | some u => rw [he] at hv; simp at hv; subst hv; rfl
theorem yielded_none (h : RelG E base M S0 R0 w0 nt G st a w) {ops : Array Oper} {i ti : Nat} (hi : (ops[i]?).bind (·.dst) = some ti) (hx : getT st.tm ti = .tup []) : yielded ops a.tmps i = none := by
  have := h.tmps ti
  rw [hx] at this
  generalize hv : a.tmps.getD ti undef = v at this
  cases this with
  | tup _ arr hl _ =>
    unfold yielded
    rw [hi]
    simp only [Option.bind_some]
    rw [Array.getD_eq_getD_getElem?] at hv
    cases he : a.tmps[ti]? with
    | none => rfl
    | some u => rw [he] at hv; simp at hv; subst hv; rfl
theorem undefR {ob : List (Id × Obj)} : VR E w S0 G ob (.tup []) undef := .tup [] #[] rfl (fun i v x hv => by simp at hv)

/-- one operation of a region, done or passed over, as the interpreter tells it -/
def Step1 (E : Env) (nt : Nat) (call : FuncId → List Dat → Option (List Dat)) (ops : List Oper) (o : Oper) (j : Nat) (st : St) (st' : St) (rc : Rec) : Prop :=
  ∀ (out : List Dat) (fin : List Rec → St → Option (List Dat)) (rest : List Oper) (rs : List Rec), runOps E nt call ops fin (o :: rest) j rs st = some out → runOps E nt call ops fin rest (j + 1) (rc :: rs) st' = some out

theorem runOps_cons (hE : EnvOk P E) (hnt : nt ≤ 1000000) {call : FuncId → List Dat → Option (List Dat)} (hC : CallR P E base M S0 R0 w0 nt call) {ops : Array Oper} {fin : List Rec → St → Option (List Dat)} {o : Oper} {rest : List Oper} {j : Nat} {rs : List Rec}
    (h : RelG E base M S0 R0 w0 nt G st a w) {out : List Dat} (hr : runOps E nt call ops.toList fin (o :: rest) j rs st = some out) :
    ∃ st' rc, runOps E nt call ops.toList fin rest (j + 1) (rc :: rs) st' = some out ∧
      (if Region.wanted o (yielded ops a.tmps) then ∀ Q, o.wp P a w (fun a' w' => Rel E base M S0 R0 w0 nt st' a' w') Q else Rel E base M S0 R0 w0 nt st' (a.put o.dst undef) w) := by
  have hops : ∀ i : Nat, ops.toList[i]? = ops[i]? := fun i => by simp
  -- the operation itself
  have exec : (let touch := touchOf st o
      let look : Look := fun i => bif memId i touch then getO st.ob i else none
      match iop E call look st.tm o with
      | none => none
      | some r => bif inB nt o.dst && r.g then r.o.bind fun ds =>
          let d := r.f ds
          let st' := applyD st o.dst d
          let rc : Rec := recOf ops.toList j o touch d
          bif guarded ops.toList j then match d.v, o.dst with
            | .b t, some dt => bif t then runOps E nt call ops.toList fin rest (j + 1) (rc :: rs) { st' with tm := putT st'.tm dt (.b true) }
                else runOps E nt call ops.toList fin rest (j + 1) (rc :: rs) { st' with tm := putT st'.tm dt (.b false) }
            | _, _ => none
          else runOps E nt call ops.toList fin rest (j + 1) (rc :: rs) st'
        else none) = some out → ∃ st' rc, runOps E nt call ops.toList fin rest (j + 1) (rc :: rs) st' = some out ∧ ∀ Q, o.wp P a w (fun a' w' => Rel E base M S0 R0 w0 nt st' a' w') Q := fun hX => by
    simp only at hX
    split at hX
    · cases hX
    · rename_i r hiop
      obtain ⟨hg, hX2⟩ := bifT hX
      simp only [Bool.and_eq_true] at hg
      simp only [Option.bind_eq_some_iff] at hX2
      obtain ⟨ds, hds, hX3⟩ := hX2
      have hwp := fun Q => iop_ok hE hnt hC h (evs_look _ _) hg.1 hiop hg.2 hds (Q := Q)
      cases hgd : guarded ops.toList j <;> rw [hgd] at hX3
      · exact ⟨_, _, hX3, hwp⟩
      · simp only [cond_true] at hX3
        split at hX3
        · rename_i t dt hdv hdst
          have key : ∀ b, b = t → runOps E nt call ops.toList fin rest (j + 1) (recOf ops.toList j o (touchOf st o) (r.f ds) :: rs) { applyD st o.dst (r.f ds) with tm := putT (applyD st o.dst (r.f ds)).tm dt (.b b) } = some out →
              ∃ st' rc, runOps E nt call ops.toList fin rest (j + 1) (rc :: rs) st' = some out ∧ ∀ Q, o.wp P a w (fun a' w' => Rel E base M S0 R0 w0 nt st' a' w') Q := fun b hb hrun => by
            subst hb
            refine ⟨_, _, hrun, fun Q => Oper.wp_mono (K := Nx E base M S0 R0 w0 nt st o.dst (r.f ds)) (fun a' w' hr => Rel.tmEq (st := applyD st o.dst (r.f ds)) hr (fun t' => ?_) rfl) (hwp Q)⟩
            simp only [getT_putT]
            split
            · rename_i e; subst e; rw [hdst, getT_applyD, hdv]
            · rfl
          cases ht : t <;> rw [ht] at hX3
          · exact key false ht.symm hX3
          · exact key true ht.symm hX3
        · cases hX3
  simp only [runOps] at hr
  cases hgu : o.guard with
  | none =>
    rw [hgu] at hr
    obtain ⟨st', rc, q1, q2⟩ := exec hr
    exact ⟨st', rc, q1, by simp only [Region.wanted, hgu, if_true]; exact q2⟩
  | some p =>
    obtain ⟨i, want⟩ := p
    rw [hgu] at hr
    simp only [hops] at hr
    split at hr
    · cases hr
    · rename_i ti hti
      -- passed over
      have pass : (bif !inB nt o.dst then none else runOps E nt call ops.toList fin rest (j + 1) (⟨j, o.dst, guardT ops.toList o, [], [], [], [], false⟩ :: rs) (applyD st o.dst { v := .tup [] })) = some out →
          ∃ st' rc, runOps E nt call ops.toList fin rest (j + 1) (rc :: rs) st' = some out ∧ Rel E base M S0 R0 w0 nt st' (a.put o.dst undef) w := fun hp => by
        cases hb : inB nt o.dst <;> rw [hb] at hp
        · cases hp
        · exact ⟨_, _, hp, G, h.done_pure hb undefR⟩
      split at hr
      · rename_i x hx
        have hy := yielded_b h hti hx
        cases hxw : (x == want) with
        | true =>
          rw [hxw] at hr
          obtain ⟨st', rc, q1, q2⟩ := exec hr
          have : Region.wanted o (yielded ops a.tmps) = true := by
            simp only [Region.wanted, hgu, hy]
            simpa using hxw
          exact ⟨st', rc, q1, by rw [if_pos this]; exact q2⟩
        | false =>
          rw [hxw] at hr
          obtain ⟨st', rc, q1, q2⟩ := pass hr
          have : ¬ Region.wanted o (yielded ops a.tmps) = true := by
            simp only [Region.wanted, hgu, hy]
            simpa using hxw
          exact ⟨st', rc, q1, by rw [if_neg this]; exact q2⟩
      · rename_i hx
        have hy := yielded_none h hti hx
        obtain ⟨st', rc, q1, q2⟩ := pass hr
        have : ¬ Region.wanted o (yielded ops a.tmps) = true := by
          simp only [Region.wanted, hgu, hy]
          simp
        exact ⟨st', rc, q1, by rw [if_neg this]; exact q2⟩
      · cases hr

theorem runOps_ok (hE : EnvOk P E) (hnt : nt ≤ 1000000) {call : FuncId → List Dat → Option (List Dat)} (hC : CallR P E base M S0 R0 w0 nt call) {ops : Array Oper} {fin : List Rec → St → Option (List Dat)} {out : List Dat} {Q : Exit → Act → World → Prop}
    (hQ : ∀ rs st a w, Rel E base M S0 R0 w0 nt st a w → fin rs st = some out → Q .normal a w) : ∀ (rest : List Oper) (j : Nat), ops.toList.drop j = rest → ∀ (rs : List Rec) (st : St) (a : Act) (w : World), Rel E base M S0 R0 w0 nt st a w →
    runOps E nt call ops.toList fin rest j rs st = some out → wpOps P ops Q (List.range' j rest.length) a w
  | [], j, _, rs, st, a, w, h, hr => hQ rs st a w h hr
  | o :: rest, j, hj, rs, st, a, w, h, hr => by
    have ho : ops[j]? = some o := by
      have : (ops.toList.drop j)[0]? = some o := by rw [hj]; rfl
      simpa using this
    have hj' : ops.toList.drop (j + 1) = rest := by
      have : (ops.toList.drop j).drop 1 = rest := by rw [hj]; rfl
      rw [List.drop_drop] at this
      exact this
    obtain ⟨G, h⟩ := h
    obtain ⟨st', rc, q1, q2⟩ := runOps_cons hE hnt hC h hr
    have ih := runOps_ok hE hnt hC hQ rest (j + 1) hj' (rc :: rs) st'
    simp only [List.length_cons, List.range'_succ, wpOps, ho]
    split
    · rename_i hw
      rw [if_pos hw] at q2
      exact .inl (Oper.wp_mono (fun a' w' hh => ih a' w' hh q1) (q2 Q))
    · rename_i hw
      rw [if_neg hw] at q2
      exact ih _ _ q2 q1
end
end Go.Proofs.Ythjkpphjlmmkdaa.Vai
