/- The interpreter without rounds: what it answers with rounds enough; its equations; no condition. -/
import Derived.Test.YthjkpphjlmmkdaaVaiLevel
namespace Go.Proofs.Ythjkpphjlmmkdaa.Vai
open Go

section
variable {E : Env}
abbrev CallT := FuncId → List Dat → Option (List Dat)

theorem opCall_call {call : CallT} {look : Look} {t : Nat} {f : FuncId} {vs : List AV} {r : OpRes} (h : opCall E call look t f vs = some r) :
    ∃ ds, r.o = call f ds ∧ ∀ call' : CallT, opCall E call' look t f vs = some ⟨r.g, call' f ds, r.f⟩ := by
  unfold opCall at h ⊢
  split at h
  · cases h
  · rename_i fn hfn
    try rw [hfn]
    try simp only
    split at h
    · rename_i hm
      try rw [hm]
      try simp only
      split at h
      · rename_i ps rs hps hrs
        try rw [hps]
        try rw [hrs]
        try simp only
        split at h
        · cases h
        · rename_i ds hds
          try rw [hds]
          try simp only
          cases hf : argsFit ps vs <;> rw [hf] at h
          · cases h
          · cases h
            exact ⟨ds, rfl, fun _ => rfl⟩
      · cases h
    · rename_i hm
      try rw [hm]
      try simp only
      split at h
      · rename_i ps rs hps hrs
        try rw [hps]
        try rw [hrs]
        try simp only
        split at h
        · rename_i ds ms hds hms
          try rw [hds]
          try rw [hms]
          try simp only
          obtain ⟨hb, h⟩ := bifT h
          try rw [hb]
          cases h
          exact ⟨ds, rfl, fun _ => rfl⟩
        · cases h
      · cases h
    · rename_i pt hm
      try rw [hm]
      try simp only
      split at h
      · rename_i o us ti ps rs hti hps hrs
        try rw [hti]
        try rw [hps]
        try rw [hrs]
        try simp only
        split at h
        · rename_i bt cells hl
          try rw [hl]
          try simp only
          split at h
          · rename_i cs ds hcs hds
            try rw [hcs]
            try rw [hds]
            try simp only
            obtain ⟨hb, h⟩ := bifT h
            try rw [hb]
            cases h
            exact ⟨_, rfl, fun _ => rfl⟩
          · cases h
        · cases h
      · cases h
    · rename_i pt hm
      try rw [hm]
      try simp only
      split at h
      · rename_i o us ti ps rs hti hps hrs
        try rw [hti]
        try rw [hps]
        try rw [hrs]
        try simp only
        split at h
        · rename_i bt cells hl
          try rw [hl]
          try simp only
          split at h
          · rename_i g ds hg hds
            try rw [hg]
            try rw [hds]
            try simp only
            obtain ⟨hb, h⟩ := bifT h
            try rw [hb]
            cases h
            exact ⟨_, rfl, fun _ => rfl⟩
          · cases h
        · cases h
      · cases h
    · rename_i pt hm
      try rw [hm]
      try simp only
      split at h
      · rename_i ti ps hti hps
        try rw [hti]
        try rw [hps]
        try simp only
        split at h
        · rename_i ds hds
          try rw [hds]
          try simp only
          obtain ⟨hb, h⟩ := bifT h
          try rw [hb]
          cases h
          exact ⟨_, rfl, fun _ => rfl⟩
        · cases h
      · cases h
theorem iop_call {call : CallT} {look : Look} {tm : List (Nat × AV)} {o : Oper} {r : OpRes} (h : iop E call look tm o = some r) :
    (∀ call' : CallT, iop E call' look tm o = some r) ∨ ∃ f ds, r.o = call f ds ∧ ∀ call' : CallT, iop E call' look tm o = some ⟨r.g, call' f ds, r.f⟩ := by
  unfold iop at h ⊢
  cases hop : o.op <;> rw [hop] at h <;> simp only at h ⊢
  all_goals first
    | (exact .inl fun _ => h)
    | skip
  case slice ty x lo hi mx =>
    cases mx with
    | none => exact .inl fun _ => h
    | some m => cases h
  case call c =>
    obtain ⟨cal, args, tys⟩ := c
    cases cal with
    | builtin b => exact .inl fun _ => h
    | value f =>
      cases f with
      | func f =>
        obtain ⟨ds, h1, h2⟩ := opCall_call h
        exact .inr ⟨f, ds, h1, h2⟩
      | _ => cases h
    | _ => cases h

/-- what one answers the other answers -/
def LeO {α : Type} (x y : Option α) : Prop := ∀ a, x = some a → y = some a

theorem runOps_le {nt : Nat} {call call' : CallT} (hc : ∀ f ds, LeO (call f ds) (call' f ds)) {ops : List Oper} {fin fin' : List Rec → St → Option (List Dat)} (hf : ∀ rs st, LeO (fin rs st) (fin' rs st)) :
    ∀ (rest : List Oper) (j : Nat) (rs : List Rec) (st : St), LeO (runOps E nt call ops fin rest j rs st) (runOps E nt call' ops fin' rest j rs st)
  | [], j, rs, st => hf rs st
  | o :: rest, j, rs, st => by
    have ih := runOps_le (nt := nt) (ops := ops) hc hf rest (j + 1)
    intro out h
    have exec : (let touch := touchOf st o
      let look : Look := fun i => bif memId i touch then getO st.ob i else none
      match iop E call look st.tm o with
      | none => none
      | some r => bif inB nt o.dst && r.g then r.o.bind fun ds =>
          let d := r.f ds
          let st' := applyD st o.dst d
          let rc : Rec := recOf ops j o touch d
          bif guarded ops j then match d.v, o.dst with
            | .b t, some dt => bif t then runOps E nt call ops fin rest (j + 1) (rc :: rs) { st' with tm := putT st'.tm dt (.b true) }
                else runOps E nt call ops fin rest (j + 1) (rc :: rs) { st' with tm := putT st'.tm dt (.b false) }
            | _, _ => none
          else runOps E nt call ops fin rest (j + 1) (rc :: rs) st'
        else none) = some out → (let touch := touchOf st o
      let look : Look := fun i => bif memId i touch then getO st.ob i else none
      match iop E call' look st.tm o with
      | none => none
      | some r => bif inB nt o.dst && r.g then r.o.bind fun ds =>
          let d := r.f ds
          let st' := applyD st o.dst d
          let rc : Rec := recOf ops j o touch d
          bif guarded ops j then match d.v, o.dst with
            | .b t, some dt => bif t then runOps E nt call' ops fin' rest (j + 1) (rc :: rs) { st' with tm := putT st'.tm dt (.b true) }
                else runOps E nt call' ops fin' rest (j + 1) (rc :: rs) { st' with tm := putT st'.tm dt (.b false) }
            | _, _ => none
          else runOps E nt call' ops fin' rest (j + 1) (rc :: rs) st'
        else none) = some out := fun hX => by
      simp only at hX ⊢
      split at hX
      · cases hX
      · rename_i r hiop
        obtain ⟨hg, hX2⟩ := bifT hX
        simp only [Option.bind_eq_some_iff] at hX2
        obtain ⟨ds, hds, hX3⟩ := hX2
        have hiop' : ∃ r', iop E call' (fun i => bif memId i (touchOf st o) then getO st.ob i else none) st.tm o = some r' ∧ r'.g = r.g ∧ r'.o = some ds ∧ r'.f = r.f := by
          rcases iop_call hiop with h1 | ⟨f, ds', h1, h2⟩
          · exact ⟨r, h1 call', rfl, hds, rfl⟩
          · refine ⟨_, h2 call', rfl, hc _ _ _ ?_, rfl⟩
            rw [← h1]; exact hds
        obtain ⟨r', q1, q2, q3, q4⟩ := hiop'
        rw [q1]
        simp only [q2, hg, cond_true, q3, Option.bind_some, q4]
        cases hgd : guarded ops j <;> rw [hgd] at hX3
        · exact ih _ _ _ hX3
        · simp only [cond_true] at hX3 ⊢
          split at hX3
          · rename_i t dt hdv hdst
            try rw [hdv]
            try simp only
            cases t
            · exact ih _ _ _ hX3
            · exact ih _ _ _ hX3
          · cases hX3
    simp only [runOps] at h ⊢
    cases hgu : o.guard with
    | none =>
      rw [hgu] at h
      exact exec h
    | some p =>
      obtain ⟨i, want⟩ := p
      rw [hgu] at h
      simp only at h ⊢
      split at h
      · cases h
      · rename_i ti hti
        try rw [hti]
        try simp only
        have pass : (bif !inB nt o.dst then none else runOps E nt call ops fin rest (j + 1) (⟨j, o.dst, guardT ops o, [], [], [], [], false⟩ :: rs) (applyD st o.dst { v := .tup [] })) = some out →
            (bif !inB nt o.dst then none else runOps E nt call' ops fin' rest (j + 1) (⟨j, o.dst, guardT ops o, [], [], [], [], false⟩ :: rs) (applyD st o.dst { v := .tup [] })) = some out := fun hp => by
          cases hb : inB nt o.dst <;> rw [hb] at hp
          · cases hp
          · exact ih _ _ _ hp
        split at h
        · rename_i x hx
          try rw [hx]
          try simp only
          cases hxw : (x == want) <;> rw [hxw] at h
          · exact pass h
          · exact exec h
        · rename_i hx
          try rw [hx]
          exact pass h
        · cases h

theorem runN_le {f : FuncId} {fn : Func} {again again' : List Item → St → Option (List Dat)} {call call' : CallT} (hc : ∀ f ds, LeO (call f ds) (call' f ds)) (ha : ∀ items st, LeO (again items st) (again' items st)) :
    ∀ (n : Nat) (items : List Item) (st : St), LeO (runN E f fn again call n items st) (runN E f fn again' call' n items st) := by
  intro n
  induction n with
  | zero => intro items st out h; simp [runN] at h
  | succ n ih =>
    intro items st out h
    simp only [runN] at h ⊢
    split at h
    · exact h
    · exact h
    · exact ih _ _ _ h
    · exact ih _ _ _ h
    · exact ih _ _ _ h
    · split at h
      · rename_i t ht
        cases t
        · exact ih _ _ _ h
        · exact ih _ _ _ h
      · cases h
    · exact ih _ _ _ h
    · exact ha _ _ _ h
    · exact ha _ _ _ h
    · split at h
      · exact ih _ _ _ h
      · cases h
    · refine runOps_le hc (fun rs st' out' h' => ?_) _ _ _ _ _ h
      obtain ⟨hb, h'⟩ := bifT h'
      rw [hb]
      exact ih _ _ _ h'
    · cases h

theorem level_le : ∀ (k : Nat), (∀ f ds, LeO ((level E k).1 f ds) ((level E (k + 1)).1 f ds)) ∧ ∀ f items st, LeO ((level E k).2 f items st) ((level E (k + 1)).2 f items st)
  | 0 => ⟨fun f ds out h => (by cases h), fun f items st out h => (by cases h)⟩
  | k + 1 => by
    obtain ⟨i1, i2⟩ := level_le k
    refine ⟨fun f ds out h => ?_, fun f items st out h => ?_⟩
    · rw [level] at h
      rw [level]
      simp only at h ⊢
      cases hx : E.X f with
      | some g => rw [hx] at h; exact h
      | none =>
        rw [hx] at h
        simp only at h ⊢
        cases hfn : E.F f with
        | none => rw [hfn] at h; cases h
        | some fn =>
          rw [hfn] at h
          simp only at h ⊢
          cases hb : fn.body with
          | none => rw [hb] at h; cases h
          | some c =>
            cases hi : init E f fn ds with
            | none => rw [hb, hi] at h; cases h
            | some st0 =>
              rw [hb, hi] at h
              exact runN_le i1 (i2 f) _ _ _ _ h
    · rw [level] at h
      rw [level]
      simp only at h ⊢
      cases hfn : E.F f with
      | none => rw [hfn] at h; cases h
      | some fn =>
        rw [hfn] at h
        try simp only at h
        try simp only
        split at h
        · rename_i heq
          cases heq
          exact runN_le i1 (i2 f) _ _ _ _ h
        · cases h
theorem level_le' {k k' : Nat} (h : k ≤ k') : (∀ f ds, LeO ((level E k).1 f ds) ((level E k').1 f ds)) ∧ ∀ f items st, LeO ((level E k).2 f items st) ((level E k').2 f items st) := by
  induction h with
  | refl => exact ⟨fun _ _ _ h => h, fun _ _ _ _ h => h⟩
  | step h ih => exact ⟨fun f ds out hh => (level_le _).1 f ds out (ih.1 f ds out hh), fun f items st out hh => (level_le _).2 f items st out (ih.2 f items st out hh)⟩

/-- A function's answer. -/
noncomputable def callI (E : Env) (f : FuncId) (ds : List Dat) : Option (List Dat) :=
  open Classical in if h : ∃ k out, (level E k).1 f ds = some out then some h.choose_spec.choose else none
/-- A loop's answer. -/
noncomputable def loopI (E : Env) (f : FuncId) (items : List Item) (st : St) : Option (List Dat) :=
  open Classical in if h : ∃ k out, (level E k).2 f items st = some out then some h.choose_spec.choose else none
theorem callI_iff {f : FuncId} {ds out : List Dat} : callI E f ds = some out ↔ ∃ k, (level E k).1 f ds = some out := by
  unfold callI
  constructor
  · intro h
    split at h
    · rename_i hx
      cases h
      exact ⟨hx.choose, hx.choose_spec.choose_spec⟩
    · cases h
  · rintro ⟨k, h⟩
    have hx : ∃ k out, (level E k).1 f ds = some out := ⟨k, out, h⟩
    rw [dif_pos hx]
    have h1 := hx.choose_spec.choose_spec
    have h2 := (level_le' (E := E) (Nat.le_max_left k hx.choose)).1 f ds out h
    have h3 := (level_le' (E := E) (Nat.le_max_right k hx.choose)).1 f ds _ h1
    rw [h2] at h3
    exact h3.symm
theorem loopI_iff {f : FuncId} {items : List Item} {st : St} {out : List Dat} : loopI E f items st = some out ↔ ∃ k, (level E k).2 f items st = some out := by
  unfold loopI
  constructor
  · intro h
    split at h
    · rename_i hx
      cases h
      exact ⟨hx.choose, hx.choose_spec.choose_spec⟩
    · cases h
  · rintro ⟨k, h⟩
    have hx : ∃ k out, (level E k).2 f items st = some out := ⟨k, out, h⟩
    rw [dif_pos hx]
    have h1 := hx.choose_spec.choose_spec
    have h2 := (level_le' (E := E) (Nat.le_max_left k hx.choose)).2 f items st out h
    have h3 := (level_le' (E := E) (Nat.le_max_right k hx.choose)).2 f items st _ h1
    rw [h2] at h3
    exact h3.symm

/-- an answer of the whole is an answer from some round on -/
def Evt (x : Nat → Option (List Dat)) (out : List Dat) : Prop := ∃ k, ∀ k', k ≤ k' → x k' = some out
theorem callI_evt {f : FuncId} {ds out : List Dat} (h : callI E f ds = some out) : Evt (fun k => (level E k).1 f ds) out := by
  obtain ⟨k, hk⟩ := callI_iff.mp h
  exact ⟨k, fun k' h' => (level_le' h').1 f ds out hk⟩
theorem loopI_evt {f : FuncId} {items : List Item} {st : St} {out : List Dat} (h : loopI E f items st = some out) : Evt (fun k => (level E k).2 f items st) out := by
  obtain ⟨k, hk⟩ := loopI_iff.mp h
  exact ⟨k, fun k' h' => (level_le' h').2 f items st out hk⟩

theorem runOps_evt {nt : Nat} {ops : List Oper} {fin : List Rec → St → Option (List Dat)} {fink : Nat → List Rec → St → Option (List Dat)} (hf : ∀ rs st out, fin rs st = some out → Evt (fun k => fink k rs st) out) :
    ∀ (rest : List Oper) (j : Nat) (rs : List Rec) (st : St) (out : List Dat), runOps E nt (callI E) ops fin rest j rs st = some out → Evt (fun k => runOps E nt (level E k).1 ops (fink k) rest j rs st) out
  | [], j, rs, st, out, h => hf rs st out h
  | o :: rest, j, rs, st, out, h => by
    have ih := runOps_evt (nt := nt) (ops := ops) hf rest (j + 1)
    have exec : (let touch := touchOf st o
      let look : Look := fun i => bif memId i touch then getO st.ob i else none
      match iop E (callI E) look st.tm o with
      | none => none
      | some r => bif inB nt o.dst && r.g then r.o.bind fun ds =>
          let d := r.f ds
          let st' := applyD st o.dst d
          let rc : Rec := recOf ops j o touch d
          bif guarded ops j then match d.v, o.dst with
            | .b t, some dt => bif t then runOps E nt (callI E) ops fin rest (j + 1) (rc :: rs) { st' with tm := putT st'.tm dt (.b true) }
                else runOps E nt (callI E) ops fin rest (j + 1) (rc :: rs) { st' with tm := putT st'.tm dt (.b false) }
            | _, _ => none
          else runOps E nt (callI E) ops fin rest (j + 1) (rc :: rs) st'
        else none) = some out → Evt (fun k => (let touch := touchOf st o
      let look : Look := fun i => bif memId i touch then getO st.ob i else none
      match iop E (level E k).1 look st.tm o with
      | none => none
      | some r => bif inB nt o.dst && r.g then r.o.bind fun ds =>
          let d := r.f ds
          let st' := applyD st o.dst d
          let rc : Rec := recOf ops j o touch d
          bif guarded ops j then match d.v, o.dst with
            | .b t, some dt => bif t then runOps E nt (level E k).1 ops (fink k) rest (j + 1) (rc :: rs) { st' with tm := putT st'.tm dt (.b true) }
                else runOps E nt (level E k).1 ops (fink k) rest (j + 1) (rc :: rs) { st' with tm := putT st'.tm dt (.b false) }
            | _, _ => none
          else runOps E nt (level E k).1 ops (fink k) rest (j + 1) (rc :: rs) st'
        else none)) out := fun hX => by
      simp only at hX ⊢
      split at hX
      · cases hX
      · rename_i r hiop
        obtain ⟨hg, hX2⟩ := bifT hX
        simp only [Option.bind_eq_some_iff] at hX2
        obtain ⟨ds, hds, hX3⟩ := hX2
        have hiop' : ∃ k1, ∀ k, k1 ≤ k → ∃ r', iop E (level E k).1 (fun i => bif memId i (touchOf st o) then getO st.ob i else none) st.tm o = some r' ∧ r'.g = r.g ∧ r'.o = some ds ∧ r'.f = r.f := by
          rcases iop_call hiop with h1 | ⟨f, ds', h1, h2⟩
          · exact ⟨0, fun k _ => ⟨r, h1 _, rfl, hds, rfl⟩⟩
          · rw [h1] at hds
            obtain ⟨k1, hk1⟩ := callI_evt hds
            exact ⟨k1, fun k hk => ⟨_, h2 _, rfl, hk1 k hk, rfl⟩⟩
        obtain ⟨k1, hk1⟩ := hiop'
        have fin' : ∀ {rs' : List Rec} {st' : St}, runOps E nt (callI E) ops fin rest (j + 1) rs' st' = some out → ∃ k2, ∀ k, k2 ≤ k → runOps E nt (level E k).1 ops (fink k) rest (j + 1) rs' st' = some out := fun hh => ih _ _ _ hh
        cases hgd : guarded ops j <;> rw [hgd] at hX3
        · obtain ⟨k2, hk2⟩ := fin' hX3
          refine ⟨max k1 k2, fun k hk => ?_⟩
          obtain ⟨r', q1, q2, q3, q4⟩ := hk1 k (by omega)
          simp only [q1, q2, hg, cond_true, q3, Option.bind_some, q4, cond_false]
          exact hk2 k (by omega)
        · simp only [cond_true] at hX3
          split at hX3
          · rename_i t dt hdv hdst
            have both : ∀ b : Bool, t = b → runOps E nt (callI E) ops fin rest (j + 1) (recOf ops j o (touchOf st o) (r.f ds) :: rs) { applyD st o.dst (r.f ds) with tm := putT (applyD st o.dst (r.f ds)).tm dt (.b b) } = some out → Evt (fun k => (match iop E (level E k).1 (fun i => bif memId i (touchOf st o) then getO st.ob i else none) st.tm o with
                | none => none
                | some r => bif inB nt o.dst && r.g then r.o.bind fun ds =>
                  bif true then match (r.f ds).v, o.dst with
                    | .b t, some dt => bif t then runOps E nt (level E k).1 ops (fink k) rest (j + 1) (recOf ops j o (touchOf st o) (r.f ds) :: rs) { applyD st o.dst (r.f ds) with tm := putT (applyD st o.dst (r.f ds)).tm dt (.b true) }
                        else runOps E nt (level E k).1 ops (fink k) rest (j + 1) (recOf ops j o (touchOf st o) (r.f ds) :: rs) { applyD st o.dst (r.f ds) with tm := putT (applyD st o.dst (r.f ds)).tm dt (.b false) }
                    | _, _ => none
                  else runOps E nt (level E k).1 ops (fink k) rest (j + 1) (recOf ops j o (touchOf st o) (r.f ds) :: rs) (applyD st o.dst (r.f ds))
                else none)) out := fun b hb hr => by
              obtain ⟨k2, hk2⟩ := fin' hr
              refine ⟨max k1 k2, fun k hk => ?_⟩
              obtain ⟨r', q1, q2, q3, q4⟩ := hk1 k (by omega)
              have hg2 : (inB nt (some dt) && r.g) = true := by rw [← hdst]; exact hg
              simp only [q1, q2, hg2, cond_true, q3, Option.bind_some, q4, hdv, hdst]
              have := hk2 k (by omega)
              rw [hdst] at this
              subst hb
              cases t
              · simpa using this
              · simpa using this
            have hh : ∃ b, t = b ∧ runOps E nt (callI E) ops fin rest (j + 1) (recOf ops j o (touchOf st o) (r.f ds) :: rs) { applyD st o.dst (r.f ds) with tm := putT (applyD st o.dst (r.f ds)).tm dt (.b b) } = some out := by
              cases t
              · exact ⟨false, rfl, hX3⟩
              · exact ⟨true, rfl, hX3⟩
            obtain ⟨b, hb1, hb2⟩ := hh
            exact both b hb1 hb2
          · cases hX3
    simp only [runOps] at h ⊢
    cases hgu : o.guard with
    | none =>
      rw [hgu] at h
      exact exec h
    | some p =>
      obtain ⟨i, want⟩ := p
      rw [hgu] at h
      simp only at h ⊢
      cases hti : (ops[i]?).bind (·.dst) with
      | none => rw [hti] at h; cases h
      | some ti =>
        rw [hti] at h
        simp only at h ⊢
        have pass : (bif !inB nt o.dst then none else runOps E nt (callI E) ops fin rest (j + 1) (⟨j, o.dst, guardT ops o, [], [], [], [], false⟩ :: rs) (applyD st o.dst { v := .tup [] })) = some out →
            Evt (fun k => (bif !inB nt o.dst then none else runOps E nt (level E k).1 ops (fink k) rest (j + 1) (⟨j, o.dst, guardT ops o, [], [], [], [], false⟩ :: rs) (applyD st o.dst { v := .tup [] }))) out := fun hp => by
          cases hb : inB nt o.dst <;> rw [hb] at hp
          · cases hp
          · exact ih _ _ _ hp
        split at h
        · rename_i x hx
          try simp only [hx]
          cases hxw : (x == want) <;> rw [hxw] at h
          · exact pass h
          · exact exec h
        · rename_i hx
          try simp only [hx]
          exact pass h
        · cases h
theorem runN_evt {f : FuncId} {fn : Func} : ∀ (n : Nat) (items : List Item) (st : St) (out : List Dat), runN E f fn (loopI E f) (callI E) n items st = some out → Evt (fun k => runN E f fn ((level E k).2 f) (level E k).1 n items st) out := by
  intro n
  induction n with
  | zero => intro items st out h; simp [runN] at h
  | succ n ih =>
    intro items st out h
    simp only [runN] at h ⊢
    split at h
    · exact ⟨0, fun _ _ => h⟩
    · exact ⟨0, fun _ _ => h⟩
    · exact ih _ _ _ h
    · exact ih _ _ _ h
    · exact ih _ _ _ h
    · split at h
      · rename_i t ht
        cases t
        · (try simp only [ht]); exact ih _ _ _ h
        · (try simp only [ht]); exact ih _ _ _ h
      · cases h
    · exact ih _ _ _ h
    · exact loopI_evt h
    · exact loopI_evt h
    · split at h
      · rename_i r' hx
        try simp only [hx]
        exact ih _ _ _ h
      · cases h
    · refine runOps_evt (fun rs st' out' h' => ?_) _ _ _ _ _ h
      obtain ⟨hb, h'⟩ := bifT h'
      simp only [hb, cond_true]
      exact ih _ _ _ h'
    · cases h

/-- A function's answer is the run of its body. -/
theorem callI_eq {f : FuncId} {fn : Func} {c : Code} {ds : List Dat} {st : St} (hx : E.X f = none) (hf : E.F f = some fn) (hb : fn.body = some c) (hi : init E f fn ds = some st) :
    callI E f ds = runN E f fn (loopI E f) (callI E) budget [.code c] st := by
  have hk : ∀ k, (level E (k + 1)).1 f ds = runN E f fn ((level E k).2 f) (level E k).1 budget [.code c] st := fun k => by
    rw [level]
    simp only [hx, hf, hb, hi]
  have h1 : ∀ out, callI E f ds = some out → runN E f fn (loopI E f) (callI E) budget [.code c] st = some out := fun out h => by
    obtain ⟨k, hk'⟩ := callI_iff.mp h
    have := (level_le (E := E) k).1 f ds out hk'
    rw [hk] at this
    exact runN_le (fun f ds out h => callI_iff.mpr ⟨k, h⟩) (fun items st out h => loopI_iff.mpr ⟨k, h⟩) _ _ _ _ this
  have h2 : ∀ out, runN E f fn (loopI E f) (callI E) budget [.code c] st = some out → callI E f ds = some out := fun out h => by
    obtain ⟨k, hk'⟩ := runN_evt _ _ _ _ h
    have h3 := hk' k (Nat.le_refl _)
    simp only at h3
    rw [← hk] at h3
    exact callI_iff.mpr ⟨k + 1, h3⟩
  cases h : callI E f ds with
  | some out => exact (h1 out h).symm
  | none =>
    cases h' : runN E f fn (loopI E f) (callI E) budget [.code c] st with
    | none => rfl
    | some out => rw [h2 out h'] at h; cases h
/-- A loop's answer is the run of its body, and then the loop again. -/
theorem loopI_eq {f : FuncId} {fn : Func} {c : Code} {r : List Item} {st : St} (hf : E.F f = some fn) :
    loopI E f (.inLoop c :: r) st = runN E f fn (loopI E f) (callI E) budget (.code c :: .inLoop c :: r) st := by
  have hk : ∀ k, (level E (k + 1)).2 f (.inLoop c :: r) st = runN E f fn ((level E k).2 f) (level E k).1 budget (.code c :: .inLoop c :: r) st := fun k => by
    rw [level]
    simp only [hf]
  have h1 : ∀ out, loopI E f (.inLoop c :: r) st = some out → runN E f fn (loopI E f) (callI E) budget (.code c :: .inLoop c :: r) st = some out := fun out h => by
    obtain ⟨k, hk'⟩ := loopI_iff.mp h
    have := (level_le (E := E) k).2 f _ st out hk'
    rw [hk] at this
    exact runN_le (fun f ds out h => callI_iff.mpr ⟨k, h⟩) (fun items st out h => loopI_iff.mpr ⟨k, h⟩) _ _ _ _ this
  have h2 : ∀ out, runN E f fn (loopI E f) (callI E) budget (.code c :: .inLoop c :: r) st = some out → loopI E f (.inLoop c :: r) st = some out := fun out h => by
    obtain ⟨k, hk'⟩ := runN_evt _ _ _ _ h
    have h3 := hk' k (Nat.le_refl _)
    simp only at h3
    rw [← hk] at h3
    exact loopI_iff.mpr ⟨k + 1, h3⟩
  cases h : loopI E f (.inLoop c :: r) st with
  | some out => exact (h1 out h).symm
  | none =>
    cases h' : runN E f fn (loopI E f) (callI E) budget (.code c :: .inLoop c :: r) st with
    | none => rfl
    | some out => rw [h2 out h'] at h; cases h
def isLoop : List Item → Bool
  | .inLoop _ :: _ => true
  | _ => false
def enterL : List Item → List Item
  | .inLoop c :: r => .code c :: .inLoop c :: r
  | x => x
theorem loopI_at {f : FuncId} {fn : Func} {items : List Item} {st : St} (hf : E.F f = some fn) (hl : isLoop items = true) :
    loopI E f items st = runN E f fn (loopI E f) (callI E) budget (enterL items) st := by
  unfold isLoop at hl
  split at hl
  · exact loopI_eq hf
  · cases hl
/-- the loops of a function's body: what is to do at their heads -/
def loopsOf : Code → List Item → List (List Item)
  | .seq a b, r => loopsOf a (.code b :: r) ++ loopsOf b r
  | .block id c, r => loopsOf c (.inBlock id :: r)
  | .cond _ x y, r => loopsOf x r ++ loopsOf y r
  | .loop c, r => (.inLoop c :: r) :: loopsOf c (.inLoop c :: r)
  | _, _ => []
def loopAt (fn : Func) (k : Nat) : List Item := match fn.body with
  | some c => (loopsOf c []).getD k []
  | none => []
/-- the run of a function -/
noncomputable def runF (E : Env) (f : FuncId) (ds : List Dat) : Option (List Dat) := match E.F f with
  | some fn => match fn.body, init E f fn ds with
    | some c, some st => runN E f fn (loopI E f) (callI E) budget [.code c] st
    | _, _ => none
  | none => none
noncomputable def runL (E : Env) (f : FuncId) (k : Nat) (st : St) : Option (List Dat) := match E.F f with
  | some fn => runN E f fn (loopI E f) (callI E) budget (enterL (loopAt fn k)) st
  | none => none
noncomputable def loopK (E : Env) (f : FuncId) (k : Nat) (st : St) : Option (List Dat) := match E.F f with
  | some fn => loopI E f (loopAt fn k) st
  | none => none
theorem callI_run {f : FuncId} {ds : List Dat} (hx : E.X f = none) (hd : (match E.F f with
    | some fn => fn.body.isSome && (init E f fn ds).isSome
    | none => false) = true) : callI E f ds = runF E f ds := by
  unfold runF
  split at hd
  · rename_i fn hf
    try rw [hf]
    simp only [Bool.and_eq_true] at hd
    obtain ⟨c, hc⟩ := Option.isSome_iff_exists.mp hd.1
    obtain ⟨st, hs⟩ := Option.isSome_iff_exists.mp hd.2
    simp only [hc, hs]
    exact callI_eq hx hf hc hs
  · cases hd
theorem loopK_run {f : FuncId} {k : Nat} {st : St} (hd : (match E.F f with
    | some fn => isLoop (loopAt fn k)
    | none => false) = true) : loopK E f k st = runL E f k st := by
  unfold loopK runL
  split at hd
  · rename_i fn hf
    try rw [hf]
    exact loopI_at hf hd
  · cases hd
/-- A function that is told. -/
theorem callI_X {f : FuncId} {ds : List Dat} {g : List Dat → Option (List Dat)} (hx : E.X f = some g) : callI E f ds = g ds := by
  have hk : ∀ k, (level E (k + 1)).1 f ds = g ds := fun k => by
    rw [level]
    simp only [hx]
  cases h : callI E f ds with
  | some out =>
    obtain ⟨k, hk'⟩ := callI_iff.mp h
    have := (level_le (E := E) k).1 f ds out hk'
    rw [hk] at this
    exact this.symm
  | none =>
    cases h' : g ds with
    | none => rfl
    | some out =>
      have : callI E f ds = some out := callI_iff.mpr ⟨1, by rw [hk]; exact h'⟩
      rw [this] at h; cases h
end
end Go.Proofs.Ythjkpphjlmmkdaa.Vai
