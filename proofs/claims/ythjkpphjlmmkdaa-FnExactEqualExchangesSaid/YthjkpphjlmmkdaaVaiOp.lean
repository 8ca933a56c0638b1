/- Every operation: what the interpreter says is what the machine does; no condition. -/
import Derived.Test.YthjkpphjlmmkdaaVaiCall2
namespace Go.Proofs.Ythjkpphjlmmkdaa.Vai
open Go

section
variable {P : Program} {E : Env} {base : Nat} {M : List Nat} {S0 : Nat → Prop} {R0 : Id → Value} {w0 : World} {nt : Nat} {G : Gh} {st : St} {a : Act} {w : World} {look : Look}

/-- what is done next -/
def Nx (E : Env) (base : Nat) (M : List Nat) (S0 : Nat → Prop) (R0 : Id → Value) (w0 : World) (nt : Nat) (st : St) (dst : Option Nat) (d : Delta) : Act → World → Prop :=
  fun a' w' => Rel E base M S0 R0 w0 nt (applyD st dst d) a' w'

theorem PureR.wp (h : RelG E base M S0 R0 w0 nt G st a w) {o : Oper} (hd : inB nt o.dst = true) {s : Sem Value} (hs : execOp a.eval o = (do pure (.value (← s)))) {r : OpRes} {out : List Dat} (ho : r.o = some out)
    (hp : PureR E S0 G st.ob (s.run P w) w r) {Q : Exit → Act → World → Prop} : o.wp P a w (Nx E base M S0 R0 w0 nt st o.dst (r.f out)) Q := by
  obtain ⟨x, v, h1, h2, h3, h4⟩ := hp
  rw [ho] at h1
  cases h1
  unfold Oper.wp
  rw [hs]
  simp only [Sem.run_bind, h3, Result.andThen_ok, Sem.run_pure, Oper.upon, Nx]
  rw [h2]
  exact ⟨G, h.done_pure hd h4⟩
theorem Stepped.wp {o : Oper} {s : Sem Value} (hs : execOp a.eval o = (do pure (.value (← s)))) {d : Delta} (hp : Stepped E base M S0 R0 w0 nt st a o.dst d (s.run P w)) {Q : Exit → Act → World → Prop} :
    o.wp P a w (Nx E base M S0 R0 w0 nt st o.dst d) Q := by
  obtain ⟨v, w', h1, h2⟩ := hp
  unfold Oper.wp
  rw [hs]
  simp only [Sem.run_bind, h1, Result.andThen_ok, Sem.run_pure, Oper.upon, Nx]
  exact h2
theorem SteppedU.wp {o : Oper} {s : Sem Unit} (hs : execOp a.eval o = (do s; pure .skip)) {d : Delta} (hp : SteppedU E base M S0 R0 w0 nt st a o.dst d (s.run P w)) {Q : Exit → Act → World → Prop} :
    o.wp P a w (Nx E base M S0 R0 w0 nt st o.dst d) Q := by
  obtain ⟨w', h1, h2⟩ := hp
  unfold Oper.wp
  rw [hs]
  simp only [Sem.run_bind, h1, Result.andThen_ok, Sem.run_pure, Oper.upon, Nx]
  exact h2

theorem slT (hE : EnvOk P E) {t : TypeId} {e : TypeId} {b : Nat} {fs : List (Nat × TypeId)} (h : E.T t = some ⟨[.sl e], b, false, fs⟩) : P.underlying t = some (.slice e) ∧ ∃ te, E.T e = some te := by
  obtain ⟨l, h1, h2⟩ := (hE.T _ _ h).single rfl
  cases h1
  exact ⟨h2, (hE.T _ _ h).elem e (by simp)⟩
theorem strT (hE : EnvOk P E) {t : TypeId} {b : Nat} {fs : List (Nat × TypeId)} (h : E.T t = some ⟨[.str], b, false, fs⟩) : P.underlying t = some .string := by
  obtain ⟨l, h1, h2⟩ := (hE.T _ _ h).single rfl
  cases h1
  exact h2
theorem intT (hE : EnvOk P E) {t : TypeId} {k : IntKind} {b : Nat} {fs : List (Nat × TypeId)} (h : E.T t = some ⟨[.int k], b, false, fs⟩) : P.underlying t = some (.int k) := by
  obtain ⟨l, h1, h2⟩ := (hE.T _ _ h).single rfl
  cases h1
  exact h2
theorem evo_ok (h : RelG E base M S0 R0 w0 nt G st a w) (x : Option Operand) : BndR E w S0 G st.ob (evo st.tm x) (x.map a.eval) := by
  cases x with
  | none => trivial
  | some x => exact h.ev x
theorem evs_ok (h : RelG E base M S0 R0 w0 nt G st a w) : ∀ (l : List Operand), (evs st.tm l).length = (l.map a.eval).length ∧ ∀ (i : Nat) (x : AV) (v : Value), (evs st.tm l)[i]? = some x → (l.map a.eval)[i]? = some v → VR E w S0 G st.ob x v
  | [] => ⟨rfl, fun i x v hx => by simp [evs] at hx⟩
  | y :: l => by
    obtain ⟨h1, h2⟩ := evs_ok h l
    refine ⟨by simp only [evs, List.length_cons, List.map_cons, h1], fun i x v hx hv => ?_⟩
    cases i with
    | zero => simp [evs] at hx hv; subst hx; subst hv; exact h.ev y
    | succ i => exact h2 i x v (by simpa [evs] using hx) (by simpa using hv)
theorem evp_ok (h : RelG E base M S0 R0 w0 nt G st a w) : ∀ (l : List (Nat × Operand)), (evp st.tm l).length = (l.map fun p => (p.1, a.eval p.2)).length ∧
    (∀ (i : Nat) (x : Nat × AV) (v : Nat × Value), (evp st.tm l)[i]? = some x → (l.map fun p => (p.1, a.eval p.2))[i]? = some v → x.1 = v.1 ∧ VR E w S0 G st.ob x.2 v.2) ∧ (∀ p ∈ evp st.tm l, p.2 ∈ evpV st.tm l)
  | [] => ⟨rfl, (fun i x v hx => by simp [evp] at hx), (fun p hp => by simp [evp] at hp)⟩
  | (n, y) :: l => by
    obtain ⟨h1, h2, h3⟩ := evp_ok h l
    refine ⟨by simp only [evp, List.length_cons, List.map_cons, h1], fun i x v hx hv => ?_, fun p hp => ?_⟩
    · cases i with
      | zero => simp [evp] at hx hv; subst hx; subst hv; exact ⟨rfl, h.ev y⟩
      | succ i => exact h2 i x v (by simpa [evp] using hx) (by simpa using hv)
    · simp only [evp, List.mem_cons] at hp
      simp only [evpV, List.mem_cons]
      rcases hp with rfl | hp
      · exact .inl rfl
      · exact .inr (h3 p hp)
theorem mem_idsL' {cs : List AV} {v : AV} {o : Id} (h : v ∈ cs) (ho : o ∈ idsA v) : o ∈ idsL cs := by
  obtain ⟨i, hi⟩ := List.getElem?_of_mem h
  exact mem_idsL hi ho

theorem len1 {α : Type} {l : List α} (h : 1 = l.length) : ∃ v, l = [v] := List.length_eq_one_iff.mp h.symm
theorem len2 {α : Type} {l : List α} (h : 2 = l.length) : ∃ v u, l = [v, u] := by
  match l, h with
  | [v, u], _ => exact ⟨v, u, rfl⟩
/-- what is to be shown of the calls that an operation makes -/
def CallR (P : Program) (E : Env) (base : Nat) (M : List Nat) (S0 : Nat → Prop) (R0 : Id → Value) (w0 : World) (nt : Nat) (call : FuncId → List Dat → Option (List Dat)) : Prop :=
  ∀ (G : Gh) (st : St) (a : Act) (w : World) (look : Look) (t : Nat) (f : FuncId) (xs : List AV) (vs : List Value) (dst : Option Nat) (r : OpRes) (out : List Dat), RelG E base M S0 R0 w0 nt G st a w → (∀ i x, look i = some x → getO st.ob i = some x) → inB nt dst = true → t < 1000000 →
    xs.length = vs.length → (∀ (i : Nat) (x : AV) (v : Value), xs[i]? = some x → vs[i]? = some v → VR E w S0 G st.ob x v) → opCall E call look t f xs = some r → r.g = true → r.o = some out →
    (∃ fn, E.F f = some fn) ∧ Calls P f vs.toArray w fun
      | .returned v, w' => Rel E base M S0 R0 w0 nt (applyD st dst (r.f out)) (a.put dst v) w'
      | _, _ => False

theorem iop_ok (hE : EnvOk P E) (hnt : nt ≤ 1000000) {call : FuncId → List Dat → Option (List Dat)} (hC : CallR P E base M S0 R0 w0 nt call) (h : RelG E base M S0 R0 w0 nt G st a w) (hlook : ∀ i x, look i = some x → getO st.ob i = some x) {o : Oper} (hd : inB nt o.dst = true)
    {r : OpRes} (hr : iop E call look st.tm o = some r) (hg : r.g = true) {out : List Dat} (ho : r.o = some out) {Q : Exit → Act → World → Prop} : o.wp P a w (Nx E base M S0 R0 w0 nt st o.dst (r.f out)) Q := by
  have hti : o.dst.getD 0 < 1000000 := by
    cases hds : o.dst with
    | none => simp
    | some d =>
      rw [hds] at hd
      have : d < nt := Nat.le_of_ble_eq_true hd
      exact Nat.lt_of_lt_of_le this hnt
  have hmv : ∀ x, (o.op = .move x ∨ o.op = .assign x) → (match ev st.tm x with
      | .nil => match E.T o.type with
        | some ⟨[.sl e], _, false, _⟩ => just { v := .own (o.dst.getD 0, 0), nw := [((o.dst.getD 0, 0), .row e [] true 0 [])] }
        | _ => none
      | v => val v) = some r → o.wp P a w (Nx E base M S0 R0 w0 nt st o.dst (r.f out)) Q := fun x hop hr => by
    have hex : execOp a.eval o = (do pure (.value (← (pure (a.eval x) : Sem Value)))) := by
      unfold execOp
      rcases hop with hop | hop <;> rw [hop] <;> rfl
    have hx := h.ev x
    split at hr
    · rename_i hnil
      rw [hnil] at hx
      generalize hav : a.eval x = v at hx hex
      cases hx
      split at hr
      · rename_i e b fs ht
        simp only [just, Option.some.injEq] at hr
        subst hr
        exact Stepped.wp hex (opNil_ok hE h hd (slT hE ht).2 hti)
      · cases hr
    · exact PureR.wp h hd hex ho (pureR hr rfl hx)
  unfold iop at hr
  simp only at hr
  split at hr
  · rename_i x hop; exact hmv x (.inl hop) hr
  · rename_i x hop; exact hmv x (.inr hop) hr
  · rename_i c x y hop
    exact PureR.wp h hd (s := do pure (if ← asBool (a.eval c) then a.eval x else a.eval y)) (by unfold execOp; rw [hop]; simp) ho (opPick_ok (h.ev c) (h.ev x) (h.ev y) hr hg)
  · rename_i e hop
    split at hr
    · cases hr
    · rename_i ti ht
      simp only [just, Option.some.injEq] at hr
      subst hr
      exact Stepped.wp (s := Instr.alloc e true (.tuple #[])) (by unfold execOp; rw [hop]) (opAlloc_ok hE h hd ht hti)
  · rename_i e x hop
    split at hr
    · cases hr
    · rename_i ti ht
      obtain ⟨hb, hr2⟩ := bifT hr
      simp only [Bool.and_eq_true, Bool.not_eq_true'] at hb
      obtain ⟨b1, b2, b3⟩ := hb
      simp only [just, Option.some.injEq] at hr2
      subst hr2
      exact Stepped.wp (s := Instr.box e (a.eval x)) (by unfold execOp; rw [hop]) (opBox_ok hE h hd (h.ev x) hti ⟨(fun vs e => by rw [e] at b2; cases b2), (fun e => by rw [e] at b2; cases b2)⟩ (memId_false.mp b3))
  · rename_i ty x hop
    exact PureR.wp h hd (s := Instr.loadAt ty (a.eval x)) (by unfold execOp; rw [hop]) ho (opLoad_ok hE h hlook (h.ev x) hr)
  · rename_i ty pa x hop
    obtain ⟨h1, h2⟩ := opStore_ok hE h hlook hd (h.ev x) (h.ev pa) hr hg
    rw [ho] at h1; cases h1
    exact SteppedU.wp (s := Instr.storeAt ty (a.eval pa) (a.eval x)) (by unfold execOp; rw [hop]) h2
  · rename_i x hop
    split at hr
    · rename_i oo rr ff hx
      split at hr
      · rename_i y hl
        have hv := h.ev x
        rw [hx] at hv
        have hgo := hlook _ _ hl
        generalize hav : a.eval x = v at hv
        have hv' := hv
        cases hv' with
        | ptr _ _ _ _ hp h1 =>
          have hpt : ∃ ad, v = .pointer (some ad) := by
            cases y with
            | box t cells => obtain ⟨_, g, _, e⟩ := hp.1 _ _ hgo; exact ⟨_, e⟩
            | row e rows dp vr hh =>
              obtain ⟨te, b1, _⟩ := (h.objs oo _ hgo : RowR E w _ e rows dp hh _ _ _)
              obtain ⟨_, _, g, o0, n, c, _, e⟩ := hp.2 _ _ _ _ _ te hgo b1
              exact ⟨_, e⟩
          obtain ⟨ad, rfl⟩ := hpt
          exact PureR.wp h hd (s := pure (.pointer (some ad))) (by unfold execOp; rw [hop]; simp [hav]) ho (pureR hr rfl hv)
      · cases hr
    · cases hr
  · rename_i s x f hop
    split at hr
    · cases hr
    · rename_i ti ht
      rcases Bool.eq_false_or_eq_true ti.agg with ha | ha <;> rw [ha] at hr
      · simp only [Bool.not_true, cond_false] at hr
        have hv := h.ev x
        split at hr
        · rename_i fo ft oo rr off hf hx
          rw [hx] at hv
          split at hr
          · rename_i y hl
            obtain ⟨v', q1, q2⟩ := opField_ok hE ht hf hv ⟨y, hlook _ _ hl⟩ h ha
            exact PureR.wp h hd (s := Instr.fieldAt s (a.eval x) f) (by unfold execOp; rw [hop]) ho (pureR hr q1 q2)
          · cases hr
        · rename_i fo ft e al cs off hf hx
          rw [hx] at hv
          generalize hav : a.eval x = v at hv
          cases hv with
          | pro _ te _ _ _ g o0 u hte hl hm hrd =>
            exact PureR.wp h hd (s := Instr.fieldAt s (.pointer (some ⟨g, o0 + off, none⟩)) f) (by unfold execOp; rw [hop]; simp [hav]) ho (pureR hr (fieldPlace_of hE (hE.T _ _ ht) hf ha g (o0 + off)) (by
              rw [Nat.add_assoc]
              exact .pro _ te _ _ _ g o0 u hte hl hm hrd))
        · cases hr
      · cases hr
  · rename_i s x f hop
    split at hr
    · cases hr
    · rename_i ti ht
      rcases Bool.eq_false_or_eq_true ti.agg with ha | ha <;> rw [ha] at hr
      · simp only [Bool.not_true, cond_false] at hr
        have hv := h.ev x
        split at hr
        · rename_i fo ft cs hf hx
          rw [hx] at hv
          split at hr
          · rename_i fi hfi
            obtain ⟨hb, hr2⟩ := bifT hr
            exact PureR.wp h hd (s := Instr.field s (a.eval x) f) (by unfold execOp; rw [hop]) ho (opField_val_ok hE ht ha hf hfi hv (Nat.le_of_ble_eq_true hb) hr2)
          · cases hr
        · cases hr
      · cases hr
  · rename_i ty x ix hop
    split at hr
    · rename_i e b fs k n ht hix
      have hvx := h.ev ix
      rw [hix] at hvx
      generalize hav : a.eval ix = v at hvx
      cases hvx
      obtain ⟨hu, te, hte⟩ := slT hE ht
      exact PureR.wp h hd (s := Instr.indexAt ty (a.eval x) (.int k n)) (by unfold execOp; rw [hop]; simp [hav]) ho (opIndexAddr_ok hE h hlook hu hte (h.ev x) hr hg)
    · cases hr
  · rename_i ty x ix hop
    split at hr
    · rename_i b fs s k n ht hx hix
      have hvx := h.ev ix
      rw [hix] at hvx
      generalize hav : a.eval ix = v at hvx
      cases hvx
      have hvs := h.ev x
      rw [hx] at hvs
      generalize hav2 : a.eval x = v2 at hvs
      cases hvs
      exact PureR.wp h hd (s := Instr.index ty (.string s) (.int k n)) (by unfold execOp; rw [hop]; simp [hav, hav2]) ho (opIndexS_ok (strT hE ht) hr hg)
    · cases hr
  · rename_i x ix hop
    split at hr
    · rename_i vs hx
      split at hr
      · rename_i y hy
        exact PureR.wp h hd (s := Instr.extract (a.eval x) ix) (by unfold execOp; rw [hop]) ho (opExtract_ok (h.ev x) hx hy hr)
      · cases hr
    · cases hr
  · rename_i ty x lo hi hop
    split at hr
    · rename_i e b fs ht
      obtain ⟨hu, te, hte⟩ := slT hE ht
      exact PureR.wp h hd (s := Instr.sliceAt ty (a.eval x) (lo.map a.eval) (hi.map a.eval) none) (by unfold execOp; rw [hop]; rfl) ho (opSlice_ok hE h hlook hu hte (h.ev x) (evo_ok h lo) (evo_ok h hi) hr hg)
    · rename_i b fs ht
      split at hr
      · rename_i s hx
        have hvs := h.ev x
        rw [hx] at hvs
        generalize hav2 : a.eval x = v2 at hvs
        cases hvs
        exact PureR.wp h hd (s := Instr.sliceAt ty (.string s) (lo.map a.eval) (hi.map a.eval) none) (by unfold execOp; rw [hop]; simp [hav2]) ho (opSliceS_ok (strT hE ht) (evo_ok h lo) (evo_ok h hi) hr hg)
      · cases hr
    · cases hr
  · rename_i op ty x hop
    exact PureR.wp h hd (s := Op.unary op (a.eval x)) (by unfold execOp; rw [hop]) ho (opUn_ok hr (h.ev x))
  · rename_i op ty x y yt hop
    exact PureR.wp h hd (s := do eqGuard op ty x y (a.eval x) (a.eval y); binOp op ty (a.eval x) (a.eval y)) (by unfold execOp; rw [hop]) ho (opBin_ok hE (h.ev x) (h.ev y) x y hr hg)
  · rename_i src dd x hop
    split at hr
    · rename_i ks b1 f1 k b2 f2 k' n hs hds hx
      have hvx := h.ev x
      rw [hx] at hvx
      generalize hav : a.eval x = v at hvx
      cases hvx
      exact PureR.wp h hd (s := convert src dd (.int k' n)) (by unfold execOp; rw [hop]; simp [hav]) ho (convInt_ok (intT hE hs) (intT hE hds) hr)
    · rename_i b1 f1 b2 f2 s hs hds hx
      have hvx := h.ev x
      rw [hx] at hvx
      generalize hav : a.eval x = v at hvx
      cases hvx
      exact PureR.wp h hd (s := convert src dd (.string s)) (by unfold execOp; rw [hop]; simp [hav]) ho (convStr_ok (strT hE hs) (strT hE hds) hr)
    · rename_i e b1 f1 b2 f2 hs hds
      split at hr
      · rename_i b3 f3 e' rows hte hsl
        obtain ⟨hb, hr2⟩ := bifT hr
        exact PureR.wp h hd (s := convert src dd (a.eval x)) (by unfold execOp; rw [hop]) ho (convBytes_ok hE h hlook (slT hE hs).1 (intT hE hte) (strT hE hds) hte rfl (h.ev x) hsl hb hr2)
      · cases hr
    · cases hr
  · rename_i ty parts hop
    split at hr
    · cases hr
    · rename_i ti ht
      split at hr
      · rename_i cs hcs
        obtain ⟨hb, hr2⟩ := bifT hr
        simp only [Bool.and_eq_true] at hb
        simp only [just, Option.some.injEq] at hr2
        subst hr2
        obtain ⟨e1, e2, e3⟩ := evp_ok h parts.toList
        have hdis := disjI_iff.mp hb.2
        have hrun : execOp a.eval o = (do pure (.value (← Instr.build ty (parts.toList.map fun p => (p.1, a.eval p.2)).toArray))) := by
          unfold execOp
          rw [hop]
          have : (parts.map fun (i, x) => (i, a.eval x)) = (parts.toList.map fun p => (p.1, a.eval p.2)).toArray := by
            apply Array.ext'
            simp
          simp only [this]
        exact Stepped.wp hrun (opBuild_ok hE h hd ht hb.1 hti e1 e2 (fun p hp k hk hk' => hdis k hk' (mem_idsL' (e3 p hp) hk)) hcs)
      · cases hr
  · rename_i ty len parts hop
    split at hr
    · rename_i e b fs ht
      obtain ⟨hu, te0, hte0⟩ := slT hE ht
      split at hr
      · cases hr
      · rename_i te hte
        split at hr
        · rename_i bb hbb
          obtain ⟨hb, hr2⟩ := bifT hr
          simp only [Bool.and_eq_true] at hb
          simp only [just, Option.some.injEq] at hr2
          subst hr2
          obtain ⟨e1, e2, e3⟩ := evp_ok h parts.toList
          have hrun : execOp a.eval o = (do pure (.value (← Instr.buildSlice ty len (parts.toList.map fun p => (p.1, a.eval p.2)).toArray))) := by
            unfold execOp
            rw [hop]
            have : (parts.map fun (i, x) => (i, a.eval x)) = (parts.toList.map fun p => (p.1, a.eval p.2)).toArray := by
              apply Array.ext'
              simp
            simp only [this]
          exact Stepped.wp hrun (opBuildSlice_ok hE h hlook hd hu hte hti len e1 e2 hbb (nodupId_iff.mp hb.1) (Nat.le_of_ble_eq_true hb.2))
        · cases hr
    · cases hr
  · rename_i ty l c hop
    split at hr
    · rename_i e b fs n m ht hl hc
      obtain ⟨hu, te0, hte0⟩ := slT hE ht
      split at hr
      · cases hr
      · rename_i te hte
        simp only [under, Option.some.injEq] at hr
        subst hr
        have ⟨g1, g2, g3⟩ : 0 ≤ n ∧ n = m ∧ n.toNat * te.by_ ≤ maxBytes := by simpa using hg
        subst g2
        have hvl := h.ev l
        rw [hl] at hvl
        generalize hav : a.eval l = v at hvl
        cases hvl
        have hvc := h.ev c
        rw [hc] at hvc
        generalize hav2 : a.eval c = v2 at hvc
        cases hvc
        exact Stepped.wp (s := Instr.makeSlice ty (.int .i64 n) (.int .i64 n)) (by unfold execOp; rw [hop]; simp [hav, hav2]) (opMake_ok hE h hd hu hte hti g1 g3)
    · cases hr
  · rename_i b args ats hop
    obtain ⟨e1, e2⟩ := evs_ok h args.toList
    have harr : args.map a.eval = (args.toList.map a.eval).toArray := by
      apply Array.ext'
      simp
    split at hr
    · rename_i x hx
      obtain ⟨v, hvs⟩ := len1 (by rw [hx] at e1; exact e1)
      have hv : VR E w S0 G st.ob x v := e2 0 x v (by rw [hx]; rfl) (by rw [hvs]; rfl)
      have hrun : execOp a.eval o = (do pure (.value (← Builtin.len_ ats o.type #[v]))) := by
        unfold execOp
        rw [hop]
        simp [resolve, harr, hvs, invoke, builtin]
      split at hr
      · rename_i b1 f1 s ht
        cases hv
        obtain ⟨t0, ha0, ht0⟩ := Option.bind_eq_some_iff.mp ht
        exact PureR.wp h hd hrun ho (opLenS_ok ha0 (strT hE ht0) hr)
      · cases hr
      · rename_i e b1 f1 ht hne
        obtain ⟨t0, ha0, ht0⟩ := Option.bind_eq_some_iff.mp ht
        exact PureR.wp h hd hrun ho (opLen_ok h hlook ha0 (slT hE ht0).1 hv (fun s e => hne s e) hr)
      · cases hr
    · rename_i x y hx
      obtain ⟨v, u, hvs⟩ := len2 (by rw [hx] at e1; exact e1)
      have hv : VR E w S0 G st.ob x v := e2 0 x v (by rw [hx]; rfl) (by rw [hvs]; rfl)
      have hu : VR E w S0 G st.ob y u := e2 1 y u (by rw [hx]; rfl) (by rw [hvs]; rfl)
      have hrun : execOp a.eval o = (do pure (.value (← Builtin.append_ ats o.type #[v, u]))) := by
        unfold execOp
        rw [hop]
        simp [resolve, harr, hvs, invoke, builtin]
      split at hr
      · rename_i e b1 f1 e' b2 f2 ht ht'
        obtain ⟨t0, ha0, ht0⟩ := Option.bind_eq_some_iff.mp ht
        obtain ⟨t1, ha1, ht1⟩ := Option.bind_eq_some_iff.mp ht'
        obtain ⟨q1, q2⟩ := opAppend_ok hE h hlook hd (ty := o.type) ha0 ha1 (slT hE ht0).1 (slT hE ht1).1 hti hv hu hr hg
        rw [ho] at q1; cases q1
        exact Stepped.wp hrun q2
      · cases hr
    · rename_i k i k' j hx
      obtain ⟨v, u, hvs⟩ := len2 (by rw [hx] at e1; exact e1)
      have hv : VR E w S0 G st.ob (.i k i) v := e2 0 _ v (by rw [hx]; rfl) (by rw [hvs]; rfl)
      have hu : VR E w S0 G st.ob (.i k' j) u := e2 1 _ u (by rw [hx]; rfl) (by rw [hvs]; rfl)
      cases hv; cases hu
      have hrun : execOp a.eval o = (do pure (.value (← Builtin.max_ ats o.type #[.int k i, .int k' j]))) := by
        unfold execOp
        rw [hop]
        simp [resolve, harr, hvs, invoke, builtin]
      exact PureR.wp h hd hrun ho (opMinMax_ok (at_ := ats) (ty := o.type) true hr)
    · rename_i k i k' j hx
      obtain ⟨v, u, hvs⟩ := len2 (by rw [hx] at e1; exact e1)
      have hv : VR E w S0 G st.ob (.i k i) v := e2 0 _ v (by rw [hx]; rfl) (by rw [hvs]; rfl)
      have hu : VR E w S0 G st.ob (.i k' j) u := e2 1 _ u (by rw [hx]; rfl) (by rw [hvs]; rfl)
      cases hv; cases hu
      have hrun : execOp a.eval o = (do pure (.value (← Builtin.min_ ats o.type #[.int k i, .int k' j]))) := by
        unfold execOp
        rw [hop]
        simp [resolve, harr, hvs, invoke, builtin]
      exact PureR.wp h hd hrun ho (opMinMax_ok (at_ := ats) (ty := o.type) false hr)
    · cases hr
  · rename_i f args ats hop
    obtain ⟨e1, e2⟩ := evs_ok h args.toList
    have harr : args.map a.eval = (args.toList.map a.eval).toArray := by
      apply Array.ext'
      simp
    obtain ⟨⟨fn, hfn⟩, hcall⟩ := hC G st a w look _ f _ (args.toList.map a.eval) o.dst r out h hlook hd hti e1 e2 hr hg ho
    obtain ⟨f1, f2, f3⟩ := hE.F f fn hfn
    have hrun : (execOp a.eval o).run P w = .ok (.enter f (args.toList.map a.eval).toArray) w := by
      unfold execOp
      rw [hop]
      have g2 : ¬ fn.name = "runtime.NumGoroutine" := by simpa using f2
      have g3 : ¬ fn.body = none := fun e => by rw [e] at f3; cases f3
      simp [resolve, Act.eval, Deferred.ofValue, harr, invoke, callFunc, f1, g2, g3]
    unfold Oper.wp
    rw [hrun, Oper.upon_enter]
    refine hcall.mono fun e w' hh => ?_
    cases e with
    | returned v => exact hh
    | panicked c => exact hh.elim
    | outgrown => exact hh.elim
  · cases hr

end
end Go.Proofs.Ythjkpphjlmmkdaa.Vai
