/- The end of a call and its beginning, for functions that read their arguments and give what is new; no condition. -/
import Derived.Test.YthjkpphjlmmkdaaVaiRun
import Derived.Test.YthjkpphjlmmkdaaVaiCallP
import Derived.Test.YthjkpphjlmmkdaaVaiOrd4
namespace Go.Proofs.Ythjkpphjlmmkdaa.Vai
open Go

section
variable {P : Program} {E : Env} {base : Nat} {M : List Nat} {S0 : Nat → Prop} {R0 : Id → Value} {w0 : World} {nt : Nat} {G : Gh} {st : St} {a : Act} {w : World} {look : Look}

theorem sem_id {α : Type} (x : Sem α) : x.bind Sem.pure = x := by
  induction x <;> simp only [Sem.bind] <;> first | rfl | (congr 1; done) | skip
  all_goals (congr 1; funext y; first | (simp_all; done) | (cases y <;> simp_all))
theorem sem_assoc {α β γ : Type} (x : Sem α) (f : α → Sem β) (g : β → Sem γ) : (x.bind f).bind g = x.bind fun y => (f y).bind g := by
  induction x <;> simp only [Sem.bind] <;> first | rfl | (congr 1; done) | skip
  all_goals (congr 1; funext y; first | (simp_all; done) | (cases y <;> simp_all))
theorem sem_lawful : LawfulMonad Sem := LawfulMonad.mk' Sem (id_map := fun x => sem_id x) (pure_bind := fun _ _ => rfl) (bind_assoc := fun x f g => sem_assoc x f g)
theorem mapM_run {α : Type} {as : Array α} {f : α → Sem Value} {us : List Value} (hl : us.length = as.size) (h : ∀ (i : Nat) (x : α) (u : Value), as.toList[i]? = some x → us[i]? = some u → (f x).run P w = .ok u w) : (as.mapM f).run P w = .ok us.toArray w := by
  haveI := sem_lawful
  rw [Array.mapM_eq_foldlM, ← Array.foldlM_toList]
  have key : ∀ (l : List α) (us : List Value) (acc : Array Value), us.length = l.length → (∀ (i : Nat) (x : α) (u : Value), l[i]? = some x → us[i]? = some u → (f x).run P w = .ok u w) →
      (l.foldlM (fun bs a => bs.push <$> f a) acc).run P w = .ok (acc ++ us.toArray) w := by
    intro l
    induction l with
    | nil =>
      intro us acc hl _
      have : us = [] := List.length_eq_zero_iff.mp hl
      subst this
      simp
    | cons x l ih =>
      intro us acc hl h
      match us, hl with
      | u :: us, hl =>
        simp only [List.foldlM_cons, Sem.run_bind, Sem.run_map, h 0 x u rfl rfl, Result.andThen_ok]
        rw [ih us (acc.push u) (by simpa using hl) (fun i x u hx hu => h (i + 1) x u (by simpa using hx) (by simpa using hu))]
        congr 1
        simp
  simpa using key as.toList us #[] (by simpa using hl) h
/-- what a result is read as -/
def resSem (tmps : Array Value) : ResultVar → Sem Value
  | .tmp t => pure (tmps.getD t undef)
  | .cell c t => do loadVar t (← asAddr (tmps.getD c undef))
/-- the results of a function: values that fit what the interpreter tells of them -/
theorem resVal_ok (hE : EnvOk P E) (h : RelG E base M S0 R0 w0 nt G st a w) : ∀ (rs : List ResultVar) (vs : List AV), resVal E st rs = some vs → ∃ us : List Value, us.length = rs.length ∧ vs.length = rs.length ∧
    (∀ (i : Nat) (r : ResultVar) (u : Value), rs[i]? = some r → us[i]? = some u → (resSem a.tmps r).run P w = .ok u w) ∧
    ∀ (i : Nat) (x : AV) (u : Value), vs[i]? = some x → us[i]? = some u → VR E w S0 G st.ob x u
  | [], vs, hr => by
    simp only [resVal, Option.some.injEq] at hr
    subst hr
    exact ⟨[], rfl, rfl, (fun i r u hi => by simp at hi), (fun i x u hi => by simp at hi)⟩
  | r :: rs, vs, hr => by
    have key : ∀ (x : AV) (u : Value), (resVal E st rs).map (x :: ·) = some vs → (resSem a.tmps r).run P w = .ok u w → VR E w S0 G st.ob x u → ∃ us : List Value, us.length = (r :: rs).length ∧ vs.length = (r :: rs).length ∧
    (∀ (i : Nat) (r' : ResultVar) (u : Value), (r :: rs)[i]? = some r' → us[i]? = some u → (resSem a.tmps r').run P w = .ok u w) ∧
    ∀ (i : Nat) (x : AV) (u : Value), vs[i]? = some x → us[i]? = some u → VR E w S0 G st.ob x u := fun x u hm h1 h2 => by
      obtain ⟨vs', hv, rfl⟩ := Option.map_eq_some_iff.mp hm
      obtain ⟨us, i1, i2, i3, i4⟩ := resVal_ok hE h rs vs' hv
      refine ⟨u :: us, by simp [i1], by simp [i2], fun i r' u' hr' hu' => ?_, fun i x' u' hx' hu' => ?_⟩
      · cases i with
        | zero =>
          simp only [List.getElem?_cons_zero, Option.some.injEq] at hr' hu'
          subst hr'; subst hu'
          exact h1
        | succ i => exact i3 i r' u' (by simpa using hr') (by simpa using hu')
      · cases i with
        | zero =>
          simp only [List.getElem?_cons_zero, Option.some.injEq] at hx' hu'
          subst hx'; subst hu'
          exact h2
        | succ i => exact i4 i x' u' (by simpa using hx') (by simpa using hu')
    cases r with
    | tmp t => exact key _ _ hr rfl (h.tmps t)
    | cell c ty =>
      simp only [resVal] at hr
      split at hr
      · rename_i ti o row ht hx
        split at hr
        · rename_i bt cs hob
          cases hl : Nat.beq cs.length ti.ls.length <;> rw [hl] at hr
          · cases hr
          · simp only [cond_true] at hr
            have hl := beqT hl
            have hv := h.tmps c
            rw [hx] at hv
            generalize hval : a.tmps.getD c undef = v at hv
            cases hv with
            | ptr _ _ _ _ hp _ =>
              obtain ⟨h0, g, hg, rfl⟩ := hp.1 _ _ hob
              obtain ⟨g', arr, et, b1, b2, b3, b4, b5, b6⟩ := (h.objs o _ hob : BoxR E w S0 G st.ob cs _ _ _)
              rw [hg] at b1
              simp only [Value.pointer.injEq, Option.some.injEq, Addr.mk.injEq, and_true] at b1
              subst b1
              have hT := hE.T ty ti ht
              have hcell : ∀ i, i < ti.ls.length → w.cell? ⟨g, 0 + i, none⟩ = some (arr.getD i undef) := fun i hi => by
                simp only [World.cell?, b4]
                have : i < arr.size := by omega
                simp [Array.getD, this]
              refine key _ _ hr ?_ (VR.pack hT cs (fun i => arr.getD i undef) hl fun i y hy => ?_)
              · simp only [resSem, hval, asAddr, Sem.run_bind, Sem.run_pure, Result.andThen_ok]
                exact run_loadVar_of hT g 0 (fun i => arr.getD i undef) hcell
              · have hi : i < arr.size := by have := (List.getElem?_eq_some_iff.mp hy).1; omega
                exact b6 i y _ hy (by simp [Array.getD, hi])
        · cases hr
      · cases hr
theorem results_ok (hE : EnvOk P E) (h : RelG E base M S0 R0 w0 nt G st a w) {fn : Func} {vs : List AV} (hr : resVal E st fn.results.toList = some vs) : ∃ us : List Value, us.length = vs.length ∧ (results fn a.tmps).run P w = .ok (oneOrV us) w ∧
    ∀ (i : Nat) (x : AV) (u : Value), vs[i]? = some x → us[i]? = some u → VR E w S0 G st.ob x u := by
  obtain ⟨us, h1, h2, h3, h4⟩ := resVal_ok hE h _ _ hr
  refine ⟨us, by omega, ?_, h4⟩
  have hm := mapM_run (P := P) (w := w) (as := fn.results) (f := resSem a.tmps) (us := us) (by simpa using h1) h3
  have hres : results fn a.tmps = (do
      let vs ← fn.results.mapM (resSem a.tmps)
      pure (if h : vs.size = 1 then vs[0] else .tuple vs)) := by
    unfold results
    congr 2
  rw [hres, Sem.run_bind, hm]
  simp only [Result.andThen_ok, Sem.run_pure, List.size_toArray]
  match us with
  | [] => rfl
  | [v] => rfl
  | v :: v2 :: us => simp [oneOrV]

/-- values that fit their types, and their cells -/
theorem packs_ok {ob : List (Id × Obj)} : ∀ {rs : List TI} {xs : List AV} {vs : List Value}, xs.length = vs.length → (∀ (i : Nat) (x : AV) (v : Value), xs[i]? = some x → vs[i]? = some v → VR E w S0 G ob x v) → argsFit rs xs = true → allSolid xs = true →
    ∃ cells, PackR rs vs cells ∧ CellsR E w S0 G ob (flats xs) cells
  | [], [], [], _, _, _, _ => ⟨[], .nil, rfl, fun i v x hv => by simp [flats] at hv⟩
  | [], _ :: _, _, _, _, hf, _ => by cases hf
  | _ :: _, [], _, _, _, hf, _ => by cases hf
  | _, [], _ :: _, hl, _, _, _ => by simp at hl
  | _, _ :: _, [], hl, _, _, _ => by simp at hl
  | ti :: rs, x :: xs, v :: vs, hl, hv, hf, hs => by
    simp only [argsFit, Bool.and_eq_true] at hf
    simp only [allSolid, Bool.and_eq_true] at hs
    obtain ⟨cells, i1, i2⟩ := packs_ok (rs := rs) (xs := xs) (vs := vs) (by simpa using hl) (fun i x v hx hv' => hv (i + 1) x v (by simpa using hx) (by simpa using hv')) hf.2 hs.2
    have hvx := hv 0 x v rfl rfl
    have hfl := hvx.flatR hs.1
    have hpk : Packed ti.agg v v.cells.toList ∧ (flat x).length = ti.ls.length := by
      cases hag : ti.agg with
      | true =>
        have hf1 := hf.1
        cases x <;> simp only [argFit, hag, Bool.not_true, Bool.false_and, Bool.true_and, Bool.false_eq_true] at hf1
        rename_i cs
        have hf1 := beqT hf1
        cases hvx with
        | agg _ arr hl' h' h1' =>
          refine ⟨⟨fun u hu => ?_, by simp [Value.cells]⟩, by simpa [flat] using hf1⟩
          obtain ⟨i, hi⟩ := List.getElem?_of_mem hu
          exact h1' i u (by simpa [Value.cells] using hi)
      | false =>
        have hf1 := hf.1
        have hf1' : ti.ls.length = 1 := by
          cases x <;> simp only [argFit, hag, Bool.not_false, Bool.true_and, Bool.false_and, Bool.false_eq_true] at hf1 <;> exact (beqT hf1).symm
        have hone : oneV v := hvx.one_of (fun cs e => by subst e; simp [argFit, hag] at hf1) (fun ws e => by subst e; cases hs.1) (fun e => by subst e; cases hs.1)
        have hflx : flat x = [x] := by
          cases x <;> simp only [argFit, hag, Bool.false_and, Bool.false_eq_true] at hf1 <;> rfl
        exact ⟨⟨fun u hu => by rw [one_cells hone] at hu; simp at hu; subst hu; exact hone, by simp [one_cells hone]⟩, by rw [hflx, hf1']; rfl⟩
    refine ⟨v.cells.toList ++ cells, .cons _ _ _ _ _ _ hpk.1 (by rw [← hfl.1]; exact hpk.2) i1, by simp [flats, hfl.1, i2.1], fun i y u hy hu => ?_⟩
    simp only [flats] at hy
    by_cases hi : i < (flat x).length
    · rw [List.getElem?_append_left hi] at hy
      rw [List.getElem?_append_left (by rw [← hfl.1]; exact hi)] at hu
      exact hfl.2 i y u hy hu
    · rw [List.getElem?_append_right (by omega)] at hy
      rw [List.getElem?_append_right (by rw [← hfl.1]; omega), ← hfl.1] at hu
      exact i2.2 _ y u hy hu

/-- what is handed over, as a list of trees -/
theorem GivesR.ots {ids : List Id} : ∀ {ls : List Leaf} {ds : List Dat} {us : List Value} {bs : Nat → List Nat}, GivesR E w S0 G ids true ls ds (fun i => us.getD i undef) bs → us.length = ls.length →
    ∃ all, OTs E w ls ds us all ∧ all.Nodup ∧ ∀ b ∈ all, ∃ i, b ∈ bs i
  | [], [], [], _, _, _ => ⟨[], .nil, .nil, fun b hb => by cases hb⟩
  | [], _ :: _, _, _, h, _ => by have := h.len; simp at this
  | _ :: _, [], _, _, h, _ => by have := h.len; simp at this
  | [], _, _ :: _, _, _, hl => by simp at hl
  | _ :: _, _, [], _, _, hl => by simp at hl
  | l :: ls, d :: ds, u :: us, bs, h, hl => by
    obtain ⟨all, i1, i2, i3⟩ := GivesR.ots (ls := ls) (ds := ds) (us := us) (bs := fun i => bs (i + 1))
      ⟨by simpa using h.len, fun i l' hl' => by simpa using h.rd (i + 1) l' (by simpa using hl'), fun hd i l' hl' => by simpa using h.ot hd (i + 1) l' (by simpa using hl'), fun i b hb => h.sub (i + 1) b hb, fun i => h.nodup (i + 1), fun i j hij b hb => h.disj (i + 1) (j + 1) (by omega) b hb⟩ (by simpa using hl)
    refine ⟨bs 0 ++ all, .cons _ _ _ _ _ _ _ _ (by simpa using h.ot rfl 0 l rfl) i1, ?_, fun b hb => ?_⟩
    · rw [List.nodup_append]
      refine ⟨h.nodup 0, i2, fun b hb b' hb' e => ?_⟩
      subst e
      obtain ⟨i, hi⟩ := i3 b hb'
      exact h.disj 0 (i + 1) (by omega) b hb hi
    · rcases List.mem_append.mp hb with hb | hb
      · exact ⟨0, hb⟩
      · obtain ⟨i, hi⟩ := i3 b hb
        exact ⟨i + 1, hi⟩

/-- results that are all new -/
theorem outDats_ok (_hE : EnvOk P E) (h : RelG E base M S0 R0 w0 nt G st a w) {rs : List TI} (hel : ∀ e, Leaf.sl e ∈ joinLs rs → ∃ te, E.T e = some te) {xs : List AV} {vs : List Value} (hl : xs.length = vs.length) (hv : ∀ (i : Nat) (x : AV) (v : Value), xs[i]? = some x → vs[i]? = some v → VR E w S0 G st.ob x v)
    (hf : argsFit rs xs = true) (hs : allSolid xs = true) {g : Givens} (hg : outDats (getO st.ob) (joinLs rs) (flats xs) = some g) :
    ∃ cells bs, PackR rs vs cells ∧ OTs E w (joinLs rs) g.ds cells bs ∧ bs.Nodup ∧ ∀ b ∈ bs, ∃ o x, getO st.ob o = some x ∧ isPar o = false ∧ (b ∈ G.top o ∨ b ∈ G.ins o) := by
  obtain ⟨cells, p1, p2⟩ := packs_ok hl hv hf hs
  simp only [outDats] at hg
  split at hg
  · rename_i g' hg'
    obtain ⟨hc, hg⟩ := bifT hg
    cases hg
    simp only [Bool.and_eq_true, Bool.not_eq_true'] at hc
    obtain ⟨hd, hn, hp⟩ := hc
    have hn := nodupId_iff.mp hn
    obtain ⟨⟨bs, q1⟩, q2, q3⟩ := gives_ok h (fun _ _ hx => hx) hel (us := fun i => cells.getD i undef) (fun i y hy => by
      have hi : i < cells.length := by rw [← p2.1]; exact (List.getElem?_eq_some_iff.mp hy).1
      exact (p2.2 i y _ hy (by rw [List.getD_eq_getElem?_getD, List.getElem?_eq_getElem hi]; rfl)).1) hg' hn
    rw [hd] at q1
    obtain ⟨all, o1, o2, o3⟩ := q1.ots (by rw [← p2.1, q3])
    refine ⟨cells, all, p1, o1, o2, fun b hb => ?_⟩
    obtain ⟨i, hi⟩ := o3 b hb
    obtain ⟨o, ho, hob⟩ := q1.sub i b hi
    obtain ⟨x, hx⟩ := q2 o ho
    refine ⟨o, x, hx, ?_, hob⟩
    cases hpo : isPar o with
    | false => rfl
    | true =>
      have : g.ids.any isPar = true := List.any_eq_true.mpr ⟨o, ho, hpo⟩
      rw [this] at hp
      cases hp
  · cases hg

theorem calls_of_run {f : FuncId} {fn : Func} {c : Code} {args : Array Value} {R : Value → World → Prop} (hf : P.funcs[f]? = some fn) (hb : fn.body = some c)
    (h : RunTo P f R [.code c] { tmps := args ++ Array.replicate (fn.ntmps - args.size) undef, defers := [] } w) : Calls P f args w fun
      | .returned v, w' => R v w'
      | _, _ => False := by
  intro cs
  let b : Frame := { (default : Frame) with fn := f, kind := .normal }
  have henter : Frame.enter P f args .normal = b.at { tmps := args ++ Array.replicate (fn.ntmps - args.size) undef, defers := [] } [.code c] := by
    simp [Frame.enter, Frame.at, hf, hb, b]
  obtain ⟨v, w', fr, h1, h2, h3, h4⟩ := h b rfl rfl cs
  rw [← henter] at h2
  exact ⟨.returned v, w', fr, h1, h2, h3, h4⟩

theorem RDs.cells {ob : List (Id × Obj)} : ∀ {ls : List Leaf} {ds : List Dat} {cells : List Value}, RDs E w S0 ls ds cells → CellsR E w S0 G ob (datAVs false ls ds) cells
  | [], _, _, .nil => ⟨rfl, fun i v x hv => by simp [datAVs] at hv⟩
  | l :: ls, _, _, .cons _ d v _ ds vs h1 h => by
    obtain ⟨i1, i2⟩ := RDs.cells (ob := ob) h
    refine ⟨by simp [datAVs, i1], fun i y u hy hu => ?_⟩
    cases i with
    | zero =>
      simp only [datAVs, List.headD_cons, List.getElem?_cons_zero, Option.some.injEq] at hy hu
      subst hy; subst hu
      exact ⟨VR.datAV (h1.mono fun b hb => .inl hb), h1.one⟩
    | succ i => exact i2 i y u (by simpa [datAVs] using hy) (by simpa using hu)
theorem getT_numbered : ∀ (i : Nat) (l : List AV) (t : Nat), getT (numbered i l) t = if i ≤ t then l.getD (t - i) .dead else .dead
  | i, [], t => by simp [numbered, getT]
  | i, v :: r, t => by
    simp only [numbered, getT]
    by_cases h : i = t
    · subst h; simp [Nat.beq_refl]
    · rw [beqF h]
      simp only [cond_false]
      rw [getT_numbered (i + 1) r t]
      by_cases hle : i ≤ t
      · rw [if_pos hle, if_pos (by omega)]
        obtain ⟨k, hk⟩ : ∃ k, t - i = k + 1 := ⟨t - i - 1, by omega⟩
        rw [hk, show t - (i + 1) = k by omega]
        simp
      · rw [if_neg hle, if_neg (by omega)]

def Gh.none : Gh := ⟨fun _ => undef, fun _ => [], fun _ => [], []⟩
theorem init_plain {S : Nat → Prop} {ps : List TI} {vs cells : List Value} {ds : List Dat} {fn : Func} (hN : fn.params.size ≤ fn.ntmps) (hlen : ps.length = fn.params.size) (hp : PackR ps vs cells) (hr : RDs E w S (joinLs ps) ds cells) (hS : ∀ b, S b → b < w.heap.size) :
    Rel E w.heap.size [] S R0 w fn.ntmps { tm := numbered 0 (packAll ps (datAVs false (joinLs ps) ds)), ob := [] } { tmps := vs.toArray ++ Array.replicate (fn.ntmps - vs.toArray.size) undef, defers := [] } w := by
  have hps : vs.length = ps.length := by
    clear hr hlen
    induction hp with
    | nil => rfl
    | cons ti v cs tis vs rest h1 h2 h ih => simp [ih]
  obtain ⟨q1, q2⟩ := packAll_ok (G := Gh.none) (ob := []) hp (RDs.cells hr)
  refine ⟨Gh.none, ⟨⟨Nat.le_refl _, fun _ _ _ => rfl, rfl, rfl, rfl⟩, fun b hb => ⟨hS b hb, by simp⟩, (fun o x hx => by cases hx), (fun o x hx => by cases hx), (fun o x o' x' hx => by cases hx), (fun o x hx => by cases hx), (fun o x o' x' hx => by cases hx), (fun b hb => by cases hb), fun t => ?_, rfl, by simp; omega, fun o x _ hx => by cases hx⟩⟩
  rw [getT_numbered]
  simp only [Nat.zero_le, if_true, Nat.sub_zero]
  by_cases ht : t < vs.length
  · have e1 : (packAll ps (datAVs false (joinLs ps) ds)).getD t .dead = (packAll ps (datAVs false (joinLs ps) ds))[t]'(by omega) := by
      rw [List.getD_eq_getElem?_getD, List.getElem?_eq_getElem (by omega)]; rfl
    rw [e1]
    refine q2 t _ _ (List.getElem?_eq_getElem (by omega)) ?_
    rw [List.getElem?_eq_getElem ht, Array.getD_eq_getD_getElem?, Array.getElem?_append_left (by simpa using ht)]
    simp [ht]
  · have : (packAll ps (datAVs false (joinLs ps) ds)).getD t .dead = .dead := by
      rw [List.getD_eq_getElem?_getD, List.getElem?_eq_none (by omega)]; rfl
    rw [this]
    exact .dead _
theorem lsOf_length : ∀ {r : List TypeId} {ps : List TI}, lsOf E r = some ps → ps.length = r.length
  | [], ps, h => by simp only [lsOf, Option.some.injEq] at h; subst h; rfl
  | t :: r, ps, h => by
    obtain ⟨ti, q, h1, h2, rfl⟩ := lsOf_cons h
    simp [lsOf_length h2]

/-- what a call that reads gives -/
def PlainR (E : Env) (rs : List TI) (out : List Dat) (w : World) (v : Value) (w' : World) : Prop :=
  Kept w.heap.size [] w w' ∧ ∃ rvs rcells bs, v = oneOrV rvs ∧ PackR rs rvs rcells ∧ OTs E w' (joinLs rs) out rcells bs ∧ bs.Nodup ∧ ∀ b ∈ bs, w.heap.size ≤ b
theorem finish_plain (hE : EnvOk P E) {f : FuncId} {fn : Func} {rs : List TI} (hm : E.mode f = .plain) (hrs : lsOf E fn.resultTypes.toList = some rs) {out : List Dat} (h : Rel E w0.heap.size [] S0 R0 w0 fn.ntmps st a w) (hfi : finish E f fn st = some out) :
    ∃ v, (results fn a.tmps).run P w = .ok v w ∧ PlainR E rs out w0 v w := by
  obtain ⟨G, h⟩ := h
  unfold finish at hfi
  rw [hm, hrs] at hfi
  simp only at hfi
  split at hfi
  · rename_i rs' vs hrs' hvs
    cases hrs'
    obtain ⟨hc, hfi⟩ := bifT hfi
    simp only [Bool.and_eq_true] at hc
    split at hfi
    · rename_i g hg
      cases hfi
      obtain ⟨us, u1, u2, u3⟩ := results_ok hE h hvs
      obtain ⟨cells, bs, p1, p2, p3, p4⟩ := outDats_ok hE h (lsOf_elem hE hrs) u1.symm u3 hc.1 hc.2 hg
      refine ⟨_, u2, h.kept, us, cells, bs, rfl, p1, p2, p3, fun b hb => ?_⟩
      obtain ⟨o, x, ho, _, hob⟩ := p4 b hb
      rcases hob with hob | hob
      · rcases (h.tops o x ho b hob).2.2 with h1 | h1
        · exact h1
        · cases h1
      · rcases (h.F b ((h.ins o x ho).1 b hob)).2.1 with h1 | h1
        · exact h1
        · cases h1
    · cases hfi
  · cases hfi
end
end Go.Proofs.Ythjkpphjlmmkdaa.Vai
