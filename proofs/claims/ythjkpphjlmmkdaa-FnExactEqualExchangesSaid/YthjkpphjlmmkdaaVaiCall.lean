/- What a call gets and gives; no condition. -/
import Derived.Test.YthjkpphjlmmkdaaVaiStore3
namespace Go.Proofs.Ythjkpphjlmmkdaa.Vai
open Go

/-- values and their cells -/
inductive PackR : List TI → List Value → List Value → Prop
  | nil : PackR [] [] []
  | cons (ti : TI) (v : Value) (cs : List Value) (tis : List TI) (vs rest : List Value) (h1 : Packed ti.agg v cs) (h2 : cs.length = ti.ls.length) (h : PackR tis vs rest) : PackR (ti :: tis) (v :: vs) (cs ++ rest)
/-- cells that read data -/
inductive RDs (E : Env) (w : World) (S : Nat → Prop) : List Leaf → List Dat → List Value → Prop
  | nil : RDs E w S [] [] []
  | cons (l : Leaf) (d : Dat) (v : Value) (ls : List Leaf) (ds : List Dat) (vs : List Value) (h1 : RD E w S l d v) (h : RDs E w S ls ds vs) : RDs E w S (l :: ls) (d :: ds) (v :: vs)
/-- cells that own data -/
inductive OTs (E : Env) (w : World) : List Leaf → List Dat → List Value → List Nat → Prop
  | nil : OTs E w [] [] [] []
  | cons (l : Leaf) (d : Dat) (v : Value) (b : List Nat) (ls : List Leaf) (ds : List Dat) (vs : List Value) (bs : List Nat) (h1 : OT E w l d v b) (h : OTs E w ls ds vs bs) : OTs E w (l :: ls) (d :: ds) (v :: vs) (b ++ bs)
def oneOrV : List Value → Value
  | [v] => v
  | vs => .tuple vs.toArray

/-- a call that reads its arguments and gives what is new -/
def PlainOk (P : Program) (E : Env) (call : FuncId → List Dat → Option (List Dat)) : Prop :=
  ∀ f fn ps rs ds out, E.F f = some fn → E.mode f = .plain → lsOf E fn.params.toList = some ps → lsOf E fn.resultTypes.toList = some rs → call f ds = some out →
    ∀ (w : World) (S : Nat → Prop) (vs cells : List Value), PackR ps vs cells → RDs E w S (joinLs ps) ds cells → (∀ b, S b → b < w.heap.size) →
      Calls P f vs.toArray w fun
        | .returned v, w' => Kept w.heap.size [] w w' ∧ ∃ rvs rcells bs, v = oneOrV rvs ∧ PackR rs rvs rcells ∧ OTs E w' (joinLs rs) out rcells bs ∧ bs.Nodup ∧ ∀ b ∈ bs, w.heap.size ≤ b
        | _, _ => False

theorem lsOf_cons {E : Env} {t : TypeId} {r : List TypeId} {ps : List TI} (h : lsOf E (t :: r) = some ps) : ∃ ti q, E.T t = some ti ∧ lsOf E r = some q ∧ ps = ti :: q := by
  simp only [lsOf] at h
  split at h
  · rename_i ti ht
    split at h
    · rename_i q hq
      cases h
      exact ⟨ti, q, ht, hq, rfl⟩
    · cases h
  · cases h
theorem lsOf_elem {P : Program} {E : Env} (hE : EnvOk P E) : ∀ {r : List TypeId} {ps : List TI}, lsOf E r = some ps → ∀ e, Leaf.sl e ∈ joinLs ps → ∃ te, E.T e = some te
  | [], ps, h, e, he => by simp only [lsOf, Option.some.injEq] at h; subst h; simp [joinLs] at he
  | t :: r, ps, h, e, he => by
    obtain ⟨ti, q, h1, h2, rfl⟩ := lsOf_cons h
    simp only [joinLs, List.mem_append] at he
    rcases he with he | he
    · exact (hE.T t ti h1).elem e he
    · exact lsOf_elem hE h2 e he

section
variable {P : Program} {E : Env} {base : Nat} {M : List Nat} {S0 : Nat → Prop} {R0 : Id → Value} {w0 : World} {nt : Nat} {G : Gh} {st : St} {a : Act} {w : World} {look : Look}

/-- the arguments: values that fit their types, and what their cells read -/
theorem args_ok (h : RelG E base M S0 R0 w0 nt G st a w) (hlook : ∀ i x, look i = some x → getO st.ob i = some x) : ∀ {ps : List TI} (_ : ∀ e, Leaf.sl e ∈ joinLs ps → ∃ te, E.T e = some te) {xs : List AV} {vs : List Value}
    (_ : xs.length = vs.length) (_ : ∀ (i : Nat) (x : AV) (v : Value), xs[i]? = some x → vs[i]? = some v → VR E w S0 G st.ob x v) {ds : List Dat} (_ : toDats look (joinLs ps) (flats xs) = some ds) (_ : argsFit ps xs = true),
    ∃ cells, PackR ps vs cells ∧ RDs E w (Live S0 G st.ob) (joinLs ps) ds cells
  | [], _, [], [], _, _, ds, hd, _ => by
    simp only [joinLs, flats, toDats, Option.some.injEq] at hd
    subst hd
    exact ⟨[], .nil, .nil⟩
  | [], _, _ :: _, _, _, _, _, _, hf => by cases hf
  | _ :: _, _, [], _, _, _, _, _, hf => by cases hf
  | _, _, [], _ :: _, hl, _, _, _, _ => by simp at hl
  | _, _, _ :: _, [], hl, _, _, _, _ => by simp at hl
  | ti :: ps, hel, x :: xs, v :: vs, hl, hv, ds, hd, hf => by
    simp only [argsFit, Bool.and_eq_true] at hf
    obtain ⟨hf1, hf2⟩ := hf
    simp only [joinLs, flats] at hd
    -- cells of the first
    have key : ∀ (ls : List Leaf) (ys : List AV) (us : List Value) (rest : List Leaf) (zs : List AV) (ds : List Dat), ls.length = ys.length → ys.length = us.length → (∀ e, Leaf.sl e ∈ ls → ∃ te, E.T e = some te) → (∀ (i : Nat) (y : AV) (u : Value), ys[i]? = some y → us[i]? = some u → VR E w S0 G st.ob y u) →
        toDats look (ls ++ rest) (ys ++ zs) = some ds → ∃ d1 d2, ds = d1 ++ d2 ∧ RDs E w (Live S0 G st.ob) ls d1 us ∧ toDats look rest zs = some d2 := by
      intro ls
      induction ls with
      | nil =>
        intro ys us rest zs ds h1 h2 _ _ hd
        have : ys = [] := List.length_eq_zero_iff.mp h1.symm
        subst this
        have : us = [] := List.length_eq_zero_iff.mp h2.symm
        subst this
        exact ⟨[], ds, rfl, .nil, hd⟩
      | cons l ls ih =>
        intro ys us rest zs ds h1 h2 h3 h4 hd
        match ys, us, h1, h2 with
        | y :: ys, u :: us, h1, h2 =>
          simp only [List.cons_append, toDats] at hd
          split at hd
          · rename_i d hd1
            split at hd
            · rename_i ds' hd2
              cases hd
              obtain ⟨d1, d2, q1, q2, q3⟩ := ih ys us rest zs ds' (by simpa using h1) (by simpa using h2) (fun e he => h3 e (by simp [he])) (fun i y u hy hu => h4 (i + 1) y u (by simpa using hy) (by simpa using hu)) hd2
              subst q1
              exact ⟨d :: d1, d2, rfl, .cons _ _ _ _ _ _ (h.toDat hlook (h4 0 y u rfl rfl) (fun e he => h3 e (by simp [he])) hd1) q2, q3⟩
            · cases hd
          · cases hd
    have hpk : ∃ cs, Packed ti.agg v cs ∧ cs.length = ti.ls.length ∧ (flat x).length = ti.ls.length ∧ ((∃ d, toDats look (ti.ls ++ joinLs ps) (flat x ++ flats xs) = some d) → ∀ (i : Nat) (y : AV) (u : Value), (flat x)[i]? = some y → cs[i]? = some u → VR E w S0 G st.ob y u) ∧ (flat x).length = cs.length := by
      have hvx := hv 0 x v rfl rfl
      cases hag : ti.agg with
      | true =>
        cases x <;> simp only [argFit, hag, Bool.not_true, Bool.false_and, Bool.true_and, Bool.false_eq_true] at hf1
        rename_i cs
        have hf1 := beqT hf1
        cases hvx with
        | agg _ arr hl' h' h1' =>
          refine ⟨arr.toList, ⟨fun u hu => ?_, by simp⟩, by simp; omega, hf1, fun _ i y u hy hu => h' i y u hy (by simpa using hu), by simp [flat, hl']⟩
          obtain ⟨i, hi⟩ := List.getElem?_of_mem hu
          exact h1' i u (by simpa using hi)
      | false =>
        have hf1' : ti.ls.length = 1 := by
          cases x <;> simp only [argFit, hag, Bool.not_false, Bool.true_and, Bool.false_and, Bool.false_eq_true] at hf1 <;> exact (beqT hf1).symm
        have hfl : flat x = [x] := by
          cases x <;> simp only [argFit, hag, Bool.false_and, Bool.false_eq_true] at hf1 <;> rfl
        have hone : oneV v := by
          refine hvx.one_of (fun cs e => ?_) (fun ws e => ?_) (fun e => ?_)
          · subst e; simp [argFit, hag] at hf1
          · subst e
            obtain ⟨l, hl⟩ := List.length_eq_one_iff.mp hf1'
            rw [hfl, hl] at hd
            cases l <;> simp [toDats, toDat, Vai.slOf] at hd
          · subst e
            obtain ⟨l, hl⟩ := List.length_eq_one_iff.mp hf1'
            rw [hfl, hl] at hd
            cases l <;> simp [toDats, toDat, Vai.slOf] at hd
        refine ⟨[v], ⟨fun u hu => by simp at hu; subst hu; exact hone, by simp⟩, by simp [hf1'], by rw [hfl, hf1']; rfl, fun _ i y u hy hu => ?_, by rw [hfl]; rfl⟩
        rw [hfl] at hy
        cases i with
        | zero => simp at hy hu; subst hy; subst hu; exact hvx
        | succ i => simp at hy
    obtain ⟨cs, p1, p2, p3, p4, p5⟩ := hpk
    obtain ⟨d1, d2, q1, q2, q3⟩ := key ti.ls (flat x) cs (joinLs ps) (flats xs) ds p3.symm p5 (fun e he => hel e (by simp [joinLs, he])) (p4 ⟨ds, hd⟩) hd
    obtain ⟨rest, r1, r2⟩ := args_ok h hlook (fun e he => hel e (by simp [joinLs, he])) (xs := xs) (vs := vs) (by simpa using hl) (fun i x v hx hv' => hv (i + 1) x v (by simpa using hx) (by simpa using hv')) q3 hf2
    subst q1
    have app : ∀ {ls1 : List Leaf} {d1 : List Dat} {c1 : List Value}, RDs E w (Live S0 G st.ob) ls1 d1 c1 → RDs E w (Live S0 G st.ob) (ls1 ++ joinLs ps) (d1 ++ d2) (c1 ++ rest) := fun h1 => by
      induction h1 with
      | nil => exact r2
      | cons l d v ls ds vs h1 _ ih => exact .cons _ _ _ _ _ _ h1 ih
    exact ⟨cs ++ rest, .cons _ _ _ _ _ _ p1 p2 r1, app q2⟩

end
end Go.Proofs.Ythjkpphjlmmkdaa.Vai
