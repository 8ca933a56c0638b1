/- From the interpreter's answer to the statement; no condition. -/
import Derived.Test.YthjkpphjlmmkdaaVaiEnv
import Derived.WalkKit
import Derived.ProofKit
import Derived.OpenShut
import Derived.ShutString
import Derived.ChangeOld
import Derived.Below
import Derived.Carry
namespace Go.Proofs.Ythjkpphjlmmkdaa.Vai
open Go Go.RowKit Go.ChangeShapes

section
variable {P : Program} {E : Env} {H : Type} {enc : TypeId × Value → H}

theorem trodAll_length' {w : World} {base : Nat} {spare : Nat → Bool} {held : Bool} : ∀ {ts : List TypeId} {vs : List Value} {ds : List (DataW H)} {ps : List MemPlace}, DataW.TrodAll enc P w base spare held ts vs ds ps → ds.length = ts.length
  | [], [], [], _, _ => rfl
  | [], _ :: _, _, _, h => by simp [DataW.TrodAll] at h
  | [], [], _ :: _, _, h => by simp [DataW.TrodAll] at h
  | _ :: _, [], _, _, h => by simp [DataW.TrodAll] at h
  | _ :: _, _ :: _, [], _, h => by simp [DataW.TrodAll] at h
  | _ :: _, _ :: _, _ :: _, _, ⟨_, _, _, h, _⟩ => by simp [trodAll_length' h]
theorem Kept.below {w w' : World} (h : Kept w.heap.size [] w w') : Below w.heap.size w w' := ⟨h.os, h.tape, h.output, h.size, fun k hk => h.heap k hk (by simp)⟩
theorem trodAll_stays (hl : laidOutB P = true) {W W' : World} (hb : Below W.heap.size W W') : ∀ (ts : List TypeId) (vs : List Value) (ds : List (DataW H)) (ps : List MemPlace), (ts.all fun t => P.readableRec t && decide (t < P.types.size)) = true →
    DataW.TrodAll enc P W 0 (fun _ => true) true ts vs ds ps → (∀ x ∈ ps, x.block < W.heap.size) → DataW.TrodAll enc P W' 0 (fun b => decide (b < W.heap.size)) true ts vs ds ps
  | [], [], [], _, _, h, _ => h
  | [], _ :: _, _, _, _, h, _ => by simp [DataW.TrodAll] at h
  | [], [], _ :: _, _, _, h, _ => by simp [DataW.TrodAll] at h
  | _ :: _, [], _, _, _, h, _ => by simp [DataW.TrodAll] at h
  | _ :: _, _ :: _, [], _, _, h, _ => by simp [DataW.TrodAll] at h
  | t :: ts, v :: vs, d :: ds, ps, hr, h, hlt => by
    simp only [List.all_cons, Bool.and_eq_true, decide_eq_true_eq] at hr
    obtain ⟨p, q, h1, h2, rfl⟩ := h
    exact ⟨p, q, Below.trod hl hr.1.1 hr.1.2 h1 hb (fun x hx => hlt x (by simp [hx])), trodAll_stays hl hb ts vs ds q hr.2 h2 (fun x hx => hlt x (by simp [hx])), rfl⟩

/-- the contract of a law: it answers true, and nothing that was there has turned -/
theorem law_contract (hE : EnvOk P E) (hfl : ∀ t ti, E.T t = some ti → ti.agg = true → flatOk E ti.ls 0 ti.fs = true) (hlaid : laidOutB P = true) {f : FuncId} {fn : Func} (hat : PlainAt P E f (callI E f)) (hfn : E.F f = some fn) (hm : E.mode f = .plain) {ps : List TI} (hps : lsOf E fn.params.toList = some ps)
    {bt : TypeId} (hrt : fn.resultTypes = #[bt]) (hbt : E.T bt = some ⟨[.bool], 1, false, []⟩) (hread : (fn.params.toList.all fun t => P.readableRec t && decide (t < P.types.size)) = true)
    (hpure : ∀ ds, OkDs E (joinLs ps) ds → callI E f ds = some [.bool true]) {s : ChangeSpec} (hvars : s.vars = []) (hs : ∀ ds : List (DataW H), ds.length = fn.params.size → s.fn H (ds ++ []) = { results := [.lit (.bool true)], args := ds })
    {W : World} {base : Nat} {args : Array Value} {ds gs : List (DataW H)} {before : List MemPlace} (hval : ∀ (j : Nat) t v, fn.params[j]? = some t → args[j]? = some v → Value.okWide P W .any base t v)
    (hW : DataW.Whole enc P fn.params.toList s.vars false W args.toList ds gs before)
    (hsz : (DataW.weightsEach P (fn.params.toList ++ s.plain.varTypes P) (ds ++ gs)).all (· ≤ reachBytes) = true) :
    Calls P f args W fun e W' => ∃ v, e = .returned v ∧ s.post enc P fn false true false false W args v W' := by
  have hW' := hW
  obtain ⟨p, q, hA, hV, hbe, hfz, hnd⟩ := hW
  rw [hvars] at hV
  have hgs : gs = [] := by
    cases gs with
    | nil => rfl
    | cons g gs => exact hV.elim
  subst hgs
  have hlen : ds.length = fn.params.size := by
    have := (trodAll_length' hA)
    simpa using this
  have hbool : P.underlying bt = some .bool := by
    obtain ⟨l, h1, h2⟩ := (hE.T _ _ hbt).single rfl
    simp only [List.cons.injEq, and_true] at h1
    subst h1
    exact h2
  obtain ⟨cells, dd, o1, o2, o3⟩ := trodAll_open hE hfl fn.params.toList ps args.toList ds p hps hA (fun n hn => by
    have key : ∀ (ts us : List TypeId) (xs ys : List (DataW H)), xs.length = ts.length → n ∈ DataW.weightsEach P ts xs → n ∈ DataW.weightsEach P (ts ++ us) (xs ++ ys) := by
      intro ts
      induction ts with
      | nil => intro us xs ys _ hn; simp [DataW.weightsEach] at hn
      | cons t ts ih =>
        intro us xs ys hl hn
        match xs, hl with
        | x :: xs, hl =>
          simp only [DataW.weightsEach, List.cons_append, List.mem_append] at hn ⊢
          rcases hn with hn | hn
          · exact .inl hn
          · exact .inr (ih us xs ys (by simpa using hl) hn)
    have := List.all_eq_true.mp hsz n (key _ _ _ _ (by simpa using hlen) hn)
    simpa using this) (fun j t v hj hv => hval j t v (by simpa using hj) (by simpa using hv))
  have hrs : lsOf E fn.resultTypes.toList = some [⟨[.bool], 1, false, []⟩] := by rw [hrt]; simp [lsOf, hbt]
  have hc := hat fn ps _ dd [.bool true] hfn hm hps hrs (hpure dd o3) W (fun b => b < W.heap.size) args.toList cells o1 o2 (fun _ h => h)
  rw [Array.toArray_toList] at hc
  refine hc.mono fun e W' h => ?_
  cases e with
  | returned v =>
    obtain ⟨hk, rvs, rcells, bs, rfl, p1, p2, _, _⟩ := h
    have hb := hk.below
    have hv : oneOrV rvs = .bool true := by
      cases p1 with
      | cons ti v cs tis vs rest h1 h2 h3 =>
        cases h3
        have h1' := h1.2
        simp only [Bool.false_eq_true, if_false] at h1'
        subst h1'
        cases p2 with
        | cons l d u b ls ds us bs h4 h5 =>
          cases h4
          rfl
    rw [hv]
    have hres : ∀ (b : Nat) (sp : Nat → Bool) (hd : Bool), DataW.TrodAll enc P W' b sp hd fn.resultTypes.toList ((Value.bool true).resultList fn.resultTypes.size) (s.fn H (ds ++ [])).results [] := fun b sp hd => by
      rw [hs ds hlen, hrt]
      exact trodAll_mk1 (shut_bool hbool true)
    refine ⟨_, rfl, ds, [], before, [], p, [], hW', hres _ _ _, ?_, ?_, hb.frame _, fun h => by cases h⟩
    · rw [hs ds hlen]
      exact trodAll_stays hlaid hb _ _ _ _ hread hA (fun x hx => hW'.lt x (by rw [hbe]; simp [hx]))
    · rw [hs ds hlen, hvars]
      rfl
  | panicked c => exact h.elim
  | outgrown => exact h.elim
end
end Go.Proofs.Ythjkpphjlmmkdaa.Vai
