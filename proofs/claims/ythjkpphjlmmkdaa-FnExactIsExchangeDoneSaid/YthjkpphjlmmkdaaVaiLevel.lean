/- What the interpreter answers is what the machine answers: by induction on the rounds; no condition. -/
import Derived.Test.YthjkpphjlmmkdaaVaiFin
namespace Go.Proofs.Ythjkpphjlmmkdaa.Vai
open Go

section
variable {P : Program} {E : Env} {base : Nat} {M : List Nat} {S0 : Nat → Prop} {R0 : Id → Value} {w0 : World} {nt : Nat} {G : Gh} {st : St} {a : Act} {w : World} {look : Look}

/-- a function that is told and not walked: its contract -/
def PlainAt (P : Program) (E : Env) (f : FuncId) (g : List Dat → Option (List Dat)) : Prop :=
  ∀ fn ps rs ds out, E.F f = some fn → E.mode f = .plain → lsOf E fn.params.toList = some ps → lsOf E fn.resultTypes.toList = some rs → g ds = some out →
    ∀ (w : World) (S : Nat → Prop) (vs cells : List Value), PackR ps vs cells → RDs E w S (joinLs ps) ds cells → (∀ b, S b → b < w.heap.size) →
      Calls P f vs.toArray w fun
        | .returned v, w' => PlainR E rs out w v w'
        | _, _ => False
theorem PlainOk.of_at {call : FuncId → List Dat → Option (List Dat)} (h : ∀ f, PlainAt P E f (call f)) : PlainOk P E call := fun f fn ps rs ds out h1 h2 h3 h4 h5 => h f fn ps rs ds out h1 h2 h3 h4 h5

/-- what the loops of a function answer -/
def LoopOk (P : Program) (E : Env) (f : FuncId) (lp : List Item → St → Option (List Dat)) : Prop :=
  ∀ fn, E.F f = some fn → ∀ (base : Nat) (M : List Nat) (S0 : Nat → Prop) (R0 : Id → Value) (w0 : World) (R : Value → World → Prop) (out : List Dat),
    (∀ st a w, Rel E base M S0 R0 w0 fn.ntmps st a w → finish E f fn st = some out → ∃ v, (results fn a.tmps).run P w = .ok v w ∧ R v w) →
    ∀ c r st a w, Rel E base M S0 R0 w0 fn.ntmps st a w → lp (.inLoop c :: r) st = some out → RunTo P f R (.code c :: .inLoop c :: r) a w

theorem callR_plain (hE : EnvOk P E) (hpl : ∀ f, E.mode f = .plain) {call : FuncId → List Dat → Option (List Dat)} (hC : PlainOk P E call) : CallR P E base M S0 R0 w0 nt call :=
  fun _ _ _ _ _ _ f _ _ _ _ _ h hlook hd hti hl hv hr _ ho => opCall_plain hE hC h hlook hd hti (hpl f) hl hv hr ho

theorem run_ok (hE : EnvOk P E) (hpl : ∀ f, E.mode f = .plain) {f : FuncId} {fn : Func} (hfn : E.F f = some fn) {lp : List Item → St → Option (List Dat)} {call : FuncId → List Dat → Option (List Dat)} (hC : PlainOk P E call) (hL : LoopOk P E f lp)
    {out : List Dat} {R : Value → World → Prop} (hfin : ∀ st a w, Rel E base M S0 R0 w0 fn.ntmps st a w → finish E f fn st = some out → ∃ v, (results fn a.tmps).run P w = .ok v w ∧ R v w)
    (n : Nat) (items : List Item) (st : St) (a : Act) (w : World) (h : Rel E base M S0 R0 w0 fn.ntmps st a w) (hr : runN E f fn lp call n items st = some out) : RunTo P f R items a w :=
  runN_ok hE (hE.F f fn hfn).1 (hE.N f fn hfn).2 (callR_plain hE hpl hC) hfin (fun c r st a w h' hr' => hL fn hfn base M S0 R0 w0 R out hfin c r st a w h' hr')
    (fun _ _ _ _ _ _ _ _ h' hK hr' => draw_ok hE (hE.N f fn hfn).2 (callR_plain hE hpl hC) h' hK hr') n items st a w h hr

theorem level_ok (hE : EnvOk P E) (hpl : ∀ f, E.mode f = .plain) (hX : ∀ f g, E.X f = some g → PlainAt P E f g) : ∀ k, (∀ f, PlainAt P E f ((level E k).1 f)) ∧ ∀ f, LoopOk P E f ((level E k).2 f)
  | 0 => ⟨(fun f fn ps rs ds out _ _ _ _ h => by cases h), (fun f fn _ base M S0 R0 w0 R out _ c r st a w _ h => by cases h)⟩
  | k + 1 => by
    obtain ⟨i1, i2⟩ := level_ok hE hpl hX k
    have hC := PlainOk.of_at i1
    refine ⟨fun f fn ps rs ds out hfn hm hps hrs hr => ?_, fun f fn hfn base M S0 R0 w0 R out hfin c r st a w h hr => ?_⟩
    · simp only [level] at hr
      cases hx : E.X f with
      | some g =>
        rw [hx] at hr
        exact hX f g hx fn ps rs ds out hfn hm hps hrs hr
      | none =>
        rw [hx, hfn] at hr
        simp only at hr
        split at hr
        · rename_i c st0 hb hi
          intro w S vs cells hp hd hS
          refine calls_of_run (hE.F f fn hfn).1 hb ?_
          unfold init at hi
          rw [hm, hps] at hi
          simp only [Option.some.injEq] at hi
          subst hi
          have hlen := lsOf_length hps
          exact run_ok (R0 := fun _ => undef) hE hpl hfn hC (i2 f) (fun st a w' h' hf' => finish_plain hE hm hrs h' hf') _ _ _ _ _ (init_plain (hE.N f fn hfn).1 (by simpa using hlen) hp hd hS) hr
        · cases hr
    · simp only [level, hfn] at hr
      exact run_ok hE hpl hfn hC (i2 f) hfin _ _ _ _ _ h hr

/-- A function's answer, as the interpreter tells it. -/
theorem icall_ok (hE : EnvOk P E) (hpl : ∀ f, E.mode f = .plain) (hX : ∀ f g, E.X f = some g → PlainAt P E f g) (k : Nat) (f : FuncId) : PlainAt P E f (icall E k f) := (level_ok hE hpl hX k).1 f
end
end Go.Proofs.Ythjkpphjlmmkdaa.Vai
