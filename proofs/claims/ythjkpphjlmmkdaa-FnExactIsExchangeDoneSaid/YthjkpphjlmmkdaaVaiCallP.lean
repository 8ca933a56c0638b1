/- A call that reads its arguments and gives what is new; no condition. -/
import Derived.Test.YthjkpphjlmmkdaaVaiClean
namespace Go.Proofs.Ythjkpphjlmmkdaa.Vai
open Go

section
variable {P : Program} {E : Env} {base : Nat} {M : List Nat} {S0 : Nat → Prop} {R0 : Id → Value} {w0 : World} {nt : Nat} {G : Gh} {st : St} {a : Act} {w : World} {look : Look}

theorem opCall_plain (hE : EnvOk P E) {call : FuncId → List Dat → Option (List Dat)} (hC : PlainOk P E call) (h : RelG E base M S0 R0 w0 nt G st a w) (hlook : ∀ i x, look i = some x → getO st.ob i = some x) {dst : Option Nat} (hd : inB nt dst = true) {t : Nat} (hti : t < 1000000) {f : FuncId}
    (hm : E.mode f = .plain) {xs : List AV} {vs : List Value} (hl : xs.length = vs.length) (hv : ∀ (i : Nat) (x : AV) (v : Value), xs[i]? = some x → vs[i]? = some v → VR E w S0 G st.ob x v) {r : OpRes} (hr : opCall E call look t f xs = some r) {out : List Dat} (ho : r.o = some out) :
    (∃ fn, E.F f = some fn) ∧ Calls P f vs.toArray w fun
      | .returned v, w' => Rel E base M S0 R0 w0 nt (applyD st dst (r.f out)) (a.put dst v) w'
      | _, _ => False := by
  unfold opCall at hr
  split at hr
  · cases hr
  · rename_i fn hfn
    refine ⟨⟨fn, hfn⟩, ?_⟩
    rw [hm] at hr
    simp only at hr
    split at hr
    · rename_i ps rs hps hrs
      split at hr
      · cases hr
      · rename_i ds hds
        cases hf : argsFit ps xs <;> rw [hf] at hr
        · cases hr
        simp only [Bool.not_true, cond_false, Option.some.injEq] at hr
        subst hr
        simp only at ho
        obtain ⟨cells, q1, q2⟩ := args_ok h hlook (lsOf_elem hE hps) hl hv hds hf
        refine (hC f fn ps rs ds out hfn hm hps hrs ho w (Live S0 G st.ob) vs cells q1 q2 (fun b hb => h.live_lt hb)).mono fun e w' hh => ?_
        cases e with
        | returned v =>
          obtain ⟨hk, rvs, rcells, bs, rfl, p1, p2, p3, p4⟩ := hh
          exact h.call_end hd hti hk p1 p2 p3 p4
        | panicked c => exact hh.elim
        | outgrown => exact hh.elim
    · cases hr
end
end Go.Proofs.Ythjkpphjlmmkdaa.Vai
