/- The run of a function's body; no condition. -/
import Derived.Test.YthjkpphjlmmkdaaVaiClean2
namespace Go.Proofs.Ythjkpphjlmmkdaa.Vai
open Go

section
variable {P : Program} {E : Env} {base : Nat} {M : List Nat} {S0 : Nat → Prop} {R0 : Id → Value} {w0 : World} {nt : Nat}

/-- from these items on the function returns a value that R tells -/
def RunTo (P : Program) (f : FuncId) (R : Value → World → Prop) (items : List Item) (a : Act) (w : World) : Prop :=
  ∀ (b : Frame), b.fn = f → b.kind = .normal → ∀ cs, ∃ v w' fr, R v w' ∧ Steps P (lone (b.at a items) cs w) (lone fr cs w') ∧ fr.fn = f ∧ fr.leaving P w' (.returned v)
theorem RunTo.step {f : FuncId} {R : Value → World → Prop} {items items' : List Item} {a : Act} {w : World} (hs : ∀ (b : Frame) cs, step P (lone (b.at a items) cs w) = .next (lone (b.at a items') cs w)) (h : RunTo P f R items' a w) : RunTo P f R items a w :=
  fun b hb hk cs => by
    obtain ⟨v, w', fr, h1, h2, h3⟩ := h b hb hk cs
    exact ⟨v, w', fr, h1, .head (hs b cs) h2, h3⟩

theorem runN_ok (hE : EnvOk P E) {f : FuncId} {fn : Func} (hf : P.funcs[f]? = some fn) (hnt : fn.ntmps ≤ 1000000) {again : List Item → St → Option (List Dat)} {call : FuncId → List Dat → Option (List Dat)} (hC : CallR P E base M S0 R0 w0 fn.ntmps call) {out : List Dat} {R : Value → World → Prop}
    (hfin : ∀ st a w, Rel E base M S0 R0 w0 fn.ntmps st a w → finish E f fn st = some out → ∃ v, (results fn a.tmps).run P w = .ok v w ∧ R v w)
    (hagain : ∀ c r st a w, Rel E base M S0 R0 w0 fn.ntmps st a w → again (.inLoop c :: r) st = some out → RunTo P f R (.code c :: .inLoop c :: r) a w)
    (hdraw : ∀ n id ops r st a w (K : Act → World → Prop), Rel E base M S0 R0 w0 fn.ntmps st a w → (∀ st' a' w', Rel E base M S0 R0 w0 fn.ntmps st' a' w' → runN E f fn again call n r st' = some out → K a' w') → runOps E fn.ntmps call ops.toList (fun rs st' => bif orderOk ops.toList st rs then runN E f fn again call n r st' else none) ops.toList 0 [] st = some out →
      (Code.region id ops true).wp P (fun e a' w' => match e with | .normal => K a' w' | _ => False) a w) :
    ∀ (n : Nat) (items : List Item) (st : St) (a : Act) (w : World), Rel E base M S0 R0 w0 fn.ntmps st a w → runN E f fn again call n items st = some out → RunTo P f R items a w := by
  intro n
  induction n with
  | zero => intro items st a w h hr; simp [runN] at hr
  | succ n ih =>
    intro items st a w h hr
    have leave : finish E f fn st = some out → ∀ (b : Frame), b.fn = f → b.kind = .normal → ∀ todo, ∃ v, R v w ∧ ({ b.at a todo with mode := .returning } : Frame).fn = f ∧ ({ b.at a todo with mode := .returning } : Frame).leaving P w (.returned v) := fun hfi b hb hk todo => by
      obtain ⟨v, h1, h2⟩ := hfin st a w h hfi
      obtain ⟨G, hG⟩ := h
      exact ⟨v, h2, hb, rfl, hG.defers, hk, fn, by simp only [Frame.at]; rw [hb]; exact hf, h1⟩
    simp only [runN] at hr
    split at hr
    · intro b hb hk cs
      obtain ⟨v, h1, h2, h3⟩ := leave hr b hb hk []
      exact ⟨v, w, _, h1, .one step_end, h2, h3⟩
    · rename_i r
      intro b hb hk cs
      obtain ⟨v, h1, h2, h3⟩ := leave hr b hb hk (.code .ret :: r)
      exact ⟨v, w, _, h1, .one step_ret, h2, h3⟩
    · exact .step (fun b cs => step_skip) (ih _ _ _ _ h hr)
    · exact .step (fun b cs => step_inBlock) (ih _ _ _ _ h hr)
    · exact .step (fun b cs => step_seq) (ih _ _ _ _ h hr)
    · rename_i c x y r
      split at hr
      · rename_i t ht
        obtain ⟨G, hG⟩ := h
        have hv := hG.ev c
        rw [ht] at hv
        generalize hav : a.eval c = v at hv
        cases hv
        cases t
        · exact .step (fun b cs => step_cond hav) (ih _ _ _ _ ⟨G, hG⟩ hr)
        · exact .step (fun b cs => step_cond hav) (ih _ _ _ _ ⟨G, hG⟩ hr)
      · cases hr
    · exact .step (fun b cs => step_block) (ih _ _ _ _ h hr)
    · rename_i c r
      obtain ⟨G, hG⟩ := h
      exact .step (fun b cs => step_loop) (hagain c r _ _ _ (hG.clean2 _) hr)
    · rename_i c r
      obtain ⟨G, hG⟩ := h
      exact .step (fun b cs => step_inLoop) (hagain c r _ _ _ (hG.clean2 _) hr)
    · rename_i id r
      split at hr
      · rename_i r' hx
        exact .step (fun b cs => step_exit hx) (ih _ _ _ _ h hr)
      · cases hr
    · rename_i id ops draw r
      have conv : (Code.region id ops draw).wp P (fun e a' w' => match e with | .normal => RunTo P f R r a' w' | _ => False) a w → RunTo P f R (.code (.region id ops draw) :: r) a w := fun hw b hb hk cs => by
        obtain ⟨e, a', w', q1, q2⟩ := hw b r cs
        cases e with
        | normal =>
          obtain ⟨v, w2, fr, h1, h2, h3⟩ := q1 b hb hk cs
          exact ⟨v, w2, fr, h1, Steps.trans q2 h2, h3⟩
        | _ => exact q1.elim
      refine conv ?_
      cases draw with
      | true => exact hdraw n id ops r st a w (RunTo P f R r) h (fun st' a' w' h' hm => ih r st' a' w' h' hm) (by simpa using hr)
      | false =>
        refine wp_region ?_
        have := runOps_ok hE hnt hC (ops := ops) (out := out) (Q := fun e a' w' => match e with | .normal => RunTo P f R r a' w' | _ => False) (fin := fun rs st' => runN E f fn again call n r st') (fun rs st' a' w' h' hr' => ih r st' a' w' h' hr') ops.toList 0 rfl [] st a w h (by simpa using hr)
        simpa [List.range_eq_range'] using this
    · cases hr
end
end Go.Proofs.Ythjkpphjlmmkdaa.Vai
