/- Operations that only compute: what the interpreter says of them is what the machine does; no condition. -/
import Derived.Test.YthjkpphjlmmkdaaVaiStep
namespace Go.Proofs.Ythjkpphjlmmkdaa.Vai
open Go

def scalRel (cs : List AV) (xs : Array Value) : Prop := xs.size = cs.length ∧ ∀ (i : Nat) (v : AV) (x : Value), cs[i]? = some v → xs[i]? = some x →
  match v with
  | .i k n => x = .int k n
  | .b b => x = .bool b
  | .s s => x = .string s
  | _ => True
/-- '==' and '!=' of two structs of this type are told by the interpreter's avEq. -/
def EqOk (P : Program) (t : TypeId) (ls : List Leaf) : Prop := ∀ (w : World) (cs ds : List AV) (xs ys : Array Value) (r : Bool) (x y : Operand), avFits ls cs = true → avFits ls ds = true → scalRel cs xs → scalRel ds ys → avEq cs ds = some r →
  (do eqGuard .eql t x y (.agg xs) (.agg ys); binOp .eql t (.agg xs) (.agg ys)).run P w = .ok (.bool r) w ∧
  (do eqGuard .neq t x y (.agg xs) (.agg ys); binOp .neq t (.agg xs) (.agg ys)).run P w = .ok (.bool (!r)) w
structure EnvOk (P : Program) (E : Env) : Prop where
  T : ∀ t ti, E.T t = some ti → TOk P E t ti
  F : ∀ f fn, E.F f = some fn → P.funcs[f]? = some fn ∧ (fn.name == "runtime.NumGoroutine") = false ∧ fn.body.isNone = false
  N : ∀ f fn, E.F f = some fn → fn.params.size ≤ fn.ntmps ∧ fn.ntmps ≤ 1000000
  mixed : P.follows .mixedOrders = true
  eqT : ∀ t ti, E.eqT t = true → E.T t = some ti → EqOk P t ti.ls

section
variable {P : Program} {E : Env} {base : Nat} {M : List Nat} {S0 : Nat → Prop} {R0 : Id → Value} {w0 : World} {nt : Nat} {G : Gh} {st : St} {a : Act} {w : World}

theorem VR.cv {ob : List (Id × Obj)} (v : Value) : VR E w S0 G ob (cv v) v := by
  unfold Vai.cv
  split
  · exact .i _ _
  · exact .b _
  · exact .s _
  · exact .nil
  · exact .dead _
theorem RelG.ev (h : RelG E base M S0 R0 w0 nt G st a w) (x : Operand) : VR E w S0 G st.ob (ev st.tm x) (a.eval x) := by
  cases x with
  | tmp t => exact h.tmps t
  | const v => exact .cv v
  | global g => exact .dead _
  | func f => exact .dead _

theorem Live.of {b : Nat} {ob : List (Id × Obj)} (h : S0 b ∨ b ∈ G.F) : Live S0 G ob b := h.elim .inl fun h => .inr (.inl h)
theorem RowR.rd {S : Nat → Prop} {e : TypeId} {rows : List (List Dat)} {deep : Bool} {root : Value} {top ins : List Nat} {S' : Nat → Prop}
    (h : RowR E w S e rows deep [] root top ins) (ht : ∀ b ∈ top, S' b) (hi : ∀ b ∈ ins, S' b) (hS : ∀ b, S b → S' b) : RD E w S' (.sl e) (.sl rows) root := by
  obtain ⟨te, h1, h2, h3⟩ := h
  have nohole : ∀ j i, ¬ isHole [] j i := fun j i hh => by obtain ⟨r, hr, _⟩ := hh; cases hr
  rcases h3 with ⟨h3, rfl, _, _⟩ | ⟨g, off, c, arr, u, bs, a1, a2, a3, a4, a5, a6, a7, a8, a9, a10⟩
  · rw [h3]
    exact RD.sl e te (.sl []) none 0 (fun _ _ => undef) h1 (Nat.le_refl _) (fun j r hj => by simp [Dat.rows] at hj) (fun j i hj => by simp [Dat.rows] at hj) (fun j i r l hj => by simp [Dat.rows] at hj)
  · rw [a1]
    refine RD.sl e te (.sl rows) _ c u h1 a4 h2 (fun j i hj hi' => ⟨⟨g, off, none⟩, rfl, rfl, ht g (by rw [a2]; simp), ?_⟩) (fun j i r l hj hl => ?_)
    · simp only [World.cell?, a3]
      simpa using (a6 j i hj hi').1
    · have := a7 j i r l hj hl (nohole j i)
      cases deep with
      | false => simp only [Bool.false_eq_true, if_false] at this; exact this.mono hS
      | true =>
        simp only [if_true] at this
        refine this.rd fun b hb => hi b ?_
        rw [a8 rfl]
        exact mem_flatB.mpr ⟨j, i, (List.getElem?_eq_some_iff.mp hj).1, (List.getElem?_eq_some_iff.mp hl).1, hb⟩

/-- a window of what can be read can be read -/
theorem RD.win {S : Nat → Prop} {e : TypeId} {te : TI} {rows : List (List Dat)} {root v : Value} {lo n : Int} (h : RD E w S (.sl e) (.sl rows) root) (ht : E.T e = some te)
    (hw : Win te.ls.length rows.length root lo n v) : RD E w S (.sl e) (.sl ((rows.drop lo.toNat).take n.toNat)) v := by
  obtain ⟨h0, h1, h2, A', c', rfl, h3⟩ := hw
  cases h with
  | sl _ te' _ A c u ht' hc hl hm hr =>
    rw [ht] at ht'; cases ht'
    simp only [Dat.rows] at hc hl hm hr h3
    have hlen : ((rows.drop lo.toNat).take n.toNat).length = n.toNat := by simp; omega
    have hget : ∀ (j : Nat) (r : List Dat), ((rows.drop lo.toNat).take n.toNat)[j]? = some r → rows[lo.toNat + j]? = some r := fun j r hj => by
      rw [List.getElem?_take] at hj
      split at hj
      · rwa [List.getElem?_drop] at hj
      · cases hj
    have key := RD.sl (E := E) (w := w) (S := S) e te (.sl ((rows.drop lo.toNat).take n.toNat)) A' c' (fun j i => u (lo.toNat + j) i) ht
      (by
        simp only [Dat.rows, hlen]
        cases A with
        | none => simp only at h3; obtain ⟨_, rfl, h5⟩ := h3; omega
        | some ad => simp only at h3; obtain ⟨off', _, _, h5, _⟩ := h3; exact h5)
      (fun j r hj => hl _ r (hget j r hj))
      (fun j i hj hi => by
        simp only [Dat.rows, hlen] at hj
        obtain ⟨ad, q1, q2, q3, q4⟩ := hm (lo.toNat + j) i (by omega) hi
        subst q1
        simp only at h3
        obtain ⟨off', h4, h5, h6, h7, h8⟩ := h3
        subst h4
        refine ⟨_, rfl, rfl, q3, ?_⟩
        rcases h7 with h7 | h7
        · omega
        · subst h7
          rw [← q4]
          congr 2
          simp only [Nat.add_mul]
          omega)
      (fun j i r l hj hl' => hr _ i r l (hget j r hj) hl')
    simp only [Dat.rows, hlen] at key
    exact key

variable {look : Look}
theorem RelG.slOf (h : RelG E base M S0 R0 w0 nt G st a w) (hlook : ∀ i x, look i = some x → getO st.ob i = some x) {x : AV} {v : Value} (hv : VR E w S0 G st.ob x v)
    {e' : Option TypeId} {r : List (List Dat)} (hs : slOf look x = some (e', r)) : ∀ e te, E.T e = some te → eOK e e' = true → RD E w (Live S0 G st.ob) (.sl e) (.sl r) v := by
  intro e te ht he
  cases hv with
  | nil =>
    simp only [Vai.slOf, Option.some.injEq, Prod.mk.injEq] at hs
    obtain ⟨rfl, rfl⟩ := hs
    exact RD.sl e te (.sl []) none 0 (fun _ _ => undef) ht (Nat.le_refl _) (fun j r hj => by simp [Dat.rows] at hj) (fun j i hj => by simp [Dat.rows] at hj) (fun j i r l hj => by simp [Dat.rows] at hj)
  | ro e0 al rows _ hr =>
    simp only [Vai.slOf, Option.some.injEq, Prod.mk.injEq] at hs
    obtain ⟨rfl, rfl⟩ := hs
    have := beqT he; subst this
    exact hr.mono fun b hb => .of (hb.imp id fun hb => hb.2)
  | nest o ver row col e0 whole rows _ hr hn =>
    simp only [Vai.slOf, Option.some.injEq, Prod.mk.injEq] at hs
    obtain ⟨rfl, rfl⟩ := hs
    have := beqT he; subst this
    exact hr.mono fun b hb => .of hb
  | own o _ hr h1 =>
    simp only [Vai.slOf] at hs
    split at hs
    · rename_i e0 rows dp vr hl
      simp only [Option.some.injEq, Prod.mk.injEq] at hs
      obtain ⟨rfl, rfl⟩ := hs
      have := beqT he; subst this
      have hg := hlook _ _ hl
      rw [hr _ _ _ _ _ hg]
      exact (h.objs o _ hg : RowR E w _ _ _ _ _ _ _ _).rd (fun b hb => .inr (.inr ⟨o, _, hg, hb⟩)) (fun b hb => .inr (.inl ((h.ins o _ hg).1 b hb))) (fun b hb => .of hb)
    · cases hs
  | vw o lo n _ hr h1 =>
    simp only [Vai.slOf] at hs
    split at hs
    · rename_i e0 rows dp vr hl
      simp only [Option.some.injEq, Prod.mk.injEq] at hs
      obtain ⟨rfl, rfl⟩ := hs
      have := beqT he; subst this
      have hg := hlook _ _ hl
      have key := (h.objs o _ hg : RowR E w _ _ _ _ _ _ _ _).rd (S' := Live S0 G st.ob) (fun b hb => .inr (.inr ⟨o, _, hg, hb⟩)) (fun b hb => .inr (.inl ((h.ins o _ hg).1 b hb))) (fun b hb => .of hb)
      exact key.win ht (hr _ _ _ _ _ _ hg ht)
    · cases hs
  | _ => simp [Vai.slOf] at hs
theorem RelG.toDat (h : RelG E base M S0 R0 w0 nt G st a w) (hlook : ∀ i x, look i = some x → getO st.ob i = some x) {l : Leaf} {x : AV} {v : Value} (hv : VR E w S0 G st.ob x v)
    (hl : ∀ e, l = .sl e → ∃ te, E.T e = some te) {d : Dat} (hd : toDat look l x = some d) : RD E w (Live S0 G st.ob) l d v := by
  cases l with
  | int k =>
    cases hv <;> simp only [Vai.toDat] at hd <;> first | cases hd | skip
    rename_i k' n
    cases hk : ikEq k k' <;> rw [hk] at hd
    · cases hd
    · simp only [cond_true, Option.some.injEq] at hd
      subst hd
      have : k = k' := by simpa [ikEq] using hk
      subst this
      exact .int k _
  | bool =>
    cases hv <;> simp only [Vai.toDat] at hd <;> first | cases hd | skip
    exact .bool _
  | str =>
    cases hv <;> simp only [Vai.toDat] at hd <;> first | cases hd | skip
    exact .str _
  | sl e =>
    simp only [Vai.toDat] at hd
    split at hd
    · rename_i e' r hs
      cases he : eOK e e' <;> rw [he] at hd
      · cases hd
      · simp only [cond_true, Option.some.injEq] at hd
        subst hd
        obtain ⟨te, ht⟩ := hl e rfl
        exact h.slOf hlook hv hs e te ht he
    · cases hd

end
end Go.Proofs.Ythjkpphjlmmkdaa.Vai
