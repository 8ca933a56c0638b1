/- After memory inside rows has turned: aliases fall away; no condition. -/
import Derived.Test.YthjkpphjlmmkdaaVaiTab2
namespace Go.Proofs.Ythjkpphjlmmkdaa.Vai
open Go

theorem numbL_get (cs : List AV) (i : Nat) : (numbL cs)[i]? = (cs[i]?).map numbA := by
  induction cs generalizing i with
  | nil => simp [numbL]
  | cons c cs ih =>
    cases i with
    | zero => simp [numbL]
    | succ i => simpa [numbL] using ih i
theorem numbL_length (cs : List AV) : (numbL cs).length = cs.length := by
  induction cs with
  | nil => rfl
  | cons c cs ih => simp [numbL, ih]
theorem getT_numbT (tm : List (Nat × AV)) (t : Nat) : getT (numbT tm) t = numbA (getT tm t) := by
  induction tm with
  | nil => simp [numbT, getT, numbA]
  | cons p tm ih =>
    obtain ⟨a, v⟩ := p
    simp only [numbT, getT]
    cases Nat.beq a t
    · simpa using ih
    · simp
def numbObj : Obj → Option Obj
  | .box t cs => some (.box t (numbL cs))
  | .row e rows true v h => some (.row e rows true v h)
  | .row _ _ false _ _ => none
theorem getO_numbO (ob : List (Id × Obj)) (o : Id) : getO (numbO ob) o = (getO ob o).bind numbObj := by
  induction ob with
  | nil => simp [numbO, getO]
  | cons p ob ih =>
    obtain ⟨a, x⟩ := p
    cases x with
    | row e rows d v h =>
      cases d with
      | true =>
        simp only [numbO, getO, cond_true]
        cases idEq a o
        · simpa using ih
        · simp [numbObj]
      | false =>
        simp only [numbO, getO, cond_false, getO_delO]
        cases hk : idEq a o
        · rw [if_neg (fun e => idEq_false.mp hk e.symm)]
          simpa using ih
        · rw [if_pos (idEq_iff.mp hk).symm]
          simp [numbObj]
    | box t cs =>
      simp only [numbO, getO]
      cases idEq a o
      · simpa using ih
      · simp [numbObj]
theorem numbObj_some {x y : Obj} (h : numbObj x = some y) : (∃ e rows v hh, x = .row e rows true v hh ∧ y = x) ∨ ∃ t cs, x = .box t cs ∧ y = .box t (numbL cs) := by
  cases x with
  | row e rows d v hh =>
    cases d with
    | true => simp only [numbObj, Option.some.injEq] at h; exact .inl ⟨e, rows, v, hh, rfl, h.symm⟩
    | false => cases h
  | box t cs => simp only [numbObj, Option.some.injEq] at h; exact .inr ⟨t, cs, rfl, h.symm⟩

mutual
theorem numbA_idem : ∀ v : AV, numbA (numbA v) = numbA v
  | .dead => rfl
  | .i _ _ => rfl
  | .b _ => rfl
  | .s _ => rfl
  | .nil => rfl
  | .agg cs => by simp only [numbA, numbL_idem cs]
  | .tup cs => by simp only [numbA, numbL_idem cs]
  | .ro e al rows => by cases al <;> rfl
  | .own _ => rfl
  | .vw _ _ _ => rfl
  | .nest _ _ _ _ _ _ _ => rfl
  | .ptr _ _ _ => rfl
  | .pro e al cs f => by cases al <;> rfl
theorem numbL_idem : ∀ cs : List AV, numbL (numbL cs) = numbL cs
  | [] => rfl
  | v :: r => by simp only [numbL, numbA_idem v, numbL_idem r]
end
theorem numbT_idem (tm : List (Nat × AV)) : numbT (numbT tm) = numbT tm := by
  induction tm with
  | nil => rfl
  | cons p tm ih => obtain ⟨k, v⟩ := p; simp only [numbT, numbA_idem, ih]
def NumbO (ob : List (Id × Obj)) : Prop := ∀ p ∈ ob, numbObj p.2 = some p.2
theorem NumbO.eq {ob : List (Id × Obj)} (h : NumbO ob) : numbO ob = ob := by
  induction ob with
  | nil => rfl
  | cons p ob ih =>
    have h1 := h p (by simp)
    have h2 := ih (fun q hq => h q (List.mem_cons_of_mem _ hq))
    obtain ⟨k, x⟩ := p
    cases x with
    | row e rows d v hh =>
      cases d with
      | true => simp only [numbO, cond_true, h2]
      | false => cases h1
    | box t cs =>
      simp only [numbObj, Option.some.injEq, Obj.box.injEq, true_and] at h1
      simp only [numbO, h2, h1]
theorem mem_delO {ob : List (Id × Obj)} {k : Id} {p : Id × Obj} (h : p ∈ delO ob k) : p ∈ ob := by
  induction ob with
  | nil => exact h
  | cons q ob ih =>
    obtain ⟨k', x⟩ := q
    simp only [delO] at h
    cases hk : idEq k' k <;> rw [hk] at h
    · simp only [cond_false, List.mem_cons] at h ⊢
      exact h.imp id ih
    · exact List.mem_cons_of_mem _ (ih h)
theorem numbO_numb (ob : List (Id × Obj)) : NumbO (numbO ob) := by
  induction ob with
  | nil => intro p hp; cases hp
  | cons q ob ih =>
    obtain ⟨k, x⟩ := q
    cases x with
    | row e rows d v hh =>
      cases d with
      | true =>
        simp only [numbO, cond_true]
        intro p hp
        rcases List.mem_cons.mp hp with rfl | hp
        · rfl
        · exact ih p hp
      | false => simp only [numbO, cond_false]; exact fun p hp => ih p (mem_delO hp)
    | box t cs =>
      simp only [numbO]
      intro p hp
      rcases List.mem_cons.mp hp with rfl | hp
      · simp only [numbObj, numbL_idem]
      · exact ih p hp
theorem NumbO.set {ob : List (Id × Obj)} (h : NumbO ob) (k : Id) {x : Obj} (hx : numbObj x = some x) : NumbO (setO ob k x) := by
  induction ob with
  | nil => intro p hp; simp [setO] at hp; subst hp; exact hx
  | cons q ob ih =>
    obtain ⟨k', y⟩ := q
    simp only [setO]
    cases hk : idEq k' k
    · simp only [cond_false]
      intro p hp
      rcases List.mem_cons.mp hp with rfl | hp
      · exact h _ (by simp)
      · exact ih (fun q hq => h q (List.mem_cons_of_mem _ hq)) p hp
    · simp only [cond_true]
      intro p hp
      rcases List.mem_cons.mp hp with rfl | hp
      · exact hx
      · exact h p (List.mem_cons_of_mem _ hp)

section
variable {P : Program} {E : Env} {base : Nat} {M : List Nat} {S0 : Nat → Prop} {R0 : Id → Value} {w0 : World} {nt : Nat} {G : Gh} {st : St} {a : Act} {w : World} {look : Look}

def Gh.withF (G : Gh) (F : List Nat) : Gh := { G with F := F }
theorem VR.numb {ob : List (Id × Obj)} {w' : World} {F' : List Nat} (hS : ∀ b, S0 b → w'.heap[b]? = w.heap[b]?) {x : AV} {v : Value} (h : VR E w S0 G ob x v) : VR E w' S0 (G.withF F') ob (numbA x) v := by
  induction h with
  | dead v => exact .dead v
  | i k n => exact .i k n
  | b x => exact .b x
  | s x => exact .s x
  | nil => exact .nil
  | agg cs arr hl h h1 ih =>
    refine .agg _ arr ((numbL_length cs).trans hl) (fun i v x hv hx => ?_) h1
    rw [numbL_get] at hv
    obtain ⟨v0, h0, rfl⟩ := Option.map_eq_some_iff.mp hv
    exact ih i v0 x h0 hx
  | tup vs arr hl h ih =>
    refine .tup _ arr ((numbL_length vs).trans hl) (fun i v x hv hx => ?_)
    rw [numbL_get] at hv
    obtain ⟨v0, h0, rfl⟩ := Option.map_eq_some_iff.mp hv
    exact ih i v0 x h0 hx
  | ro e al rows v h =>
    cases al with
    | true => exact .dead v
    | false =>
      refine .ro e false rows v (h.frame (fun b hb => ?_) (fun b hb => ?_))
      · exact hb.elim (hS b) (fun hb => by cases hb.1)
      · exact hb.imp id (fun hb => by cases hb.1)
  | own o v h h1 => exact .own o v h h1
  | vw o lo n v h h1 => exact .vw o lo n v h h1
  | nest o ver row col e whole rows v h hn => exact .dead v
  | ptr o row off v h h1 => exact .ptr o row off v h h1
  | pro e te al cells off g o0 u ht hl hm hr =>
    cases al with
    | true => exact .dead _
    | false =>
      refine .pro e te false cells off g o0 u ht hl (fun i hi => ?_) (fun i l hl' => (hr i l hl').frame (fun b hb => hb.elim (hS b) (fun hb => by cases hb.1)) (fun b hb => hb.imp id (fun hb => by cases hb.1)))
      obtain ⟨h1, h2⟩ := hm i hi
      rcases h1 with h1 | ⟨h1, _⟩
      · exact ⟨.inl h1, (cell_same (a := ⟨g, o0 + i, none⟩) (hS g h1)).trans h2⟩
      · cases h1

theorem RelG.numb (h : RelG E base M S0 R0 w0 nt G st a w) (F' : List Nat) (hsub : ∀ b ∈ F', b ∈ G.F) (hins : ∀ o e rows v hh, getO st.ob o = some (.row e rows true v hh) → ∀ b ∈ G.ins o, b ∈ F') :
    RelG E base M S0 R0 w0 nt (G.withF F') { tm := numbT st.tm, ob := numbO st.ob } a w := by
  have hget : ∀ o x, getO (numbO st.ob) o = some x → ∃ y, getO st.ob o = some y ∧ numbObj y = some x := fun o x hx => by
    rw [getO_numbO] at hx
    cases hy : getO st.ob o with
    | none => rw [hy] at hx; cases hx
    | some y => rw [hy] at hx; exact ⟨y, rfl, hx⟩
  have hc : Comp (fun _ => False) E w S0 G st.ob w G (numbO st.ob) := Comp.less fun o x hx => by
    obtain ⟨y, hy, hn⟩ := hget o x hx
    refine ⟨y, hy, ?_⟩
    rcases numbObj_some hn with ⟨e, rows, v, hh, rfl, rfl⟩ | ⟨t, cs, rfl, rfl⟩
    · exact .inl rfl
    · exact .inr ⟨t, cs, _, rfl, rfl⟩
  have hS : ∀ b, S0 b → w.heap[b]? = w.heap[b]? := fun _ _ => rfl
  refine ⟨h.kept, h.old, fun o x hx => ?_, fun o x hx b hb => ?_, fun o x o' x' hx hx' => ?_, fun o x hx => ?_, fun o x o' x' hx hx' => ?_, fun b hb => h.F b (hsub b hb), fun t => ?_, h.defers, h.size, fun o x hp hx => h.par o _ hp (hget o x hx).choose_spec.1⟩
  · obtain ⟨y, hy, hn⟩ := hget o x hx
    have := h.objs o y hy
    rcases numbObj_some hn with ⟨e, rows, v, hh, rfl, rfl⟩ | ⟨t, cs, rfl, rfl⟩
    · obtain ⟨te, h1, h2, h3⟩ := (this : RowR E w _ e rows true hh _ _ _)
      refine ⟨te, h1, h2, h3.imp id fun ⟨g, off, c, arr, u, bs, a1, a2, a3, a4, a5, a6, a7, a8, a9, a10⟩ => ⟨g, off, c, arr, u, bs, a1, a2, a3, a4, a5, a6, fun j i r l hj hl hh => ?_, a8, a9, a10⟩⟩
      have := a7 j i r l hj hl hh
      simpa using this
    · obtain ⟨g, arr, et, h1, h2, h3, h4, h5, h6⟩ := (this : BoxR E w S0 G st.ob cs _ _ _)
      refine ⟨g, arr, et, h1, h2, h3, h4, h5.trans (numbL_length cs).symm, fun i v x hv hxx => ?_⟩
      rw [numbL_get] at hv
      obtain ⟨v0, h0, rfl⟩ := Option.map_eq_some_iff.mp hv
      obtain ⟨h7, h8⟩ := h6 i v0 x h0 hxx
      exact ⟨(h7.map hc noEx).numb hS, h8⟩
  · obtain ⟨y, hy, _⟩ := hget o x hx
    obtain ⟨q1, q2, q3⟩ := h.tops o y hy b hb
    exact ⟨q1, fun hb => q2 (hsub b hb), q3⟩
  · obtain ⟨y, hy, _⟩ := hget o x hx
    obtain ⟨y', hy', _⟩ := hget o' x' hx'
    exact h.tops2 o y o' y' hy hy'
  · obtain ⟨y, hy, hn⟩ := hget o x hx
    refine ⟨fun b hb => ?_, (h.ins o y hy).2⟩
    rcases numbObj_some hn with ⟨e, rows, v, hh, rfl, rfl⟩ | ⟨t, cs, rfl, rfl⟩
    · exact hins o e rows v hh hy b hb
    · obtain ⟨g, arr, et, h1, h2, h3, _⟩ := (h.objs o _ hy : BoxR E w S0 G st.ob cs _ _ _)
      have hb : b ∈ G.ins o := hb
      rw [h3] at hb; cases hb
  · obtain ⟨y, hy, _⟩ := hget o x hx
    obtain ⟨y', hy', _⟩ := hget o' x' hx'
    exact h.ins2 o y o' y' hy hy'
  · rw [getT_numbT]
    exact ((h.tmps t).map hc noEx).numb hS
end
end Go.Proofs.Ythjkpphjlmmkdaa.Vai
