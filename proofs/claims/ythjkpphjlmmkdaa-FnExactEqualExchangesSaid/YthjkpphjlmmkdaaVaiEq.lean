/- '==' of structs of numbers, bools and strings; no condition. -/
import Derived.Test.YthjkpphjlmmkdaaVaiEnv
import Derived.Laws.StructEq
import Derived.ChangeKeysEq
namespace Go.Proofs.Ythjkpphjlmmkdaa.Vai
open Go

/-- tests, as functions -/
def ltI (a b : Int) : Bool := decide (a < b)
def leI (a b : Int) : Bool := decide (a ≤ b)
def eqI (a b : Int) : Bool := decide (a = b)
def leN (a b : Nat) : Bool := decide (a ≤ b)
def eqBo (a b : Bool) : Bool := decide (a = b)
def flatLeaf : Leaf → Bool
  | .sl _ => false
  | _ => true
def eqFs (P : Program) (ls : List Leaf) : Nat → List Field → Bool
  | i, [] => Nat.beq i ls.length
  | i, f :: r => !(f.name == "_") && (Nat.beq f.offset i && ((match P.underlying f.type, ls[i]? with
    | some d, some l => flatLeaf l && descIs l d
    | _, _ => false) && eqFs P ls (i + 1) r))
def eqB (P : Program) (t : TypeId) (ls : List Leaf) : Bool := !P.stoodInHeld t && (!P.eqGuardType P.depth t && match P.underlying t with
  | some (.struct fs) => eqFs P ls 0 fs.toList
  | _ => false)

section
variable {P : Program} {w : World}
theorem avFits_get : ∀ {ls : List Leaf} {cs : List AV}, avFits ls cs = true → cs.length = ls.length
  | [], [], _ => rfl
  | [], _ :: _, h => by cases h
  | l :: ls, [], h => by cases l <;> cases h
  | l :: ls, c :: cs, h => by
    cases l <;> cases c <;> simp only [avFits, Bool.false_eq_true] at h <;> simp [avFits_get h]
theorem avEq_drop : ∀ (i : Nat) {ls : List Leaf} {cs ds : List AV} {r : Bool}, avFits (ls.drop i) (cs.drop i) = true → avFits (ls.drop i) (ds.drop i) = true → avEq (cs.drop i) (ds.drop i) = some r → i < ls.length →
    ∃ l c d q s, ls[i]? = some l ∧ cs[i]? = some c ∧ ds[i]? = some d ∧ avFits (ls.drop (i + 1)) (cs.drop (i + 1)) = true ∧ avFits (ls.drop (i + 1)) (ds.drop (i + 1)) = true ∧ avEq (cs.drop (i + 1)) (ds.drop (i + 1)) = some s ∧ r = (q && s) ∧
      ((∃ k k' a b, l = .int k' ∧ c = .i k a ∧ d = .i k b ∧ q = (a == b)) ∨ (∃ a b, l = .bool ∧ c = .b a ∧ d = .b b ∧ q = (a == b)) ∨ ∃ a b, l = .str ∧ c = .s a ∧ d = .s b ∧ q = (a.toList == b.toList)) := by
  intro i ls cs ds r h1 h2 h3 hi
  have e : ls.drop i = ls[i] :: ls.drop (i + 1) := List.drop_eq_getElem_cons hi
  rw [e] at h1 h2
  have hc : ∃ c, cs.drop i = c :: cs.drop (i + 1) ∧ cs[i]? = some c := by
    by_cases hlt : i < cs.length
    · exact ⟨cs[i], List.drop_eq_getElem_cons hlt, List.getElem?_eq_getElem hlt⟩
    · rw [List.drop_eq_nil_of_le (as := cs) (i := i) (by omega)] at h1
      cases hl : ls[i] <;> rw [hl] at h1 <;> cases h1
  have hd : ∃ c, ds.drop i = c :: ds.drop (i + 1) ∧ ds[i]? = some c := by
    by_cases hlt : i < ds.length
    · exact ⟨ds[i], List.drop_eq_getElem_cons hlt, List.getElem?_eq_getElem hlt⟩
    · rw [List.drop_eq_nil_of_le (as := ds) (i := i) (by omega)] at h2
      cases hl : ls[i] <;> rw [hl] at h2 <;> cases h2
  obtain ⟨c, c1, c2⟩ := hc
  obtain ⟨d, d1, d2⟩ := hd
  rw [c1] at h1 h3
  rw [d1] at h2 h3
  have hl : ls[i]? = some ls[i] := List.getElem?_eq_getElem hi
  generalize ls[i] = l at h1 h2 hl
  cases l <;> cases c <;> simp only [avFits, Bool.false_eq_true] at h1 <;> cases d <;> simp only [avFits, Bool.false_eq_true] at h2
  · rename_i k0 k a k' b
    simp only [avEq] at h3
    obtain ⟨hk, h4⟩ := bifT h3
    simp only [ikEq, decide_eq_true_eq] at hk
    subst hk
    obtain ⟨s, hs, rfl⟩ := Option.map_eq_some_iff.mp h4
    exact ⟨_, _, _, _, s, hl, c2, d2, h1, h2, hs, rfl, .inl ⟨k, k0, a, b, rfl, rfl, rfl, rfl⟩⟩
  · rename_i a b
    simp only [avEq] at h3
    obtain ⟨s, hs, rfl⟩ := Option.map_eq_some_iff.mp h3
    exact ⟨_, _, _, _, s, hl, c2, d2, h1, h2, hs, rfl, .inr (.inl ⟨a, b, rfl, rfl, rfl, rfl⟩)⟩
  · rename_i a b
    simp only [avEq] at h3
    obtain ⟨s, hs, rfl⟩ := Option.map_eq_some_iff.mp h3
    exact ⟨_, _, _, _, s, hl, c2, d2, h1, h2, hs, rfl, .inr (.inr ⟨a, b, rfl, rfl, rfl, rfl⟩)⟩
theorem part_flat {t : TypeId} {l : Leaf} (hl : flatLeaf l = true) (hu : P.underlying t = some (descOf l)) {xs : Array Value} {off : Nat} {v : Value} (hx : xs[off]? = some v) : (part t xs off).run P w = .ok v w := by
  cases l <;> first | cases hl | skip
  all_goals simp [part, isAgg, run_underlying hu, descOf, hx]
theorem eqFields_ok {ls : List Leaf} {cs ds : List AV} {xs ys : Array Value} (hx : scalRel cs xs) (hy : scalRel ds ys) (dp : Nat) : ∀ (fs : List Field) (i : Nat) (r : Bool), eqFs P ls i fs = true → i ≤ ls.length → avFits (ls.drop i) (cs.drop i) = true → avFits (ls.drop i) (ds.drop i) = true → avEq (cs.drop i) (ds.drop i) = some r →
    (Op.eqFields (dp + 1) xs ys fs).run P w = .ok r w
  | [], i, r, h, _, h1, h2, h3 => by
    have := beqT h
    rw [List.drop_eq_nil_of_le (by omega)] at h1 h2
    have hc : cs.drop i = [] := by
      cases hcs : cs.drop i with
      | nil => rfl
      | cons c r => rw [hcs] at h1; cases h1
    have hd : ds.drop i = [] := by
      cases hds : ds.drop i with
      | nil => rfl
      | cons c r => rw [hds] at h2; cases h2
    rw [hc, hd] at h3
    simp only [avEq, Option.some.injEq] at h3
    subst h3
    simp [Op.eqFields]
  | f :: fs, i, r, h, hle, h1, h2, h3 => by
    simp only [eqFs, Bool.and_eq_true, Bool.not_eq_true'] at h
    obtain ⟨hn, ho, hk, hr⟩ := h
    have ho := beqT ho
    have hi : i < ls.length := by
      rcases Nat.lt_or_ge i ls.length with h | h
      · exact h
      · rw [List.getElem?_eq_none h] at hk
        split at hk
        · rename_i heq; cases heq
        · cases hk
    obtain ⟨l, c, d, q, s, hl, hc, hd, f1, f2, f3, rfl, hq⟩ := avEq_drop i h1 h2 h3 hi
    rw [hl] at hk
    have hu : flatLeaf l = true ∧ P.underlying f.type = some (descOf l) := by
      split at hk
      · rename_i dd l' hu he
        cases he
        simp only [Bool.and_eq_true] at hk
        exact ⟨hk.1, by rw [hu, descIs_ok hk.2]⟩
      · cases hk
    have ih := eqFields_ok hx hy dp fs (i + 1) s hr (by omega) f1 f2 f3
    have hxi : ∃ x, xs[i]? = some x := by
      have : i < xs.size := by rw [hx.1]; exact (List.getElem?_eq_some_iff.mp hc).1
      exact ⟨xs[i], Array.getElem?_eq_getElem this⟩
    have hyi : ∃ x, ys[i]? = some x := by
      have : i < ys.size := by rw [hy.1]; exact (List.getElem?_eq_some_iff.mp hd).1
      exact ⟨ys[i], Array.getElem?_eq_getElem this⟩
    obtain ⟨x, hxi⟩ := hxi
    obtain ⟨y, hyi⟩ := hyi
    have ex := hx.2 i c x hc hxi
    have ey := hy.2 i d y hd hyi
    have hp1 : (part f.type xs f.offset).run P w = .ok x w := part_flat hu.1 hu.2 (by rw [ho]; exact hxi)
    have hp2 : (part f.type ys f.offset).run P w = .ok y w := part_flat hu.1 hu.2 (by rw [ho]; exact hyi)
    have he : (Op.equalIn (dp + 1) f.type x y).run P w = .ok q w := by
      rcases hq with ⟨k, k', a, b, rfl, rfl, rfl, rfl⟩ | ⟨a, b, rfl, rfl, rfl, rfl⟩ | ⟨a, b, rfl, rfl, rfl, rfl⟩
      · simp only at ex ey
        subst ex; subst ey
        simp [Op.equalIn, run_underlying hu.2, descOf]
      · simp only at ex ey
        subst ex; subst ey
        simp [Op.equalIn, run_underlying hu.2, descOf]
      · simp only at ex ey
        subst ex; subst ey
        simp [Op.equalIn, run_underlying hu.2, descOf, beq_toListBytes]
    have hn' : f.name ≠ "_" := by simpa using hn
    rw [Op.eqFields, if_pos hn']
    simp only [Sem.run_bind, hp1, hp2, he, Result.andThen_ok]
    cases q
    · simp
    · simpa using ih
theorem eqB_ok {t : TypeId} {ls : List Leaf} (h : eqB P t ls = true) : EqOk P t ls := by
  intro w cs ds xs ys r x y hf1 hf2 h1 h2 h3
  simp only [eqB, Bool.and_eq_true, Bool.not_eq_true'] at h
  obtain ⟨a1, a2, a3⟩ := h
  split at a3
  · rename_i fs hu
    have hfo : P.fieldsOf t = fs := by simp [Program.fieldsOf, hu]
    have key : (Op.equalIn Op.maxDepth t (.agg xs) (.agg ys)).run P w = .ok r w := by
      have e : Op.maxDepth = 9998 + 1 + 1 := rfl
      rw [e, run_equalIn_struct (P := P) w (9998 + 1) t xs ys (by rw [hfo]; exact hu) a1, hfo]
      exact eqFields_ok h1 h2 9998 fs.toList 0 r a3 (Nat.zero_le _) (by simpa using hf1) (by simpa using hf2) (by simpa using h3)
    constructor
    · simp [eqGuard, a2, binOp, Op.equal, key]
    · simp [eqGuard, a2, binOp, Op.equal, key]
  · cases a3
def memN (t : Nat) : List Nat → Bool
  | [] => false
  | a :: r => bif Nat.beq a t then true else memN t r
theorem memN_mem {t : Nat} : ∀ {l : List Nat}, memN t l = true → t ∈ l
  | [], h => by cases h
  | a :: r, h => by
    simp only [memN] at h
    cases hb : Nat.beq a t <;> rw [hb] at h
    · exact List.mem_cons_of_mem _ (memN_mem h)
    · rw [beqT hb]; exact List.mem_cons_self
theorem eqs_ok {E : Env} {tl : List (Nat × TI)} {eqs : List Nat} (hT : E.T = lookN tl) (he : E.eqT = fun t => memN t eqs) (h : (eqs.all fun t => match lookN tl t with
    | some ti => eqB P t ti.ls
    | none => true) = true) : ∀ t ti, E.eqT t = true → E.T t = some ti → EqOk P t ti.ls := fun t ti h1 h2 => by
  rw [he] at h1
  rw [hT] at h2
  have := List.all_eq_true.mp h t (memN_mem h1)
  rw [h2] at this
  exact eqB_ok this
end
end Go.Proofs.Ythjkpphjlmmkdaa.Vai
