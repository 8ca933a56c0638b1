/- Tables of types and functions, and when they fit a program; no condition. -/
import Derived.Test.YthjkpphjlmmkdaaVaiInf
import Derived.Test.YthjkpphjlmmkdaaVaiOpen
namespace Go.Proofs.Ythjkpphjlmmkdaa.Vai
open Go

def lookN {α : Type} : List (Nat × α) → Nat → Option α
  | [], _ => none
  | (k, v) :: r, t => bif Nat.beq k t then some v else lookN r t
theorem lookN_mem {α : Type} {v : α} {t : Nat} : ∀ {l : List (Nat × α)}, lookN l t = some v → (t, v) ∈ l
  | [], h => by cases h
  | (k, u) :: r, h => by
    simp only [lookN] at h
    cases hb : Nat.beq k t <;> rw [hb] at h
    · exact List.mem_cons_of_mem _ (lookN_mem h)
    · cases h
      rw [beqT hb]
      exact List.mem_cons_self
def keepOf : List (Nat × Nat × List Nat) → Nat → Nat → List Nat
  | [], _, _ => []
  | (a, b, l) :: r, f, k => bif Nat.beq a f && Nat.beq b k then l else keepOf r f k

def zIs : Leaf → Value → Bool
  | .int k, .int k' n => ikEq k k' && n == 0
  | .bool, .bool b => !b
  | .str, .string s => Nat.beq s.data.toList.length 0
  | .sl _, .slice none 0 0 => true
  | _, _ => false
def zAll : List Leaf → List Value → Bool
  | [], [] => true
  | l :: ls, v :: vs => zIs l v && zAll ls vs
  | _, _ => false
theorem zIs_ok {l : Leaf} {v : Value} (h : zIs l v = true) : v = zeroV l := by
  unfold zIs at h
  split at h
  · simp only [Bool.and_eq_true, ikEq, decide_eq_true_eq, beq_iff_eq] at h
    rw [h.1, h.2]; rfl
  · simp only [Bool.not_eq_true'] at h
    rw [h]; rfl
  · rename_i s
    have := beqT h
    have h2 : s.data.toList = [] := List.length_eq_zero_iff.mp this
    have h3 : s.data = #[] := Array.toList_inj.mp (by simpa using h2)
    have : s = ⟨#[]⟩ := by cases s; simp_all
    rw [this]; rfl
  · rfl
  · cases h
theorem zAll_ok : ∀ {ls : List Leaf} {vs : List Value}, zAll ls vs = true → vs = ls.map zeroV
  | [], [], _ => rfl
  | [], _ :: _, h => by cases h
  | _ :: _, [], h => by cases h
  | l :: ls, v :: vs, h => by
    simp only [zAll, Bool.and_eq_true] at h
    rw [zIs_ok h.1, zAll_ok h.2]
    rfl
def descIs : Leaf → TypeDesc → Bool
  | .int k, .int k' => ikEq k k'
  | .bool, .bool => true
  | .str, .string => true
  | .sl e, .slice e' => Nat.beq e e'
  | _, _ => false
theorem descIs_ok {l : Leaf} {d : TypeDesc} (h : descIs l d = true) : d = descOf l := by
  unfold descIs at h
  split at h
  · simp only [ikEq, decide_eq_true_eq] at h
    rw [h]; rfl
  · rfl
  · rfl
  · rw [beqT h]; rfl
  · cases h
def fsEq : List (Nat × Nat) → List (Nat × Nat) → Bool
  | [], [] => true
  | (a, b) :: r, (c, d) :: s => Nat.beq a c && (Nat.beq b d && fsEq r s)
  | _, _ => false
theorem fsEq_ok : ∀ {a b : List (Nat × Nat)}, fsEq a b = true → a = b
  | [], [], _ => rfl
  | [], _ :: _, h => by cases h
  | _ :: _, [], h => by cases h
  | (a, b) :: r, (c, d) :: s, h => by
    simp only [fsEq, Bool.and_eq_true] at h
    rw [beqT h.1, beqT h.2.1, fsEq_ok h.2.2]
def infoB (P : Program) (t : TypeId) (ti : TI) : Bool := match P.info? t with
  | some i => Nat.beq i.size ti.ls.length && (Nat.beq i.bytes ti.by_ && match i.zero with
    | some v => (match ti.agg, v with
      | true, .agg arr => zAll ti.ls arr.toList
      | false, v => zAll ti.ls [v] && Nat.beq ti.ls.length 1
      | _, _ => false)
    | none => false)
  | none => false
def descB (P : Program) (t : TypeId) (ti : TI) : Bool := match ti.agg, P.underlying t with
  | true, some (.struct fs) => fsEq (fs.toList.map fun f => (f.offset, f.type)) ti.fs
  | false, some d => (match ti.ls with
    | [l] => descIs l d
    | _ => false)
  | _, _ => false
def elemB (E : Env) : List Leaf → Bool
  | [] => true
  | .sl e :: r => (E.T e).isSome && elemB E r
  | _ :: r => elemB E r
def fldB (E : Env) (n : Nat) : List (Nat × TypeId) → Bool
  | [] => true
  | (fo, ft) :: r => (match E.T ft with
    | some fi => Nat.ble (fo + fi.ls.length) n
    | none => false) && fldB E n r
def tokB (P : Program) (E : Env) (t : TypeId) (ti : TI) : Bool :=
  infoB P t ti && (descB P t ti && (Nat.blt 0 ti.ls.length && (Nat.blt 0 ti.by_ && (elemB E ti.ls && (fldB E ti.ls.length ti.fs && (!ti.agg || flatOk E ti.ls 0 ti.fs))))))
theorem elemB_ok {E : Env} : ∀ {ls : List Leaf}, elemB E ls = true → ∀ e, Leaf.sl e ∈ ls → ∃ te, E.T e = some te
  | [], _, e, he => by cases he
  | l :: r, h, e, he => by
    rcases List.mem_cons.mp he with he | he
    · subst he
      simp only [elemB, Bool.and_eq_true] at h
      exact Option.isSome_iff_exists.mp h.1
    · refine elemB_ok (ls := r) ?_ e he
      cases l <;> simp only [elemB, Bool.and_eq_true] at h
      · exact h
      · exact h
      · exact h
      · exact h.2
theorem fldB_ok {E : Env} {n : Nat} : ∀ {fs : List (Nat × TypeId)}, fldB E n fs = true → ∀ (f fo : Nat) (ft : TypeId), fs[f]? = some (fo, ft) → ∃ fi, E.T ft = some fi ∧ fo + fi.ls.length ≤ n
  | [], _, f, fo, ft, h => by simp at h
  | (a, b) :: r, h, f, fo, ft, hf => by
    simp only [fldB, Bool.and_eq_true] at h
    cases f with
    | zero =>
      simp only [List.getElem?_cons_zero, Option.some.injEq, Prod.mk.injEq] at hf
      obtain ⟨rfl, rfl⟩ := hf
      have h1 := h.1
      split at h1
      · rename_i fi hfi
        exact ⟨fi, hfi, Nat.le_of_ble_eq_true h1⟩
      · cases h1
    | succ f => exact fldB_ok h.2 f fo ft (by simpa using hf)
theorem tokB_ok {P : Program} {E : Env} {t : TypeId} {ti : TI} (h : tokB P E t ti = true) : TOk P E t ti ∧ (ti.agg = true → flatOk E ti.ls 0 ti.fs = true) := by
  simp only [tokB, Bool.and_eq_true] at h
  obtain ⟨h1, h2, h3, h4, h5, h6, h7⟩ := h
  refine ⟨⟨?_, ?_, ⟨Nat.le_of_ble_eq_true h3, Nat.le_of_ble_eq_true h4⟩, elemB_ok h5, fldB_ok h6⟩, fun ha => ?_⟩
  · unfold infoB at h1
    split at h1
    · rename_i i hi
      simp only [Bool.and_eq_true] at h1
      obtain ⟨q1, q2, q3⟩ := h1
      refine ⟨i, hi, beqT q1, beqT q2, ?_⟩
      split at q3
      · rename_i v hv
        rw [hv]
        split at q3
        · rename_i arr hag
          rw [hag]
          have := zAll_ok q3
          simp only [if_true]
          rw [← this]
        · rename_i hag
          rw [hag]
          simp only [Bool.and_eq_true] at q3
          have := zAll_ok q3.1
          have hl := beqT q3.2
          obtain ⟨l, hl⟩ := List.length_eq_one_iff.mp hl
          rw [hl] at this ⊢
          simp only [List.map_cons, List.map_nil, List.cons.injEq, and_true] at this
          simp [this]
        · cases q3
      · cases q3
    · cases h1
  · unfold descB at h2
    split at h2
    · rename_i fs hag hu
      rw [hag]
      exact ⟨fs, hu, fsEq_ok h2⟩
    · rename_i d hag hu
      rw [hag]
      simp only [Bool.false_eq_true, if_false]
      split at h2
      · rename_i l hl
        exact ⟨l, hl, by rw [hu, descIs_ok h2]⟩
      · cases h2
    · cases h2
  · rw [ha] at h7
    simpa using h7

def AllF (P : Program) : List (Nat × Func) → Prop
  | [] => True
  | (f, fn) :: r => P.funcs[f]? = some fn ∧ AllF P r
def funB (fn : Func) : Bool := !(fn.name == "runtime.NumGoroutine") && (fn.body.isSome && (Nat.ble fn.params.size fn.ntmps && Nat.ble fn.ntmps 1000000))
theorem AllF.mem {P : Program} : ∀ {l : List (Nat × Func)}, AllF P l → ∀ f fn, (f, fn) ∈ l → P.funcs[f]? = some fn
  | [], _, f, fn, h => by cases h
  | (a, b) :: r, hA, f, fn, h => by
    rcases List.mem_cons.mp h with h | h
    · cases h; exact hA.1
    · exact AllF.mem hA.2 f fn h
theorem envOk {P : Program} {E : Env} {tl : List (Nat × TI)} {fl : List (Nat × Func)} (hT : E.T = lookN tl) (hF : E.F = lookN fl) (ht : tl.all (fun p => tokB P E p.1 p.2) = true) (hf : AllF P fl) (hb : fl.all (fun p => funB p.2) = true)
    (hm : P.follows .mixedOrders = true) (heq : ∀ t ti, E.eqT t = true → E.T t = some ti → EqOk P t ti.ls) : EnvOk P E ∧ ∀ t ti, E.T t = some ti → ti.agg = true → flatOk E ti.ls 0 ti.fs = true := by
  have hty : ∀ t ti, E.T t = some ti → TOk P E t ti ∧ (ti.agg = true → flatOk E ti.ls 0 ti.fs = true) := fun t ti h => by
    rw [hT] at h
    exact tokB_ok (List.all_eq_true.mp ht _ (lookN_mem h))
  have hfn : ∀ f fn, E.F f = some fn → P.funcs[f]? = some fn ∧ funB fn = true := fun f fn h => by
    rw [hF] at h
    exact ⟨hf.mem f fn (lookN_mem h), List.all_eq_true.mp hb _ (lookN_mem h)⟩
  refine ⟨⟨fun t ti h => (hty t ti h).1, fun f fn h => ?_, fun f fn h => ?_, hm, heq⟩, fun t ti h ha => (hty t ti h).2 ha⟩
  · obtain ⟨h1, h2⟩ := hfn f fn h
    simp only [funB, Bool.and_eq_true, Bool.not_eq_true'] at h2
    refine ⟨h1, h2.1, ?_⟩
    cases hbd : fn.body with
    | none => rw [hbd] at h2; exact absurd h2.2.1 (by simp)
    | some c => rfl
  · obtain ⟨h1, h2⟩ := hfn f fn h
    simp only [funB, Bool.and_eq_true] at h2
    exact ⟨Nat.le_of_ble_eq_true h2.2.2.1, Nat.le_of_ble_eq_true h2.2.2.2⟩
end Go.Proofs.Ythjkpphjlmmkdaa.Vai
