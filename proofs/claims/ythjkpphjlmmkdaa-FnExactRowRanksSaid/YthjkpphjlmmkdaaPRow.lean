/- Rows: validity, receivers; the program and the reference give the same; no condition. -/
import Derived.Test.YthjkpphjlmmkdaaEqs
import Derived.Test.YthjkpphjlmmkdaaPure0
namespace Go.Proofs.Ythjkpphjlmmkdaa.Vai
open Go
theorem within_ok (a b c : Int) : callI tE f_impl_within [.int a, .int b, .int c] = some [.bool (leI b a && leI a c)] := by
  rw [c_impl_within]; cases leI b a <;> rfl
theorem l1In_ok (a b c : Int) : callI tE f_spec_l1In [.int a, .int b, .int c] = some [.bool (leI b a && leI a c)] := by
  rw [c_spec_l1In]; cases leI b a <;> rfl
def rowOk (k v w : Int) : Bool := (leI 0 k && leI k 9) && ((leI 0 v && leI v 99) && (leI 0 w && leI w 3))
theorem iValidRow_ok (k v w : Int) : callI tE f_impl_IsValidRow [.int k, .int v, .int w] = some [.bool (rowOk k v w)] := by
  simp only [c_impl_IsValidRow, within_ok, Option.bind_some, List.headD_cons, b_bool, rowOk]
  cases leI 0 k && leI k 9 <;> cases leI 0 v && leI v 99 <;> rfl
theorem sValidRow_ok (k v w : Int) : callI tE f_spec_IsValidRow [.int k, .int v, .int w] = some [.bool (rowOk k v w)] := by
  simp only [c_spec_IsValidRow, l1In_ok, Option.bind_some, List.headD_cons, b_bool, rowOk]
  cases leI 0 k && leI k 9 <;> cases leI 0 v && leI v 99 <;> rfl
def recvFor (k v w n : Int) : Int := if ((leI 1 n && leI n 3) && rowOk k v w) = true then Int.tmod (Int.tmod (IntKind.wrap .i64 (7 * k)) 16) n else 0
theorem iReceiverFor_ok (k v w n : Int) : callI tE f_impl_ReceiverFor [.int k, .int v, .int w, .int n] = some [.int (recvFor k v w n)] := by
  simp only [c_impl_ReceiverFor, within_ok, iValidRow_ok, Option.bind_some, List.headD_cons, b_bool, recvFor]
  cases h1 : leI 1 n && leI n 3
  · rfl
  · cases h2 : rowOk k v w
    · rfl
    · have : ¬ n = 0 := by simp [leI] at h1; omega
      simp [eqI, this]
theorem sReceiverFor_ok (k v w n : Int) : callI tE f_spec_ReceiverFor [.int k, .int v, .int w, .int n] = some [.int (recvFor k v w n)] := by
  simp only [c_spec_ReceiverFor, l1In_ok, sValidRow_ok, Option.bind_some, List.headD_cons, b_bool, recvFor]
  cases h1 : leI 1 n && leI n 3
  · rfl
  · cases h2 : rowOk k v w
    · rfl
    · have : ¬ n = 0 := by simp [leI] at h1; omega
      simp [eqI, this, Int.mul_comm]
/-- a row's numbers -/
def rk (r : List Dat) : Int := (r.headD (.int 0)).n
def rv (r : List Dat) : Int := (r.tail.headD (.int 0)).n
def rw' (r : List Dat) : Int := (r.tail.tail.headD (.int 0)).n
def rOk (r : List Dat) : Bool := rowOk (rk r) (rv r) (rw' r)
def rls (r : List Dat) : Rows := (r.headD (.int 0)).rows
def rRecv (r : List Dat) (n : Int) : Int := recvFor (rk r) (rv r) (rw' r) n
theorem bif_not {α : Type} (b : Bool) (x y : α) : (bif !b then x else y) = bif b then y else x := by cases b <;> rfl
theorem range_all {α : Type} (a : List α) (d : α) (q : α → Bool) : (List.range a.length).all (fun i => q (a.getD i d)) = a.all q := by
  rw [Bool.eq_iff_iff, List.all_eq_true, List.all_eq_true]
  constructor
  · intro h x hx
    obtain ⟨i, hi, rfl⟩ := List.getElem_of_mem hx
    have := h i (by simpa using hi)
    rwa [getD_at hi] at this
  · intro h i hi
    exact h _ (getD_mem (by simpa using hi))
def areV (a : Rows) : Bool := a.all rOk && leI a.length 24
theorem iAllValid_ok {a : Rows} (hn : a.length < 9223372036854775807) : callI tE f_impl_allValid [.sl a] = some [.bool (a.all rOk)] := by
  rw [c_impl_allValid]
  have := all_loop0 (L := L_impl_allValid_0 a a.length) (n := a.length) (p := fun i => rOk (a.getD i [])) (no := some [.bool false]) (yes := some [.bool true]) (fun i hi => by
    rw [L_impl_allValid_0_eq]
    simp only [lt_t hi, ge0, Bool.and_self, cond_true, Int.toNat_natCast, iValidRow_ok, bind_some', List.headD_cons, b_bool, bif_not, wrapS (show i < 9223372036854775807 by omega)]
    rfl) (by rw [L_impl_allValid_0_eq, lt_f (Nat.le_refl _), cond_false])
  refine this.trans ?_
  rw [range_all]
  cases a.all rOk <;> rfl
theorem iAreValid_ok {a : Rows} (hn : a.length < 9223372036854775807) : callI tE f_impl_AreValidRows [.sl a] = some [.bool (areV a)] := by
  simp only [c_impl_AreValidRows, iAllValid_ok hn, bind_some', List.headD_cons, b_bool, areV]
  cases leI a.length 24 <;> simp
theorem sAreValid_ok {a : Rows} (hn : a.length < 9223372036854775807) : callI tE f_spec_AreValidRows [.sl a] = some [.bool (areV a)] := by
  rw [c_spec_AreValidRows]
  have := all_loop0 (L := L_spec_AreValidRows_0 a) (n := a.length) (p := fun i => rOk (a.getD i [])) (no := some [.bool false]) (yes := some [.bool (leI a.length 24)]) (fun i hi => by
    rw [L_spec_AreValidRows_0_eq]
    simp only [lt_t hi, ge0, Bool.and_self, cond_true, Int.toNat_natCast, sValidRow_ok, bind_some', List.headD_cons, b_bool, bif_not, wrapS (show i < 9223372036854775807 by omega)]
    rfl) (by rw [L_spec_AreValidRows_0_eq, lt_f (Nat.le_refl _), cond_false])
  refine this.trans ?_
  rw [range_all]
  unfold areV
  cases a.all rOk <;> simp
end Go.Proofs.Ythjkpphjlmmkdaa.Vai
