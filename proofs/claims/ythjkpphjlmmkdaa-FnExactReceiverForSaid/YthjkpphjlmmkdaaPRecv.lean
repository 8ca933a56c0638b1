/- ReceiverFor: the program and the reference give the same; no condition. -/
import Derived.Test.YthjkpphjlmmkdaaEqs
import Derived.Test.YthjkpphjlmmkdaaVaiInv
namespace Go.Proofs.Ythjkpphjlmmkdaa.Vai
open Go
theorem within_ok (a b c : Int) : callI tE f_impl_within [.int a, .int b, .int c] = some [.bool (decide (b ≤ a) && decide (a ≤ c))] := by
  rw [c_impl_within]; cases decide (b ≤ a) <;> rfl
theorem l1In_ok (a b c : Int) : callI tE f_spec_l1In [.int a, .int b, .int c] = some [.bool (decide (b ≤ a) && decide (a ≤ c))] := by
  rw [c_spec_l1In]; cases decide (b ≤ a) <;> rfl
def rowOk (k v w : Int) : Bool := (decide (0 ≤ k) && decide (k ≤ 9)) && ((decide (0 ≤ v) && decide (v ≤ 99)) && (decide (0 ≤ w) && decide (w ≤ 3)))
theorem iValidRow_ok (k v w : Int) : callI tE f_impl_IsValidRow [.int k, .int v, .int w] = some [.bool (rowOk k v w)] := by
  simp only [c_impl_IsValidRow, within_ok, Option.bind_some, List.headD_cons, Dat.b, rowOk]
  cases decide (0 ≤ k) && decide (k ≤ 9) <;> cases decide (0 ≤ v) && decide (v ≤ 99) <;> rfl
theorem sValidRow_ok (k v w : Int) : callI tE f_spec_IsValidRow [.int k, .int v, .int w] = some [.bool (rowOk k v w)] := by
  simp only [c_spec_IsValidRow, l1In_ok, Option.bind_some, List.headD_cons, Dat.b, rowOk]
  cases decide (0 ≤ k) && decide (k ≤ 9) <;> cases decide (0 ≤ v) && decide (v ≤ 99) <;> rfl
def recvFor (k v w n : Int) : Int := if ((decide (1 ≤ n) && decide (n ≤ 3)) && rowOk k v w) = true then Int.tmod (Int.tmod (IntKind.wrap .i64 (7 * k)) 16) n else 0
theorem iReceiverFor_ok (k v w n : Int) : callI tE f_impl_ReceiverFor [.int k, .int v, .int w, .int n] = some [.int (recvFor k v w n)] := by
  simp only [c_impl_ReceiverFor, within_ok, iValidRow_ok, Option.bind_some, List.headD_cons, Dat.b, recvFor]
  cases h1 : decide (1 ≤ n) && decide (n ≤ 3)
  · rfl
  · cases h2 : rowOk k v w
    · rfl
    · have : ¬ n = 0 := by simp at h1; omega
      simp [this]
theorem sReceiverFor_ok (k v w n : Int) : callI tE f_spec_ReceiverFor [.int k, .int v, .int w, .int n] = some [.int (recvFor k v w n)] := by
  simp only [c_spec_ReceiverFor, l1In_ok, sValidRow_ok, Option.bind_some, List.headD_cons, Dat.b, recvFor]
  cases h1 : decide (1 ≤ n) && decide (n ≤ 3)
  · rfl
  · cases h2 : rowOk k v w
    · rfl
    · have : ¬ n = 0 := by simp at h1; omega
      simp [this, Int.mul_comm]
theorem pure_FnExactReceiverFor : ∀ ds, OkDs tE [.int .i64, .int .i64, .int .i64, .int .i64] ds → callI tE f_laws_FnExactReceiverFor ds = some [.bool true] := by
  intro ds h
  obtain ⟨_, _, rfl, i0, h0⟩ := h.inv; obtain ⟨a, rfl, -⟩ := i0.i64
  obtain ⟨_, _, rfl, i1, h1⟩ := h0.inv; obtain ⟨b, rfl, -⟩ := i1.i64
  obtain ⟨_, _, rfl, i2, h2⟩ := h1.inv; obtain ⟨c, rfl, -⟩ := i2.i64
  obtain ⟨_, _, rfl, i3, h3⟩ := h2.inv; obtain ⟨d, rfl, -⟩ := i3.i64
  obtain rfl := h3.nil_inv
  simp only [c_laws_FnExactReceiverFor, c_laws_toRow, Option.bind_some, List.headD_cons, List.tail_cons, Dat.n, sReceiverFor_ok, iReceiverFor_ok, decide_true, Bool.not_true, cond_false]
end Go.Proofs.Ythjkpphjlmmkdaa.Vai
