/- Words of the exact laws: sizes and marks; no condition. -/
import Derived.Test.YtbmafhpbinjgaaaT2
namespace Go.Proofs.Ytbmafhpbinjgaaa.Vai
open Go
set_option linter.unusedSimpArgs false
set_option linter.unusedVariables false
set_option linter.unnecessarySimpa false
theorem szv_ok {n : Int} {s : Nat} (h : (s : Int) ≤ n) : szv n s = n - s := if_pos h
theorem szv_no {n : Int} {s : Nat} (h : ¬ (s : Int) ≤ n) : szv n s = -1 := if_neg h
theorem cnt_Rw : ∀ l : List Rw, cntL Rw.ct l = 3 * l.length
  | [] => rfl
  | a :: l => by simp only [cntL, cnt_Rw l, Rw.ct, List.length_cons]; omega
theorem cnt_c1 {α : Type} : ∀ l : List α, cntL c1 l = l.length
  | [] => rfl
  | a :: l => by simp only [cntL, c1, cnt_c1 l, List.length_cons]; omega
theorem cnt_RwS : ∀ l : List (List Rw), cntL (cntL Rw.ct) l ≤ 3 * szL List.length l
  | [] => Nat.zero_le _
  | a :: l => by have := cnt_RwS l; simp only [cntL, cnt_Rw a, szL]; omega
theorem cnt_Tk : ∀ l : List Tk, cntL Tk.ct l ≤ 5 * szL Tk.sz l
  | [] => Nat.zero_le _
  | a :: l => by
    have := cnt_Tk l
    have h1 := cnt_Rw a.left
    have h2 := cnt_Rw a.right
    have h3 := cnt_c1 a.mat
    simp only [cntL, szL, Tk.ct, Tk.sz, h1, h2, h3]; omega
theorem cnt_Gt : ∀ l : List Gt, cntL Gt.ct l ≤ 5 * szL Gt.sz l
  | [] => Nat.zero_le _
  | a :: l => by
    have := cnt_Gt l
    have h1 := cnt_Rw a.rows
    simp only [cntL, szL, Gt.ct, Gt.sz, h1]; omega
theorem So.cnt_le (y : So) : cntL Rw.ct y.inp + cntL Rw.ct y.heap + cntL Rw.ct y.dfd + cntL Rw.ct y.out + cntL (cntL Rw.ct) y.runs ≤ 5 * y.sz := by
  have := cnt_RwS y.runs
  simp only [cnt_Rw, So.sz]; omega
theorem Opr.cnt_le (y : Opr) : cntL Rw.ct y.so.inp + cntL Rw.ct y.so.heap + cntL Rw.ct y.so.dfd + cntL Rw.ct y.so.out + cntL (cntL Rw.ct) y.so.runs + cntL Tk.ct y.jn.pend + cntL Gt.ct y.ag.pend ≤ 5 * y.sz := by
  have h1 := y.so.cnt_le
  have h2 := cnt_Tk y.jn.pend
  have h3 := cnt_Gt y.ag.pend
  simp only [Opr.sz, Jn.sz, Ag.sz]; omega
theorem Xc.cnt_le (x : Xc) : cntL (cntL Rw.ct) x.pend + cntL (cntL Rw.ct) x.que + cntL (cntL Rw.ct) x.got ≤ 3 * x.sz := by
  have h1 := cnt_RwS x.pend
  have h2 := cnt_RwS x.que
  have h3 := cnt_RwS x.got
  simp only [Xc.sz]; omega
end Go.Proofs.Ytbmafhpbinjgaaa.Vai
