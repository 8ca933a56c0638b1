/- Proved: the program's Truncate returns what the reference's returns, for all arguments; no condition beyond the statement's own. -/
import Derived.Test.YthjkpphjlmmkdaaPFnExactTruncatex1
namespace Go.Proofs.Ythjkpphjlmmkdaa.Pure
open Go.RowKit Go.Proofs.Ythjkpphjlmmkdaa.PFnExactTruncate Go.Proofs.YthjkpphjlmmkdaaW.PrintWords Go.Proofs.YthjkpphjlmmkdaaW.PrintLast Go.Proofs.YthjkpphjlmmkdaaW.PrintMore

theorem mx_mn_lo (a n : Int) : 0 ≤ mx 0 (mn a n) := by unfold mx; split <;> omega
theorem mx_mn_hi (a n : Int) (h : 0 ≤ n) : mx 0 (mn a n) ≤ n := by unfold mx mn; repeat (split <;> try omega)

theorem FnExactTruncate : laws_FnExactTruncate.Pure := by
  intro a0 a1 h0 h1
  unfold laws_FnExactTruncate.f spec_Truncate.f impl_Truncate.f
  have hs : (0 : Int) ≤ (a0.size : Int) := by omega
  rw [if_pos (mx_mn_lo a1 a0.size), if_pos (mx_mn_hi a1 a0.size hs)]
  simp only [Option.bind_some, if_true]
  split <;> rfl

end Go.Proofs.Ythjkpphjlmmkdaa.Pure
