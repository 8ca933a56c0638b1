/- The first rows in order; no condition. -/
import Derived.Test.YtbmafhpbinjgaaaQ7
namespace Go.Proofs.Ytbmafhpbinjgaaa.Vai
open Go
set_option linter.unusedSimpArgs false
set_option linter.unusedVariables false
set_option linter.unnecessarySimpa false
set_option maxRecDepth 10000
def ins (c : Rw) : List Rw → List Rw
  | [] => [c]
  | d :: l => if Rw.lt c d then c :: d :: l else d :: ins c l
def isort : List Rw → List Rw
  | [] => []
  | c :: l => ins c (isort l)
theorem ins_perm (c : Rw) : ∀ l, (ins c l).Perm (c :: l)
  | [] => List.Perm.refl _
  | d :: l => by
    unfold ins
    split
    · exact List.Perm.refl _
    · exact ((ins_perm c l).cons d).trans (List.Perm.swap c d l)
theorem ins_srt (c : Rw) : ∀ {l : List Rw}, Srt l → Srt (ins c l)
  | [], _ => List.pairwise_singleton _ _
  | d :: l, h => by
    unfold ins
    obtain ⟨h1, h2⟩ := List.pairwise_cons.mp h
    split
    · rename_i hc
      refine List.pairwise_cons.mpr ⟨fun y hy => ?_, h⟩
      rcases List.mem_cons.mp hy with rfl | hy
      · exact Rw.lt_le hc
      · exact Rw.le_tr (Rw.lt_le hc) (h1 y hy)
    · rename_i hc
      refine List.pairwise_cons.mpr ⟨fun y hy => ?_, ins_srt c h2⟩
      rcases List.mem_cons.mp ((ins_perm c l).mem_iff.mp hy) with rfl | hy
      · exact hc
      · exact h1 y hy
theorem isort_perm : ∀ l, (isort l).Perm l
  | [] => List.Perm.refl _
  | c :: l => (ins_perm c _).trans ((isort_perm l).cons c)
theorem isort_srt : ∀ l, Srt (isort l)
  | [] => List.Pairwise.nil
  | c :: l => ins_srt c (isort_srt l)
theorem iSort (x : List Rw) (hx : x.length ≤ 1099511627770) : callI tE f_impl_SortRows [.sl (x.map Rw.e)] = some [.sl ((isort x).map Rw.e)] := by
  obtain ⟨y, y1, y2, y3, _⟩ := sortRows x hx
  rw [y3, srt_unique (y1.trans (isort_perm x).symm) y2 (isort_srt x)]
theorem sSort (x : List Rw) (hx : x.length ≤ 1099511627770) : callI tE f_spec_SortRows [.sl (x.map Rw.e)] = some [.sl ((isort x).map Rw.e)] := by
  obtain ⟨y, y1, y2, _, y3⟩ := sortRows x hx
  rw [y3, srt_unique (y1.trans (isort_perm x).symm) y2 (isort_srt x)]
theorem ins_take (c : Rw) : ∀ (k : Nat) (s : List Rw), (ins c (s.take k)).take k = (ins c s).take k
  | 0, s => by simp
  | k + 1, [] => by simp
  | k + 1, d :: l => by
    simp only [List.take_succ_cons, ins]
    split
    · simp only [List.take_succ_cons]
      cases k with
      | zero => rfl
      | succ k => simp [List.take_take]
    · simp only [List.take_succ_cons, ins_take c k l]
theorem isort_snoc (u : List Rw) (c : Rw) : isort (u ++ [c]) = ins c (isort u) :=
  srt_unique ((isort_perm _).trans ((List.perm_append_comm (l₁ := u) (l₂ := [c])).trans (((isort_perm u).symm.cons c).trans (ins_perm c _).symm))) (isort_srt _) (ins_srt c (isort_srt u))
theorem isort_of {t : List Rw} (h : Srt t) : isort t = t := srt_unique (isort_perm t) (isort_srt t) h
theorem isort_len (l : List Rw) : (isort l).length = l.length := (isort_perm l).length_eq
def topK (l : List Rw) (k : Int) : List Rw := (isort l).take k.toNat
theorem topK_snoc (u : List Rw) (c : Rw) (k : Int) : topK (topK u k ++ [c]) k = topK (u ++ [c]) k := by
  unfold topK
  rw [isort_snoc, isort_snoc, isort_of ((isort_srt u).sublist (List.take_sublist _ _)), ins_take]
end Go.Proofs.Ytbmafhpbinjgaaa.Vai
