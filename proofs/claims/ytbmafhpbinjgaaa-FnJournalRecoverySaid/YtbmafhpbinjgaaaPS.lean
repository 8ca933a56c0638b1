/- Texts: cutting and joining, numbers as text, as pure words; no condition. -/
import Derived.Test.YtbmafhpbinjgaaaT4
namespace Go.Proofs.Ytbmafhpbinjgaaa.Vai
open Go
set_option linter.unusedSimpArgs false
set_option linter.unusedVariables false
set_option linter.unnecessarySimpa false
/-! loops over a text -/
theorem lt_S (u v : List UInt8) (c : UInt8) : ltI (u.length : Int) (szI (S (u ++ c :: v))) = true := ltT (by rw [szI_S]; simp only [List.length_append, List.length_cons]; omega)
theorem in_S (u v : List UInt8) (c : UInt8) : inR (u.length : Int) (szI (S (u ++ c :: v))) = true := inRT (by omega) (by rw [szI_S]; simp only [List.length_append, List.length_cons]; omega)
theorem by_S (u v : List UInt8) (c : UInt8) : byteAt (S (u ++ c :: v)) (u.length : Int) = (c.toNat : Int) := by
  rw [byteAt_S (by simp)]; simp
theorem lt_Se (l : List UInt8) : ltI (l.length : Int) (szI (S l)) = false := ltF (by rw [szI_S]; omega)
theorem u8_lt (c : UInt8) : c.toNat < 256 := UInt8.toNat_lt c
theorem u8_eqI (c d : UInt8) : eqI (c.toNat : Int) (d.toNat : Int) = decide (c = d) := by
  unfold eqI
  by_cases h : c = d
  · subst h; simp
  · have : ¬ c.toNat = d.toNat := fun e => h (UInt8.toNat_inj.mp e)
    simp [h]; omega
/-! checksums -/
def chk1 (x : Nat) (c : UInt8) : Nat := (37 * x + c.toNat + 1) % 65521
def chk (s : List UInt8) : Nat := s.foldl chk1 11
theorem chk1_lt (x : Nat) (c : UInt8) : chk1 x c < 65521 := Nat.mod_lt _ (by decide)
theorem chk_lt_aux : ∀ (s : List UInt8) (x : Nat), x < 65521 → s.foldl chk1 x < 65521
  | [], _, h => h
  | c :: s, x, _ => chk_lt_aux s _ (chk1_lt x c)
theorem chk_lt (s : List UInt8) : chk s < 65521 := chk_lt_aux s 11 (by decide)
theorem chk_step {x : Nat} (h : x < 65521) (c : UInt8) : Int.tmod (w64 ((w64 ((w64 (37 * (x : Int))) + (w64 (c.toNat : Int)))) + 1)) 65521 = ((chk1 x c : Nat) : Int) := by
  have := u8_lt c
  rw [w64_id (n := 37 * (x : Int)) ⟨by omega, by omega⟩, w64_id (n := (c.toNat : Int)) ⟨by omega, by omega⟩, w64_id (n := 37 * (x : Int) + (c.toNat : Int)) ⟨by omega, by omega⟩, w64_id ⟨by omega, by omega⟩, Int.tmod_eq_emod_of_nonneg (by omega)]
  unfold chk1
  omega
/-! numbers read -/
theorem isDig_iff {c : UInt8} : isDig c = true ↔ 48 ≤ c.toNat ∧ c.toNat ≤ 57 := by simp [isDig]
def vstep (n : Nat) (c : UInt8) : Nat := 10 * n + (c.toNat - 48)
theorem vald_eq (l : List UInt8) : vald l = l.foldl vstep 0 := rfl
theorem u8_sub {c : UInt8} (h : 48 ≤ c.toNat) : IntKind.wrap .u8 ((c.toNat : Int) - 48) = ((c.toNat - 48 : Nat) : Int) := by
  have := u8_lt c
  simp only [IntKind.wrap, IntKind.signed, IntKind.bits, Bool.false_and, Bool.false_eq_true, if_false]
  omega
theorem v_step {n : Nat} (hn : n < 100000000000) {c : UInt8} (h : 48 ≤ c.toNat) : w64 ((w64 (10 * (n : Int))) + (w64 (IntKind.wrap .u8 ((c.toNat : Int) - 48)))) = ((vstep n c : Nat) : Int) := by
  have := u8_lt c
  rw [u8_sub h, w64_id (n := 10 * (n : Int)) ⟨by omega, by omega⟩, w64_id (n := ((c.toNat - 48 : Nat) : Int)) ⟨by omega, by omega⟩, w64_id ⟨by omega, by omega⟩]
  unfold vstep
  omega
theorem v_step' {n : Nat} (hn : n < 100000000000) {c : UInt8} (h : 48 ≤ c.toNat) : w64 ((w64 ((n : Int) * 10)) + (w64 (IntKind.wrap .u8 ((c.toNat : Int) - 48)))) = ((vstep n c : Nat) : Int) := by
  rw [Int.mul_comm]; exact v_step hn h
theorem vstep_lt {n : Nat} {k : Nat} (h : n < 10 ^ k) {c : UInt8} (hc : isDig c = true) : vstep n c < 10 ^ (k + 1) := by
  have := isDig_iff.mp hc
  unfold vstep
  rw [Nat.pow_succ]
  omega
theorem fmt_noDig_ne {n : Int} : ∀ c ∈ fmt n, isDig c = true ∨ c = 45 := by
  intro c hc
  unfold fmt at hc
  split at hc
  · rcases List.mem_cons.mp hc with rfl | hc
    · exact .inr rfl
    · exact .inl (List.all_eq_true.mp (dec_digits _) c hc)
  · exact .inl (List.all_eq_true.mp (dec_digits _) c hc)
/-! cutting and joining -/
def cutGo (b : UInt8) : List UInt8 → List UInt8 → List (List UInt8)
  | cur, [] => [cur]
  | cur, c :: v => if c = b then cur :: cutGo b [] v else cutGo b (cur ++ [c]) v
def cutL (b : UInt8) (s : List UInt8) : List (List UInt8) := cutGo b [] s
def joinL (b : List UInt8) : List (List UInt8) → List UInt8
  | [] => []
  | [x] => x
  | x :: y :: r => x ++ b ++ joinL b (y :: r)
theorem cutGo_ne (b : UInt8) : ∀ (v cur : List UInt8), cutGo b cur v ≠ []
  | [], _ => by simp [cutGo]
  | c :: v, cur => by
    unfold cutGo
    split
    · simp
    · exact cutGo_ne b v _
theorem cutL_ne (b : UInt8) (s : List UInt8) : cutL b s ≠ [] := cutGo_ne b s []
theorem joinL_cons {b x : List UInt8} {r : List (List UInt8)} (h : r ≠ []) : joinL b (x :: r) = x ++ b ++ joinL b r := by
  cases r with
  | nil => exact absurd rfl h
  | cons y r => rfl
theorem join_cutGo (b : UInt8) : ∀ (v cur : List UInt8), joinL [b] (cutGo b cur v) = cur ++ v
  | [], cur => by simp [cutGo, joinL]
  | c :: v, cur => by
    unfold cutGo
    split
    · rename_i h
      rw [joinL_cons (cutGo_ne b v []), join_cutGo b v [], h]; simp
    · rw [join_cutGo b v]; simp
theorem join_cut (b : UInt8) (s : List UInt8) : joinL [b] (cutL b s) = s := join_cutGo b s []
theorem cutGo_app (b : UInt8) : ∀ (x v cur : List UInt8), b ∉ x → cutGo b cur (x ++ v) = cutGo b (cur ++ x) v
  | [], v, cur, _ => by simp
  | c :: x, v, cur, h => by
    simp only [List.mem_cons, not_or] at h
    have hc : c ≠ b := fun e => h.1 e.symm
    rw [List.cons_append, cutGo, if_neg hc, cutGo_app b x v _ h.2]; simp
theorem cut_join (b : UInt8) : ∀ (l : List (List UInt8)), l ≠ [] → (∀ x ∈ l, b ∉ x) → cutL b (joinL [b] l) = l
  | [], h, _ => absurd rfl h
  | [x], _, h => by
    have := cutGo_app b x [] [] (h x (by simp))
    simp only [List.append_nil, List.nil_append] at this
    simp only [cutL, joinL, this, cutGo]
  | x :: y :: r, _, h => by
    have ih := cut_join b (y :: r) (by simp) (fun z hz => h z (by simp [hz]))
    unfold cutL at *
    rw [joinL_cons (by simp), List.append_assoc, cutGo_app b x _ _ (h x (by simp))]
    simp only [List.nil_append, List.singleton_append, cutGo, if_true, ih]
theorem cutL_noin (b : UInt8) : ∀ (v cur : List UInt8), b ∉ cur → ∀ x ∈ cutGo b cur v, b ∉ x
  | [], cur, h, x, hx => by simp [cutGo] at hx; subst hx; exact h
  | c :: v, cur, h, x, hx => by
    unfold cutGo at hx
    split at hx
    · rcases List.mem_cons.mp hx with rfl | hx
      · exact h
      · exact cutL_noin b v [] (by simp) x hx
    · rename_i hc
      exact cutL_noin b v (cur ++ [c]) (by simp only [List.mem_append, List.mem_singleton, not_or]; exact ⟨h, fun e => hc e.symm⟩) x hx
theorem cutGo_len (b : UInt8) : ∀ (v cur : List UInt8), (cutGo b cur v).length ≤ v.length + 1
  | [], _ => by simp [cutGo]
  | c :: v, cur => by
    unfold cutGo
    split
    · have := cutGo_len b v []; simp; omega
    · have := cutGo_len b v (cur ++ [c]); simp; omega
theorem cutL_len (b : UInt8) (s : List UInt8) : (cutL b s).length ≤ s.length + 1 := cutGo_len b s []
theorem cutGo_sub (b : UInt8) : ∀ (v cur x : List UInt8), x ∈ cutGo b cur v → x.length ≤ cur.length + v.length
  | [], cur, x, h => by simp [cutGo] at h; subst h; simp
  | c :: v, cur, x, h => by
    unfold cutGo at h
    split at h
    · rcases List.mem_cons.mp h with rfl | h
      · simp
      · have := cutGo_sub b v [] x h; simp at this ⊢; omega
    · have := cutGo_sub b v _ x h; simp at this ⊢; omega
theorem cutL_sub {b : UInt8} {s x : List UInt8} (h : x ∈ cutL b s) : x.length ≤ s.length := by
  have := cutGo_sub b s [] x h; simpa using this
theorem joinL_len (b : List UInt8) : ∀ (l : List (List UInt8)), (joinL b l).length ≤ (l.map fun x => x.length + b.length).sum
  | [] => by simp [joinL]
  | [x] => by simp [joinL]
  | x :: y :: r => by
    have := joinL_len b (y :: r)
    rw [joinL_cons (by simp)]
    simp only [List.length_append, List.map_cons, List.sum_cons] at this ⊢
    omega
theorem joinL_snoc (b : List UInt8) : ∀ (l : List (List UInt8)) (x : List UInt8), l ≠ [] → joinL b (l ++ [x]) = joinL b l ++ b ++ x
  | [], _, h => absurd rfl h
  | [y], x, _ => rfl
  | y :: z :: r, x, _ => by
    have e1 := joinL_cons (b := b) (x := y) (r := z :: r) (by simp)
    have e2 := joinL_cons (b := b) (x := y) (r := z :: r ++ [x]) (by simp)
    rw [List.cons_append, e2, joinL_snoc b (z :: r) x (by simp), e1]; simp
def StE (s : List UInt8) : List Dat := [.str (S s)]
end Go.Proofs.Ytbmafhpbinjgaaa.Vai
