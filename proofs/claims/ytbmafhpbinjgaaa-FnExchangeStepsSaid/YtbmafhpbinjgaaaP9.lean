/- The exchange run to its end: both programs take the same moves; no condition. -/
import Derived.Test.YtbmafhpbinjgaaaP6
import Derived.Test.YtbmafhpbinjgaaaPW
namespace Go.Proofs.Ytbmafhpbinjgaaa.Vai
open Go
set_option linter.unusedSimpArgs false
set_option linter.unusedVariables false
set_option linter.unnecessarySimpa false
set_option maxRecDepth 10000
/-! what holds after a move -/
theorem recvOk_iff {n : Nat} {cap : Int} : ∀ {qs gs : List (List Rw)} {k : Nat}, gs.length = qs.length → (recvOk n cap k qs gs = true ↔ ∀ (j : Nat) (q g : List Rw), qs[j]? = some q → gs[j]? = some g → (q.length : Int) ≤ cap ∧ ∀ r ∈ q ++ g, r.ok = true ∧ recv r n = (k + j : Nat))
  | [], [], k, _ => by simp [recvOk]
  | [], _ :: _, k, h => by simp at h
  | _ :: _, [], k, h => by simp at h
  | q :: qs, g :: gs, k, h => by
    have ih := recvOk_iff (n := n) (cap := cap) (qs := qs) (gs := gs) (k := k + 1) (by simpa using h)
    rw [recvOk_cons, Bool.and_eq_true, Bool.and_eq_true, ih]
    constructor
    · rintro ⟨h1, h2, h3⟩ j q' g' hq hg
      cases j with
      | zero =>
        simp only [List.getElem?_cons_zero, Option.some.injEq] at hq hg
        subst hq; subst hg
        refine ⟨by simpa [leI] using h1, fun r hr => ?_⟩
        have := List.all_eq_true.mp h2 r hr
        simpa [eqI] using this
      | succ j =>
        have := h3 j q' g' (by simpa using hq) (by simpa using hg)
        rw [show k + (j + 1) = k + 1 + j by omega]
        exact this
    · intro hh
      refine ⟨?_, ?_, fun j q' g' hq hg => ?_⟩
      · simpa [leI] using (hh 0 q g rfl rfl).1
      · refine List.all_eq_true.mpr fun r hr => ?_
        have := (hh 0 q g rfl rfl).2 r hr
        simpa [eqI] using this
      · have := hh (j + 1) q' g' (by simpa using hq) (by simpa using hg)
        rw [show k + (j + 1) = k + 1 + j by omega] at this
        exact this
def tot : List (List Rw) → Nat
  | [] => 0
  | a :: l => a.length + tot l
theorem tot_m (u v : List (List Rw)) (a : List Rw) : tot (u ++ a :: v) = tot u + (a.length + tot v) := by
  induction u with
  | nil => simp [tot]
  | cons b u ih => simp only [List.cons_append, tot, ih]; omega
theorem tot_sz (l : List (List Rw)) : tot l ≤ szL List.length l := by
  induction l with
  | nil => exact Nat.le_refl _
  | cons a l ih => simp only [tot, szL]; omega
/-- what is left to do -/
def mu (x : Xc) : Nat := 2 * tot x.pend + tot x.que
theorem aok_tail {r : Rw} {p : List Rw} (h : aok (r :: p) = true) : aok p = true := by
  simp only [aok, Bool.and_eq_true, leI, decide_eq_true_eq, List.all_cons, List.length_cons] at h ⊢
  exact ⟨by omega, h.2.2⟩
theorem exOk_of {x : Xc} (h1 : ∀ l ∈ x.pend, aok l = true) (h2 : win x.pend.length 1 3 = true) (h3 : win x.que.length 1 3 = true) (h4 : x.got.length = x.que.length) (h5 : win x.cap 1 9 = true) (h6 : recvOk x.que.length x.cap 0 x.que x.got = true) : exOk x = true := by
  simp only [exOk, sendOk, Bool.and_eq_true, eqI, decide_eq_true_eq]
  exact ⟨⟨List.all_eq_true.mpr h1, h2⟩, h3, by omega, h5, h6⟩
theorem send_next {x : Xc} {n : Nat} (hv : exOk x = true) (h : (sendX x n).2 = true) : exOk (sendX x n).1 = true ∧ mu (sendX x n).1 < mu x ∧ n < x.pend.length := by
  by_cases hc : exOk x = true ∧ 0 ≤ (n : Int) ∧ (n : Int) < x.pend.length
  · have e : sendX x n = _ := if_pos hc
    rw [e] at h ⊢
    have hp := exOk_p hv
    obtain ⟨pend, que, got, cap⟩ := x
    simp only at *
    obtain ⟨u, a, v, rfl, rfl⟩ := split_at (show n < pend.length by omega)
    rw [Int.toNat_natCast, getD_m] at h ⊢
    cases a with
    | nil => cases h
    | cons r p =>
      have hr : r.ok = true := aok_all (hp.1 (r :: p) (by simp)) r (by simp)
      obtain ⟨r0, r1⟩ := recv_ok (n := que.length) hp.2.2.1 hr
      obtain ⟨m, hm⟩ : ∃ m : Nat, recv r que.length = m := ⟨(recv r que.length).toNat, by omega⟩
      rw [hm] at r1
      simp only [hm, Int.toNat_natCast] at h ⊢
      obtain ⟨u2, q, v2, rfl, rfl⟩ := split_at (show m < que.length by omega)
      rw [getD_m] at h ⊢
      by_cases hc2 : (q.length : Int) = cap
      · rw [if_pos hc2] at h; cases h
      · rw [if_neg hc2, set_m, set_m]
        have h6 := (recvOk_iff hp.2.2.2.1).mp hp.2.2.2.2.2
        refine ⟨exOk_of (fun l hl => ?_) (by simpa using hp.2.1) (by simpa using hp.2.2.1) (by simpa using hp.2.2.2.1) hp.2.2.2.2.1 ?_, ?_, by simp⟩
        · simp only [List.mem_append, List.mem_cons] at hl
          rcases hl with hl | rfl | hl
          · exact hp.1 l (by simp [hl])
          · exact aok_tail (hp.1 (r :: l) (by simp))
          · exact hp.1 l (by simp [hl])
        · have hlen : (u2 ++ (q ++ [r]) :: v2).length = (u2 ++ q :: v2).length := by simp
          show recvOk (u2 ++ (q ++ [r]) :: v2).length cap 0 (u2 ++ (q ++ [r]) :: v2) got = true
          rw [hlen]
          refine (recvOk_iff (by simpa using hp.2.2.2.1)).mpr fun j q' g' hq hg => ?_
          by_cases hj : j = u2.length
          · subst hj
            simp only [List.getElem?_append_right (Nat.le_refl _), Nat.sub_self, List.getElem?_cons_zero, Option.some.injEq] at hq
            subst hq
            obtain ⟨a1, a2⟩ := h6 u2.length q g' (by simp) hg
            refine ⟨by simp; omega, fun r' hr' => ?_⟩
            simp only [List.mem_append, List.mem_cons, List.not_mem_nil, or_false] at hr'
            rcases hr' with (hr' | rfl) | hr'
            · exact a2 r' (by simp [hr'])
            · exact ⟨hr, by rw [hm]; simp⟩
            · exact a2 r' (by simp [hr'])
          · refine h6 j q' g' ?_ hg
            rw [← hq]
            by_cases hlt : j < u2.length
            · rw [List.getElem?_append_left hlt, List.getElem?_append_left hlt]
            · obtain ⟨d, hd⟩ : ∃ d, j - u2.length = d + 1 := ⟨j - u2.length - 1, by omega⟩
              rw [List.getElem?_append_right (by omega), List.getElem?_append_right (by omega), hd]
              rfl
        · simp only [mu, tot_m, List.length_cons, List.length_append, List.length_nil]
          omega
  · have e : sendX x n = _ := if_neg hc
    rw [e] at h
    cases h
theorem recv_next {x : Xc} {n : Nat} (hv : exOk x = true) (h : (recvX x n).2 = true) : exOk (recvX x n).1 = true ∧ mu (recvX x n).1 < mu x ∧ n < x.que.length := by
  by_cases hc : exOk x = true ∧ 0 ≤ (n : Int) ∧ (n : Int) < x.que.length
  · have e : recvX x n = _ := if_pos hc
    rw [e] at h ⊢
    have hp := exOk_p hv
    obtain ⟨pend, que, got, cap⟩ := x
    simp only at *
    obtain ⟨u2, g, v2, rfl, hu2⟩ := split_at (show n < got.length by omega)
    obtain ⟨u, a, v, rfl, hu⟩ := split_at (show n < que.length by omega)
    have g1 : (u ++ a :: v).getD n [] = a := by rw [← hu]; exact getD_m u v a []
    have g3 : (u2 ++ g :: v2).getD n [] = g := by rw [← hu2]; exact getD_m u2 v2 g []
    have g4 : ∀ b : List Rw, (u ++ a :: v).set n b = u ++ b :: v := fun b => by rw [← hu]; exact set_m u v a b
    have g5 : ∀ b : List Rw, (u2 ++ g :: v2).set n b = u2 ++ b :: v2 := fun b => by rw [← hu2]; exact set_m u2 v2 g b
    rw [Int.toNat_natCast, g1] at h ⊢
    cases a with
    | nil => cases h
    | cons r p =>
      simp only [g3, g4, g5] at h ⊢
      have h6 := (recvOk_iff hp.2.2.2.1).mp hp.2.2.2.2.2
      refine ⟨exOk_of hp.1 hp.2.1 (by simpa using hp.2.2.1) (by simpa using hp.2.2.2.1) hp.2.2.2.2.1 ?_, ?_, by simp; omega⟩
      · have hlen : (u ++ p :: v).length = (u ++ (r :: p) :: v).length := by simp
        show recvOk (u ++ p :: v).length cap 0 (u ++ p :: v) (u2 ++ (g ++ [r]) :: v2) = true
        rw [hlen]
        refine (recvOk_iff (by simpa using hp.2.2.2.1)).mpr fun j q' g' hq hg => ?_
        by_cases hj : j = n
        · rw [hj] at hq hg ⊢
          have hq' : q' = p := by
            rw [← hu, List.getElem?_append_right (Nat.le_refl _)] at hq
            simpa using hq.symm
          have hg' : g' = g ++ [r] := by
            rw [← hu2, List.getElem?_append_right (Nat.le_refl _)] at hg
            simpa using hg.symm
          subst hq'; subst hg'
          obtain ⟨a1, a2⟩ := h6 n (r :: q') g (by rw [← hu]; simp) (by rw [← hu2]; simp)
          refine ⟨by simp at a1; omega, fun r' hr' => a2 r' ?_⟩
          simp only [List.mem_append, List.mem_cons, List.not_mem_nil, or_false] at hr' ⊢
          rcases hr' with hr' | hr' | hr'
          · exact .inl (.inr hr')
          · exact .inr hr'
          · exact .inl (.inl hr')
        · refine h6 j q' g' ?_ ?_
          · rw [← hq]
            by_cases hlt : j < u.length
            · rw [List.getElem?_append_left hlt, List.getElem?_append_left hlt]
            · obtain ⟨d, hd⟩ : ∃ d, j - u.length = d + 1 := ⟨j - u.length - 1, by omega⟩
              rw [List.getElem?_append_right (by omega), List.getElem?_append_right (by omega), hd]
              rfl
          · rw [← hg]
            by_cases hlt : j < u2.length
            · rw [List.getElem?_append_left hlt, List.getElem?_append_left hlt]
            · obtain ⟨d, hd⟩ : ∃ d, j - u2.length = d + 1 := ⟨j - u2.length - 1, by omega⟩
              rw [List.getElem?_append_right (by omega), List.getElem?_append_right (by omega), hd]
              rfl
      · simp only [mu, tot_m, List.length_cons]
        omega
  · have e : recvX x n = _ := if_neg hc
    rw [e] at h
    cases h
/-! the moves -/
def mays (x : Xc) : List Nat := ((List.range x.pend.length).filter fun i : Nat => (sendX x i).2) ++ ((List.range x.que.length).filter fun i : Nat => (recvX x i).2).map (3 + ·)
def doMv (x : Xc) (m : Nat) : Xc := if m < 3 then (sendX x m).1 else (recvX x ((m - 3 : Nat) : Int)).1
def sends (x : Xc) : List Xc := ((List.range x.pend.length).filter fun i : Nat => (sendX x i).2).map fun i : Nat => (sendX x i).1
def recvs (x : Xc) : List Xc := ((List.range x.que.length).filter fun i : Nat => (recvX x i).2).map fun i : Nat => (recvX x i).1
def nx (x : Xc) : List Xc := sends x ++ recvs x
theorem nx_eq {x : Xc} (hv : exOk x = true) : nx x = (mays x).map (doMv x) := by
  have hp := (win_iff.mp (exOk_p hv).2.1).2
  simp only [nx, sends, recvs, mays, List.map_append, List.map_map]
  congr 1
  · refine List.map_congr_left fun i hi => ?_
    have := List.mem_range.mp (List.mem_filter.mp hi).1
    rw [doMv, if_pos (by omega)]
  · refine List.map_congr_left fun i hi => ?_
    show _ = doMv x (3 + i)
    rw [doMv, if_neg (by omega)]
    congr 3
    omega
theorem nx_ok {x y : Xc} (hv : exOk x = true) (hy : y ∈ nx x) : exOk y = true ∧ mu y < mu x ∧ y.sz = x.sz := by
  simp only [nx, sends, recvs, List.mem_append, List.mem_map, List.mem_filter] at hy
  rcases hy with ⟨i, ⟨_, hi⟩, rfl⟩ | ⟨i, ⟨_, hi⟩, rfl⟩
  · obtain ⟨h1, h2, _⟩ := send_next hv hi
    exact ⟨h1, h2, sendX_sz x i⟩
  · obtain ⟨h1, h2, _⟩ := recv_next hv hi
    exact ⟨h1, h2, recvX_sz x i⟩
theorem nx_len (x : Xc) (hv : exOk x = true) : (nx x).length ≤ 6 := by
  have h1 := (win_iff.mp (exOk_p hv).2.1).2
  have h2 := (win_iff.mp (exOk_p hv).2.2.1).2
  have e1 := List.length_filter_le (fun i : Nat => (sendX x i).2) (List.range x.pend.length)
  have e2 := List.length_filter_le (fun i : Nat => (recvX x i).2) (List.range x.que.length)
  simp only [List.length_range] at e1 e2
  simp only [nx, sends, recvs, List.length_append, List.length_map]
  omega
/-- which of l moves is taken -/
def pk (p : Int) (l : Nat) : Nat := (Int.tmod (Int.tmod p l + l) l).toNat
theorem pk_ok (p : Int) {l : Nat} (h : 0 < l) (h2 : l ≤ 1073741824) : Int.tmod (w64 (Int.tmod p l + l)) l = (pk p l : Int) ∧ pk p l < l := by
  have h3 := Int.tmod_lt_of_pos p (show (0 : Int) < l by omega)
  have h4 : -(l : Int) < Int.tmod p l := by
    have := Int.lt_tmod_of_pos p (show (0 : Int) < l by omega)
    omega
  rw [w64_id ⟨by omega, by omega⟩]
  have h5 := Int.tmod_nonneg (l : Int) (show 0 ≤ Int.tmod p l + l by omega)
  have h6 := Int.tmod_lt_of_pos (Int.tmod p l + l) (show (0 : Int) < l by omega)
  unfold pk
  omega
def pickAt (picks : List Int) (n l : Nat) : Nat := if picks = [] then 0 else pk (picks.getD (n % picks.length) 0) l
theorem pickAt_lt (picks : List Int) (n : Nat) {l : Nat} (h : 0 < l) (h2 : l ≤ 1073741824) : pickAt picks n l < l := by
  unfold pickAt
  split
  · exact h
  · exact (pk_ok _ h h2).2
def runX (picks : List Int) : Nat → Xc → Nat → Xc × Nat
  | 0, x, n => (x, n)
  | f + 1, x, n => match (nx x)[pickAt picks n (nx x).length]? with
    | none => (x, n)
    | some y => runX picks f y (n + 1)
/-- loops that gather -/
theorem coll {β γ : Type} {N c : Nat} (hN : N < 4611686018427387904) {b : Nat → Bool} {g : Nat → γ} {L : List γ → Int → Option β} {K : List γ → Option β}
    (hs : ∀ (i : Nat) (acc : List γ), i < N → acc.length ≤ c + i → L acc i = L (if b i then acc ++ [g i] else acc) (w64 (i + 1))) (he : ∀ acc, acc.length ≤ c + N → L acc N = K acc) (acc : List γ) (h0 : acc.length ≤ c) :
    L acc 0 = K (acc ++ ((List.range N).filter b).map g) := by
  have := zip_loop (l := List.range N) (L := L) (F := fun s v => K (s ++ (v.filter b).map g)) (I := fun s u _ => s.length ≤ c + u.length) (by simp; omega) (fun u a v s e hI => by
    have ha : a = u.length := by
      have h1 : (List.range N)[u.length]? = some a := by rw [e]; simp
      have h2 := (List.getElem?_eq_some_iff.mp h1).1
      rw [List.getElem?_range (by simpa using h2)] at h1
      exact (Option.some.inj h1).symm
    subst ha
    have hl : u.length < N := by
      have := congrArg List.length e
      simp at this
      omega
    refine .inl ⟨_, hs u.length s hl hI, ?_, ?_⟩
    · cases b u.length <;> simp <;> omega
    · cases hb : b u.length
      · simp [hb]
      · simp [hb]) (fun s hI => by
    simp only [List.length_range] at hI ⊢
    rw [he s hI]
    simp) acc (by simpa using h0)
  exact this
theorem sendX_f (x : Xc) (i : Int) (h : (sendX x i).2 = false) : sendX x i = (x, false) := by
  unfold sendX at h ⊢
  split
  · rename_i hc
    rw [if_pos hc] at h
    split
    · rfl
    · rename_i r p hr
      simp only [hr] at h
      split
      · rfl
      · rename_i h2
        rw [if_neg h2] at h
        cases h
  · rfl
end Go.Proofs.Ytbmafhpbinjgaaa.Vai
