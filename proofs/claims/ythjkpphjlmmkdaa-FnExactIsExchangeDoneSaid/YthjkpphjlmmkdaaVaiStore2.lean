/- Stores into rows (continued); no condition. -/
import Derived.Test.YthjkpphjlmmkdaaVaiStore
namespace Go.Proofs.Ythjkpphjlmmkdaa.Vai
open Go

section
variable {P : Program} {E : Env} {base : Nat} {M : List Nat} {S0 : Nat → Prop} {R0 : Id → Value} {w0 : World} {nt : Nat} {G : Gh} {st : St} {a : Act} {w : World} {look : Look}

theorem place_iff {sz row j i off n : Nat} (hi : i < sz) (hn : off + n ≤ sz) : row * sz + off ≤ j * sz + i ∧ j * sz + i < row * sz + off + n ↔ j = row ∧ off ≤ i ∧ i < off + n := by
  constructor
  · rintro ⟨h1, h2⟩
    have : j = row := (row_iff (i := row) (j := j) hi).mp ⟨by omega, by omega⟩
    subst this
    omega
  · rintro ⟨rfl, h1, h2⟩; omega

theorem RelG.writeRow (h : RelG E base M S0 R0 w0 nt G st a w) {dst : Option Nat} (hd : inB nt dst = true) {o : Id} {e : TypeId} {rows : List (List Dat)} {dp : Bool} {vr : Nat} {holes : List (Int × Nat)} (ho : getO st.ob o = some (.row e rows dp vr holes))
    {te : TI} (hte : E.T e = some te) (hlen : ∀ (j : Nat) (r : List Dat), rows[j]? = some r → r.length = te.ls.length)
    {g offb c : Nat} {arr : Array Value} {u : Nat → Nat → Value} {bs : Nat → Nat → List Nat} (a1 : G.root o = .slice (some ⟨g, offb, none⟩) rows.length c) (a2 : G.top o = [g]) (a3 : w.heap[g]? = some (.cells arr e (0, 0))) (a4 : rows.length ≤ c)
    (a5 : offb + c * te.ls.length ≤ arr.size) (a6 : ∀ j i : Nat, j < rows.length → i < te.ls.length → arr[offb + (j * te.ls.length + i)]? = some (u j i) ∧ oneV (u j i))
    (a7 : ∀ (j i : Nat) (r : List Dat) (l : Leaf), rows[j]? = some r → te.ls[i]? = some l → ¬ isHole holes j i → if dp then OT E w l (r.getD i default) (u j i) (bs j i) else RD E w (fun b => S0 b ∨ b ∈ G.F) l (r.getD i default) (u j i))
    (a8 : dp = true → G.ins o = flatB bs rows.length te.ls.length) (a10 : ∀ j i, isHole holes j i → bs j i = [])
    {row : Nat} (hrow : row < rows.length) {off : Nat} {ls : List Leaf} (hn : off + ls.length ≤ te.ls.length) (hls : ∀ (i : Nat) (l : Leaf), ls[i]? = some l → te.ls[off + i]? = some l) {ds : List Dat} {vs : List Value} (hds : ds.length = ls.length) (hvs : vs.length = ls.length)
    {dl : List Id} (hdl : ∀ o' ∈ dl, ∃ y, getO st.ob o' = some y) (hodl : o ∉ dl) {deep' : Bool} (hdp : deep' = true → dp = true) {bsn : Nat → List Nat}
    (hrd : ∀ (i : Nat) (l : Leaf), ls[i]? = some l → RD E w (SOf S0 G dl) l (ds.getD i default) (vs.getD i undef)) (hot : deep' = true → ∀ (i : Nat) (l : Leaf), ls[i]? = some l → OT E w l (ds.getD i default) (vs.getD i undef) (bsn i))
    (hD : ∀ i, i < ls.length → ∀ b ∈ bsn i, DOf G dl b ∨ (dp = true ∧ b ∈ bs row (off + i))) (hnd : ∀ i, (bsn i).Nodup) (hdj : ∀ i j, i ≠ j → ∀ b ∈ bsn i, b ∉ bsn j)
    {holes' : List (Int × Nat)} {vr' : Nat} (hh1 : ∀ p ∈ holes', p ∈ holes) (hh2 : ∀ p ∈ holes, p ∈ holes' ∨ (p.1.toNat = row ∧ off ≤ p.2 ∧ p.2 < off + ls.length)) (hh3 : ∀ p ∈ holes', ¬ (p.1.toNat = row ∧ off ≤ p.2 ∧ p.2 < off + ls.length))
    (hvr : vr ≤ vr') (hvr2 : vr' = vr → (∀ (i : Nat) (e' : TypeId), ls[i]? ≠ some (.sl e')) ∧ holes' = holes) :
    ∃ G', RelG E base M S0 R0 w0 nt G' (applyD st dst { v := .dead, up := [(o, .row e (rows.set row (setRange (rows.getD row []) off ds)) deep' vr' holes')], dl := dl }) (a.put dst undef) (w.setRow g (setRange arr.toList (offb + (row * te.ls.length + off)) vs).toArray) := by
  let bsN : Nat → Nat → List Nat := fun j i => if j = row ∧ off ≤ i ∧ i < off + ls.length then bsn (i - off) else if j < rows.length ∧ i < te.ls.length then bs j i else []
  have hbsN : ∀ j i, bsN j i = if j = row ∧ off ≤ i ∧ i < off + ls.length then bsn (i - off) else if j < rows.length ∧ i < te.ls.length then bs j i else [] := fun _ _ => rfl
  let insN : List Nat := if deep' then flatB bsN rows.length te.ls.length else []
  let G' : Gh := { G with ins := fun o' => if o' = o then insN else G.ins o', F := G.F ++ dl.flatMap G.top }
  have h1 := h.dels dl
  have hgt : g ∈ G.top o := by rw [a2]; simp
  have ho1 : getO (delAll dl st.ob) o = some (.row e rows dp vr holes) := by rw [getO_delAll, if_neg hodl]; exact ho
  have hlive : ∀ o' y, getO (delAll dl st.ob) o' = some y → o' ∉ dl ∧ getO st.ob o' = some y := fun o' y hy => by
    rw [getO_delAll] at hy
    split at hy
    · cases hy
    · rename_i hn; exact ⟨hn, hy⟩
  have htop := h.tops o _ ho g hgt
  have hr : rows[row]? = some (rows.getD row []) := by simp [List.getElem?_eq_getElem hrow, List.getD]
  have hrl : (rows.getD row []).length = te.ls.length := hlen row _ hr
  have hSne : ∀ b, SOf S0 G dl b → b ≠ g := fun b hb e0 => by
    subst e0
    rcases hb with hb | hb | ⟨o', ho', hb⟩
    · exact htop.1 hb
    · exact htop.2.1 hb
    · obtain ⟨y, hy⟩ := hdl o' ho'
      exact h.tops2 o _ o' y ho hy (fun e => hodl (e ▸ ho')) b hgt hb
  have hDne : ∀ b, DOf G dl b → b ≠ g := fun b ⟨o', ho', hb⟩ e0 => by
    subst e0
    obtain ⟨y, hy⟩ := hdl o' ho'
    exact h.apart ho hy (fun e => hodl (e ▸ ho')) (.inl hgt) hb
  have hbsins : dp = true → ∀ j i, j < rows.length → i < te.ls.length → ∀ b ∈ bs j i, b ∈ G.ins o := fun hd j i hj hi b hb => by rw [a8 hd]; exact mem_flatB.mpr ⟨j, i, hj, hi, hb⟩
  have hinsne : ∀ b, b ∈ G.ins o → b ≠ g := fun b hb e0 => htop.2.1 (e0 ▸ (h.ins o _ ho).1 b hb)
  have hold : ∀ b, b ≠ g → (w.setRow g (setRange arr.toList (offb + (row * te.ls.length + off)) vs).toArray).heap[b]? = w.heap[b]? := fun b hb => setRow_other w g b _ hb
  have hfit : row * te.ls.length + te.ls.length ≤ c * te.ls.length := by
    have : (row + 1) * te.ls.length ≤ c * te.ls.length := Nat.mul_le_mul_right _ (by omega)
    rw [Nat.add_mul] at this; omega
  -- cells after the write
  have hcell : ∀ j i, j < rows.length → i < te.ls.length → (setRange arr.toList (offb + (row * te.ls.length + off)) vs).toArray[offb + (j * te.ls.length + i)]? = some (if j = row ∧ off ≤ i ∧ i < off + ls.length then vs.getD (i - off) undef else u j i) := fun j i hj hi => by
    simp only [List.getElem?_toArray, setRange_get, hvs]
    by_cases hc : j = row ∧ off ≤ i ∧ i < off + ls.length
    · have := (place_iff (row := row) (off := off) hi hn).mpr hc
      rw [if_pos (by omega), if_pos (by simp; omega), if_pos hc]
      obtain ⟨rfl, c1, c2⟩ := hc
      have e1 : offb + (j * te.ls.length + i) - (offb + (j * te.ls.length + off)) = i - off := by omega
      rw [e1]
      have : i - off < vs.length := by omega
      simp [List.getD, this]
    · have hc' : ¬ (offb + (row * te.ls.length + off) ≤ offb + (j * te.ls.length + i) ∧ offb + (j * te.ls.length + i) < offb + (row * te.ls.length + off) + ls.length) := fun hh => hc ((place_iff (row := row) (off := off) hi hn).mp ⟨by omega, by omega⟩)
      rw [if_neg hc', if_neg hc]
      simpa using (a6 j i hj hi).1
  have hone : ∀ j i, j < rows.length → i < te.ls.length → oneV (if j = row ∧ off ≤ i ∧ i < off + ls.length then vs.getD (i - off) undef else u j i) := fun j i hj hi => by
    split
    · rename_i hc
      exact (hrd (i - off) _ (List.getElem?_eq_getElem (by omega))).one
    · exact (a6 j i hj hi).2
  -- rows after the write
  have hget : ∀ j r, (rows.set row (setRange (rows.getD row []) off ds))[j]? = some r → j < rows.length ∧ r.length = te.ls.length ∧ ∃ r0, rows[j]? = some r0 ∧ ∀ i, i < te.ls.length → r.getD i default = if j = row ∧ off ≤ i ∧ i < off + ls.length then ds.getD (i - off) default else r0.getD i default := fun j r hj => by
    have hjl : j < rows.length := by have := (List.getElem?_eq_some_iff.mp hj).1; simpa using this
    rw [List.getElem?_set] at hj
    by_cases hji : row = j
    · subst hji
      simp only [if_true, hrow] at hj
      cases hj
      refine ⟨hrow, by rw [setRange_length]; exact hrl, _, hr, fun i hi => ?_⟩
      simp only [List.getD, setRange_get, hds, true_and]
      by_cases hc : off ≤ i ∧ i < off + ls.length
      · rw [if_pos hc, if_pos (by simp only [List.getD] at hrl; omega), if_pos hc]
      · rw [if_neg hc, if_neg hc]
    · rw [if_neg hji] at hj
      refine ⟨hjl, hlen j r hj, r, hj, fun i hi => ?_⟩
      rw [if_neg (fun hc => hji hc.1.symm)]
  have hnohole : ∀ j i, ¬ isHole holes' j i → ¬ (j = row ∧ off ≤ i ∧ i < off + ls.length) → ¬ isHole holes j i := fun j i hnh hc ⟨q, hq, hq'⟩ => by
    rcases hh2 _ hq with hq2 | ⟨c1, c2, c3⟩
    · exact hnh ⟨q, hq2, hq'⟩
    · exact hc ⟨hq'.symm.trans c1, c2, c3⟩
  have hc : Comp (fun _ => False) E w S0 G (delAll dl st.ob) (w.setRow g (setRange arr.toList (offb + (row * te.ls.length + off)) vs).toArray) G' (setO (delAll dl st.ob) o (.row e (rows.set row (setRange (rows.getD row []) off ds)) deep' vr' holes')) := by
    refine h1.compWrite ho1 hgt (fun _ => rfl) (fun b hb => List.mem_append.mpr (.inl hb)) (fun _ _ h => by cases h) (fun e2 rows2 dp2 vr2 h2 hy => ?_)
    cases hy
    refine ⟨rows, dp, vr, holes, rfl, by simp, hvr, fun hd hv => ?_⟩
    obtain ⟨hv1, hv2⟩ := hvr2 hv
    refine ⟨hdp hd, fun x hx => by rw [hv2]; exact hx, fun te2 j r ht2 hj => ?_⟩
    rw [hte] at ht2; cases ht2
    have hjl := (List.getElem?_eq_some_iff.mp hj).1
    refine ⟨_, List.getElem?_eq_getElem (by simpa using hjl), fun col e' hcol hq => ?_⟩
    have hci := (List.getElem?_eq_some_iff.mp hcol).1
    obtain ⟨_, _, r0, hr0, hr1⟩ := hget j _ (List.getElem?_eq_getElem (by simpa using hjl))
    rw [hj] at hr0; cases hr0
    have hnc : ¬ (j = row ∧ off ≤ col ∧ col < off + ls.length) := fun ⟨_, c1, c2⟩ => by
      have hl := hls (col - off) _ (List.getElem?_eq_getElem (by omega : col - off < ls.length))
      have : off + (col - off) = col := by omega
      rw [this, hcol] at hl
      refine hv1 (col - off) e' ?_
      rw [List.getElem?_eq_getElem (by omega)]
      exact hl.symm
    refine ⟨by rw [hr1 col hci, if_neg hnc], fun g0 o0 n0 c0 hroot => ?_⟩
    rw [a1] at hroot
    injection hroot with e1 e2 e3
    injection e1 with e1
    injection e1 with e1 e4 _
    subst e1; subst e4
    have h4 := hcell j col hjl hci
    rw [if_neg hnc] at h4
    have h5 := (a6 j col hjl hci).1
    simp only [World.cell?, setRow_heap w g arr _ e _ a3, a3, Option.isSome_none, Bool.false_eq_true, if_false]
    rw [h4, h5]
  have hflmem : ∀ b, b ∈ dl.flatMap G.top → ∃ o' ∈ dl, b ∈ G.top o' := fun b hb => by
    obtain ⟨o', ho', hb⟩ := List.mem_flatMap.mp hb
    exact ⟨o', ho', hb⟩
  have hmono : ∀ b, SOf S0 G dl b → S0 b ∨ b ∈ G'.F := fun b hb => by
    rcases hb with hb | hb | ⟨o', ho', hb⟩
    · exact .inl hb
    · exact .inr (List.mem_append.mpr (.inl hb))
    · exact .inr (List.mem_append.mpr (.inr (List.mem_flatMap.mpr ⟨o', ho', hb⟩)))
  -- the new inside
  have hbN : ∀ j i b, j < rows.length → i < te.ls.length → b ∈ bsN j i → deep' = true → DOf G dl b ∨ b ∈ G.ins o := fun j i b hj hi hb hd => by
    rw [hbsN] at hb
    split at hb
    · rename_i hc
      rcases hD (i - off) (by omega) b hb with hb | ⟨hb, hb'⟩
      · exact .inl hb
      · exact .inr (hbsins hb row _ hrow (by omega) b hb')
    · rw [if_pos ⟨hj, hi⟩] at hb
      exact .inr (hbsins (hdp hd) j i hj hi b hb)
  have hbN2 : deep' = true → (∀ j i, (bsN j i).Nodup) ∧ ∀ j i j' i', ¬ (j = j' ∧ i = i') → ∀ b ∈ bsN j i, b ∉ bsN j' i' := fun hd => by
    have hndo := (h.ins o _ ho).2
    rw [a8 (hdp hd)] at hndo
    obtain ⟨f1, f2⟩ := flatB_nodup_inv hndo
    have cross : ∀ i b, i < ls.length → b ∈ bsn i → ∀ j' i', j' < rows.length → i' < te.ls.length → ¬ (j' = row ∧ off ≤ i' ∧ i' < off + ls.length) → b ∉ bs j' i' := fun i b hi hb j' i' hj' hi' hc hb' => by
      rcases hD i hi b hb with ⟨o', ho', hb2⟩ | ⟨_, hb2⟩
      · obtain ⟨y, hy⟩ := hdl o' ho'
        exact h.apart ho hy (fun e => hodl (e ▸ ho')) (.inr (hbsins (hdp hd) j' i' hj' hi' b hb')) hb2
      · exact f2 row (off + i) j' i' hrow (by omega) hj' hi' (fun ⟨e1, e2⟩ => hc ⟨e1.symm, by omega, by omega⟩) b hb2 hb'
    refine ⟨fun j i => ?_, fun j i j' i' hne b hb hb' => ?_⟩
    · rw [hbsN]
      split
      · exact hnd _
      · split
        · rename_i hc; exact f1 j i hc.1 hc.2
        · simp
    · rw [hbsN] at hb hb'
      split at hb <;> split at hb'
      · rename_i c1 c2
        exact hdj (i - off) (i' - off) (fun e => hne ⟨c1.1.trans c2.1.symm, by omega⟩) b hb hb'
      · rename_i c1 c2
        split at hb'
        · rename_i c3; exact cross (i - off) b (by omega) hb j' i' c3.1 c3.2 c2 hb'
        · cases hb'
      · rename_i c1 c2
        split at hb
        · rename_i c3; exact cross (i' - off) b (by omega) hb' j i c3.1 c3.2 c1 hb
        · cases hb
      · split at hb
        · split at hb'
          · rename_i c3 c4; exact f2 j i j' i' c3.1 c3.2 c4.1 c4.2 hne b hb hb'
          · cases hb'
        · cases hb
  have key := h1.upd o _ (.row e (rows.set row (setRange (rows.getD row []) off ds)) deep' vr' holes') ho1 G' (h1.kept_set ho1 hgt _) (by simp) hc.old hc.F
    (fun o' x' hx' hne b hb => setRow_other w g b _ (fun e0 => h1.tops2 o _ o' x' ho1 hx' (fun e => hne e.symm) g hgt (e0 ▸ hb))) (fun o' hne => ⟨rfl, rfl, by simp [G', hne]⟩) rfl
    (fun b hb => by
      rcases List.mem_append.mp hb with hb | hb
      · exact .inl hb
      · obtain ⟨o', ho', hb⟩ := hflmem b hb
        obtain ⟨y, hy⟩ := hdl o' ho'
        obtain ⟨q1, q2, q3⟩ := h.tops o' y hy b hb
        refine .inr ⟨q1, q3, by simpa using h.top_lt hy b hb, fun o'' y' hy' => ?_⟩
        obtain ⟨r1, r2⟩ := hlive o'' y' hy'
        exact h.tops2 o' y o'' y' hy r2 (fun e => r1 (e ▸ ho')) b hb) hc
    (by
      simp only [ObjR, G', if_true]
      refine ⟨te, hte, fun j r hj => (hget j r hj).2.1, .inr ⟨g, offb, c, _, fun j i => if j = row ∧ off ≤ i ∧ i < off + ls.length then vs.getD (i - off) undef else u j i, bsN, by rw [a1]; simp, a2, setRow_heap w g arr _ e _ a3, by simpa using a4, by simpa [setRange_length] using a5, fun j i hj hi => ⟨hcell j i (by simpa using hj) hi, hone j i (by simpa using hj) hi⟩,
        fun j i r l hj hl hnh => ?_, fun hd => by simp [insN, hd], fun hd => by simp [insN, hd], fun j i hh => ?_⟩⟩
      · obtain ⟨hjl, _, r0, hr0, hr1⟩ := hget j r hj
        have hi := (List.getElem?_eq_some_iff.mp hl).1
        rw [hr1 i hi]
        show if deep' then OT E _ l _ (if j = row ∧ off ≤ i ∧ i < off + ls.length then vs.getD (i - off) undef else u j i) (bsN j i) else RD E _ _ l _ (if j = row ∧ off ≤ i ∧ i < off + ls.length then vs.getD (i - off) undef else u j i)
        by_cases hc2 : j = row ∧ off ≤ i ∧ i < off + ls.length
        · rw [if_pos hc2, if_pos hc2]
          have hli : ls[i - off]? = some l := by
            have hlt : i - off < ls.length := by omega
            have := hls (i - off) _ (List.getElem?_eq_getElem hlt)
            have e1 : off + (i - off) = i := by omega
            rw [e1, hl] at this
            rw [List.getElem?_eq_getElem hlt]
            exact this.symm
          cases hdd : deep' with
          | true =>
            simp only [if_true]
            have e1 : bsN j i = bsn (i - off) := by rw [hbsN, if_pos hc2]
            rw [e1]
            refine (hot hdd (i - off) l hli).frame fun b hb => hold b ?_
            rcases hD (i - off) (by omega) b hb with hb | ⟨hb, hb'⟩
            · exact hDne b hb
            · exact hinsne b (hbsins hb row _ hrow (by omega) b hb')
          | false =>
            simp only [Bool.false_eq_true, if_false]
            exact (hrd (i - off) l hli).frame (fun b hb => hold b (hSne b hb)) hmono
        · rw [if_neg hc2, if_neg hc2]
          have := a7 j i r0 l hr0 hl (hnohole j i hnh hc2)
          cases hdd : deep' with
          | true =>
            have hdp' := hdp hdd
            subst hdp'
            simp only [if_true] at this ⊢
            have e1 : bsN j i = bs j i := by rw [hbsN, if_neg hc2, if_pos ⟨hjl, hi⟩]
            rw [e1]
            exact this.frame fun b hb => hold b (hinsne b (hbsins rfl j i hjl hi b hb))
          | false =>
            simp only [Bool.false_eq_true, if_false]
            have hrd0 : RD E w (fun b => S0 b ∨ b ∈ G.F) l (r0.getD i default) (u j i) := by
              cases dp with
              | true =>
                simp only [if_true] at this
                exact this.rd fun b hb => .inr ((h.ins o _ ho).1 b (hbsins rfl j i hjl hi b hb))
              | false => simpa using this
            exact hrd0.frame (fun b hb => hold b (hSne b (hb.imp id .inl))) (fun b hb => hmono b (hb.imp id .inl))
      · obtain ⟨q, hq, hq'⟩ := hh
        have h1' : ¬ (j = row ∧ off ≤ i ∧ i < off + ls.length) := fun hc => hh3 _ hq ⟨hq'.trans hc.1, hc.2⟩
        rw [hbsN, if_neg h1', a10 j i ⟨q, hh1 _ hq, hq'⟩]
        simp)
    (by
      simp only [G', if_true, insN]
      refine ⟨fun b hb => ?_, ?_⟩
      · split at hb
        · rename_i hdd
          obtain ⟨j, i, hj, hi, hb⟩ := mem_flatB.mp hb
          rcases hbN j i b hj hi hb hdd with ⟨o', ho', hb⟩ | hb
          · obtain ⟨y, hy⟩ := hdl o' ho'
            refine ⟨List.mem_append.mpr (hb.elim (fun hb => .inr (List.mem_flatMap.mpr ⟨o', ho', hb⟩)) (fun hb => .inl ((h.ins o' y hy).1 b hb))), fun o'' y' hy' _ hb' => ?_⟩
            obtain ⟨r1, r2⟩ := hlive o'' y' hy'
            exact h.apart hy r2 (fun e => r1 (e ▸ ho')) hb (.inr hb')
          · refine ⟨List.mem_append.mpr (.inl ((h.ins o _ ho).1 b hb)), fun o'' y' hy' hne hb' => ?_⟩
            obtain ⟨r1, r2⟩ := hlive o'' y' hy'
            exact h.ins2 o _ o'' y' ho r2 (fun e => hne e.symm) b hb hb'
        · cases hb
      · split
        · rename_i hdd
          obtain ⟨q1, q2⟩ := hbN2 hdd
          exact flatB_nodup q1 q2
        · simp)
  refine ⟨G', ?_⟩
  rw [applyD_eq]
  exact key.putO hd (.dead _)
end
end Go.Proofs.Ythjkpphjlmmkdaa.Vai
