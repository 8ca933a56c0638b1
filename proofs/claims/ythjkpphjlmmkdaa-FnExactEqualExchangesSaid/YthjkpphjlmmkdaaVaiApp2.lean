/- append, as the interpreter tells it; no condition. -/
import Derived.Test.YthjkpphjlmmkdaaVaiApp
namespace Go.Proofs.Ythjkpphjlmmkdaa.Vai
open Go

theorem flatB_nodup_inv {bs : Nat → Nat → List Nat} {n sz : Nat} (h : (flatB bs n sz).Nodup) :
    (∀ j i, j < n → i < sz → (bs j i).Nodup) ∧ ∀ j i j' i', j < n → i < sz → j' < n → i' < sz → ¬ (j = j' ∧ i = i') → ∀ b ∈ bs j i, b ∉ bs j' i' := by
  have key : ∀ (n : Nat) (f : Nat → List Nat), ((List.range n).flatMap f).Nodup → (∀ x, x < n → (f x).Nodup) ∧ ∀ x y, x < n → y < n → x ≠ y → ∀ b ∈ f x, b ∉ f y := by
    intro n f h
    induction n with
    | zero => exact ⟨fun x hx => by omega, fun x y hx => by omega⟩
    | succ n ih =>
      rw [List.range_succ, List.flatMap_append, List.nodup_append] at h
      obtain ⟨h1, h2, h3⟩ := h
      obtain ⟨i1, i2⟩ := ih h1
      simp only [List.flatMap_cons, List.flatMap_nil, List.append_nil] at h2 h3
      have hx : ∀ x, x < n → ∀ b ∈ f x, b ∉ f n := fun x hx b hb hb' => h3 b (List.mem_flatMap.mpr ⟨x, List.mem_range.mpr hx, hb⟩) b hb' rfl
      refine ⟨fun x hxn => ?_, fun x y hxn hyn hne b hb hb' => ?_⟩
      · by_cases e : x = n
        · subst e; exact h2
        · exact i1 x (by omega)
      · by_cases e : x = n
        · subst e; exact hx y (by omega) b hb' hb
        · by_cases e' : y = n
          · subst e'; exact hx x (by omega) b hb hb'
          · exact i2 x y (by omega) (by omega) hne b hb hb'
  obtain ⟨k1, k2⟩ := key n _ h
  refine ⟨fun j i hj hi => (key sz _ (k1 j hj)).1 i hi, fun j i j' i' hj hi hj' hi' hne b hb hb' => ?_⟩
  by_cases e : j = j'
  · subst e
    exact (key sz _ (k1 j hj)).2 i i' hi hi' (fun e => hne ⟨rfl, e⟩) b hb hb'
  · exact k2 j j' hj hj' e b (List.mem_flatMap.mpr ⟨i, List.mem_range.mpr hi, hb⟩) (List.mem_flatMap.mpr ⟨i', List.mem_range.mpr hi', hb'⟩)
theorem flatMap_congr' {α β : Type} {f g : α → List β} {l : List α} (h : ∀ x ∈ l, f x = g x) : l.flatMap f = l.flatMap g := by
  induction l with
  | nil => rfl
  | cons x l ih =>
    simp only [List.flatMap_cons]
    rw [h x (by simp), ih (fun y hy => h y (List.mem_cons_of_mem _ hy))]
theorem flatB_congr {bs bs' : Nat → Nat → List Nat} {n sz : Nat} (h : ∀ j i, j < n → i < sz → bs j i = bs' j i) : flatB bs n sz = flatB bs' n sz :=
  flatMap_congr' fun j hj => flatMap_congr' fun i hi => h j i (List.mem_range.mp hj) (List.mem_range.mp hi)
def clip (n sz : Nat) (bs : Nat → Nat → List Nat) : Nat → Nat → List Nat := fun j i => if j < n ∧ i < sz then bs j i else []
theorem mem_clip {n sz : Nat} {bs : Nat → Nat → List Nat} {j i b : Nat} (h : b ∈ clip n sz bs j i) : j < n ∧ i < sz ∧ b ∈ bs j i := by
  unfold clip at h
  split at h
  · rename_i hc; exact ⟨hc.1, hc.2, h⟩
  · cases h
theorem clip_in {n sz : Nat} {bs : Nat → Nat → List Nat} {j i : Nat} (hj : j < n) (hi : i < sz) : clip n sz bs j i = bs j i := by simp [clip, hj, hi]
theorem clip_nodup {n sz : Nat} {bs : Nat → Nat → List Nat} (h : (flatB bs n sz).Nodup) : (∀ j i, (clip n sz bs j i).Nodup) ∧ ∀ j i j' i', ¬ (j = j' ∧ i = i') → ∀ b ∈ clip n sz bs j i, b ∉ clip n sz bs j' i' := by
  obtain ⟨h1, h2⟩ := flatB_nodup_inv h
  refine ⟨fun j i => ?_, fun j i j' i' hne b hb hb' => ?_⟩
  · unfold clip
    split
    · rename_i hc; exact h1 j i hc.1 hc.2
    · simp
  · obtain ⟨a1, a2, a3⟩ := mem_clip hb
    obtain ⟨b1, b2, b3⟩ := mem_clip hb'
    exact h2 j i j' i' a1 a2 b1 b2 hne b a3 b3

section
variable {P : Program} {E : Env} {base : Nat} {M : List Nat} {S0 : Nat → Prop} {R0 : Id → Value} {w0 : World} {nt : Nat} {G : Gh} {st : St} {a : Act} {w : World} {look : Look}

/-- a window of a live row object, as append's first argument -/
theorem RelG.dst_row (h : RelG E base M S0 R0 w0 nt G st a w) {o : Id} {e : TypeId} {te : TI} (hte : E.T e = some te) {rows : List (List Dat)} {dp : Bool} {vr : Nat} (ho : getO st.ob o = some (.row e rows dp vr []))
    {lo n : Int} {v : Value} (hw : Win te.ls.length rows.length (G.root o) lo n v) :
    DstR E w (fun b => S0 b ∨ b ∈ G.F) (fun b => b ∈ G.ins o) (fun b => b ∈ G.top o) e te ((rows.drop lo.toNat).take n.toNat) dp v := by
  obtain ⟨te', h1, h2, h3⟩ := (h.objs o _ ho : RowR E w _ e rows dp [] _ _ _)
  rw [hte] at h1; cases h1
  have nohole : ∀ j i, ¬ isHole [] j i := fun j i hh => by obtain ⟨r, hr, _⟩ := hh; cases hr
  obtain ⟨q0, q1, q2, A', c', rfl, q3⟩ := hw
  have hlen : ((rows.drop lo.toNat).take n.toNat).length = n.toNat := by simp; omega
  have hget : ∀ (j : Nat) (r : List Dat), ((rows.drop lo.toNat).take n.toNat)[j]? = some r → rows[lo.toNat + j]? = some r := fun j r hj => by
    rw [List.getElem?_take] at hj
    split at hj
    · rwa [List.getElem?_drop] at hj
    · cases hj
  rcases h3 with ⟨h3, rfl, h4, h5⟩ | ⟨g, off, c, arr, u, bs, a1, a2, a3, a4, a5, a6, a7, a8, a9, a10⟩
  · rw [h3] at q3
    obtain ⟨rfl, rfl, _⟩ := q3
    have hn : n.toNat = 0 := by simp at q2; omega
    rw [hn]
    exact .inl ⟨rfl, by simp⟩
  · rw [a1] at q3
    simp only at q3
    obtain ⟨off', rfl, q4, q5, q6, q7⟩ := q3
    have hins := h.ins o _ ho
    refine .inr ⟨g, off', c', arr, fun j i => u (lo.toNat + j) i, if dp then fun j i => clip rows.length te.ls.length bs (lo.toNat + j) i else fun _ _ => [], by rw [hlen], by rw [a2]; simp, a3, by rw [hlen]; exact q5, by omega, fun j i hj hi => ?_,
      ⟨fun j r hj => h2 _ r (hget j r hj), fun j i r l hj hl => ?_, fun hd j i r l hj hl => ?_, fun j i b hb => ?_, fun j i => ?_, fun j i j' i' hne b hb hb' => ?_⟩⟩
    · rw [hlen] at hj
      have hoff : off' = off + lo.toNat * te.ls.length := q6.resolve_left (by omega)
      rw [← (a6 (lo.toNat + j) i (by omega) hi).1, hoff, Nat.add_mul]
      congr 1
      omega
    · have := a7 (lo.toNat + j) i r l (hget j r hj) hl (nohole _ i)
      cases dp with
      | false => simpa using this
      | true =>
        simp only [if_true] at this
        refine this.rd fun b hb => .inr (hins.1 b ?_)
        rw [a8 rfl]
        exact mem_flatB.mpr ⟨_, i, (List.getElem?_eq_some_iff.mp (hget j r hj)).1, (List.getElem?_eq_some_iff.mp hl).1, hb⟩
    · subst hd
      have := a7 (lo.toNat + j) i r l (hget j r hj) hl (nohole _ i)
      simp only [if_true] at this ⊢
      rw [clip_in (List.getElem?_eq_some_iff.mp (hget j r hj)).1 (List.getElem?_eq_some_iff.mp hl).1]
      exact this
    · cases dp with
      | false => simp at hb
      | true =>
        simp only [if_true] at hb
        obtain ⟨c1, c2, c3⟩ := mem_clip hb
        rw [a8 rfl]
        exact mem_flatB.mpr ⟨_, i, c1, c2, c3⟩
    · cases dp with
      | false => simp
      | true =>
        have hnd : (flatB bs rows.length te.ls.length).Nodup := by have := hins.2; rwa [a8 rfl] at this
        simp only [if_true]
        exact (clip_nodup hnd).1 _ _
    · cases dp with
      | false => simp at hb
      | true =>
        have hnd : (flatB bs rows.length te.ls.length).Nodup := by have := hins.2; rwa [a8 rfl] at this
        simp only [if_true] at hb hb'
        exact (clip_nodup hnd).2 _ _ _ _ (fun ⟨e1, e2⟩ => hne ⟨by omega, e2⟩) b hb hb'
theorem SrcR.of_give {e : TypeId} {te : TI} (hte : E.T e = some te) {ids : List Id} {deep : Bool} {d : Dat} {v : Value} {bs : List Nat} (h : GiveR E w S0 G ids deep (.sl e) d v bs) :
    SrcR E w (SOf S0 G ids) (DOf G ids) te d.rows deep v := by
  have hrd := h.rd
  cases deep with
  | false =>
    cases hrd with
    | sl _ te' _ A c u ht hc hl hm hr =>
      rw [hte] at ht; cases ht
      exact ⟨A, c, u, fun _ _ => [], rfl, hc, fun j i hj hi => by
        obtain ⟨ad, q1, q2, q3, q4⟩ := hm j i hj hi
        exact ⟨ad, q1, q2, q4⟩, ⟨hl, hr, (fun h => by cases h), (fun _ _ _ hb => by cases hb), (fun _ _ => by simp), (fun _ _ _ _ _ _ hb => by cases hb)⟩⟩
  | true =>
    have hot := h.ot rfl
    have hsub := h.sub
    have hnd := h.nodup
    cases hot with
    | nil _ te' _ ht hd =>
      rw [hd]
      exact ⟨none, 0, fun _ _ => undef, fun _ _ => [], rfl, Nat.le_refl _, fun j i hj => by simp at hj, ⟨(fun j r hj => by simp at hj), (fun j i r l hj => by simp at hj), (fun _ j i r l hj => by simp at hj), (fun _ _ _ hb => by cases hb), (fun _ _ => by simp), (fun _ _ _ _ _ _ hb => by cases hb)⟩⟩
    | row _ te' _ g off c arr u bs ht hb hc hs hl hm hr =>
      rw [hte] at ht; cases ht
      have hnd' := (List.nodup_cons.mp hnd).2
      refine ⟨_, c, u, clip d.rows.length te.ls.length bs, rfl, hc, fun j i hj hi => ⟨_, rfl, rfl, ?_⟩, ⟨hl, fun j i r l hj hl' => ?_, fun _ j i r l hj hl' => ?_, fun j i b hb => ?_, (clip_nodup hnd').1, (clip_nodup hnd').2⟩⟩
      · simp only [World.cell?, hb]
        simpa using hm j i hj hi
      · generalize hn : d.rows.length = n0 at hrd
        cases hrd with
        | sl _ te2 _ _ _ u2 ht2 hc2 hl2 hm2 hr2 =>
          rw [hte] at ht2; cases ht2
          have hj' := (List.getElem?_eq_some_iff.mp hj).1
          have hi' := (List.getElem?_eq_some_iff.mp hl').1
          obtain ⟨ad, q1, q2, q3, q4⟩ := hm2 j i hj' hi'
          cases q1
          have : u2 j i = u j i := by
            simp only [World.cell?, hb] at q4
            have := hm j i hj' hi'
            simp at q4
            rw [q4] at this
            exact Option.some.inj this
          rw [← this]
          exact hr2 j i r l hj hl'
      · rw [clip_in (List.getElem?_eq_some_iff.mp hj).1 (List.getElem?_eq_some_iff.mp hl').1]
        exact hr j i r l hj hl'
      · obtain ⟨c1, c2, c3⟩ := mem_clip hb
        exact hsub b (List.mem_cons_of_mem _ (mem_flatB.mpr ⟨j, i, c1, c2, c3⟩))
theorem hasSl_false {ls : List Leaf} (h : hasSl ls = false) : ∀ (i : Nat) (l : Leaf), ls[i]? = some l → ∀ e, l ≠ .sl e := by
  induction ls with
  | nil => intro i l hl; simp at hl
  | cons l0 ls ih =>
    intro i l hl e he
    subst he
    cases i with
    | zero => simp at hl; subst hl; cases h
    | succ i =>
      cases l0 <;> simp only [hasSl] at h <;> first | cases h | exact ih h i _ (by simpa using hl) e rfl
theorem SrcR.of_scal {e : TypeId} {te : TI} (hte : E.T e = some te) (hs : hasSl te.ls = false) {S : Nat → Prop} {d : Dat} {v : Value} (h : RD E w S (.sl e) d v) (S' D : Nat → Prop) : SrcR E w S' D te d.rows true v := by
  cases h with
  | sl _ te' _ A c u ht hc hl hm hr =>
    rw [hte] at ht; cases ht
    have ot : ∀ (j i : Nat) (r : List Dat) (l : Leaf), d.rows[j]? = some r → te.ls[i]? = some l → OT E w l (r.getD i default) (u j i) [] := fun j i r l hj hl' => by
      have := hr j i r l hj hl'
      generalize u j i = x at this
      cases this with
      | int k d => exact .int k _
      | bool d => exact .bool _
      | str d => exact .str _
      | sl e1 => exact absurd rfl (hasSl_false hs i _ hl' e1)
    exact ⟨A, c, u, fun _ _ => [], rfl, hc, fun j i hj hi => by
      obtain ⟨ad, q1, q2, q3, q4⟩ := hm j i hj hi
      exact ⟨ad, q1, q2, q4⟩, ⟨hl, fun j i r l hj hl' => (ot j i r l hj hl').rd (fun _ hb => by cases hb), fun _ => ot, (fun _ _ _ hb => by cases hb), (fun _ _ => by simp), (fun _ _ _ _ _ _ hb => by cases hb)⟩⟩

/-- what owns the memory and what is read of it are one -/
theorem OT.of_rd {S : Nat → Prop} {l : Leaf} {d : Dat} {v : Value} {bs : List Nat} (h : OT E w l d v bs) : ∀ {d' : Dat}, RD E w S l d' v → OT E w l d' v bs := by
  induction h with
  | int k d =>
    intro d' hr
    generalize hv : Value.int k d.n = v at hr
    cases hr with
    | int _ d' => exact .int k d'
  | bool d =>
    intro d' hr
    generalize hv : Value.bool d.b = v at hr
    cases hr with
    | bool d' => exact .bool d'
  | str d =>
    intro d' hr
    generalize hv : Value.string d.s = v at hr
    cases hr with
    | str d' => exact .str d'
  | nil e te d ht hd =>
    intro d' hr
    generalize hv : Value.slice none 0 0 = v at hr
    cases hr with
    | sl _ te' d' A c u ht' hc hl hm hr' =>
      injection hv with h1 h2 h3
      subst h1; subst h3
      rw [← h2]
      exact .nil e te d' ht (List.length_eq_zero_iff.mp h2.symm)
  | row e te d g off c arr u bs ht hb hc hs hl hm hr ih =>
    intro d' hrd
    generalize hv : Value.slice (some ⟨g, off, none⟩) d.rows.length c = v at hrd
    cases hrd with
    | sl _ te' d' A c' u' ht' hc' hl' hm' hr' =>
      injection hv with h1 h2 h3
      subst h1; subst h3
      rw [ht] at ht'; cases ht'
      rw [h2]
      refine .row e te d' g off c arr u bs ht hb hc' hs hl' (fun j i hj hi => hm j i (by omega) hi) (fun j i r l hj hl2 => ?_)
      have hj' := (List.getElem?_eq_some_iff.mp hj).1
      have hi' := (List.getElem?_eq_some_iff.mp hl2).1
      have hjd : j < d.rows.length := by omega
      have hu : u' j i = u j i := by
        obtain ⟨ad, q1, q2, q3, q4⟩ := hm' j i hj' hi'
        cases q1
        simp only [World.cell?, hb] at q4
        have := hm j i hjd hi'
        simp at q4
        rw [q4] at this
        exact Option.some.inj this
      have := hr' j i r l hj hl2
      rw [hu] at this
      exact ih j i _ l (List.getElem?_eq_getElem hjd) hl2 this

/-- the tree of a window, for a tree that is told in full -/
theorem OT.window {e : TypeId} {te : TI} (hte : E.T e = some te) {rows : List (List Dat)} {x v : Value} {bs : List Nat} (h : OT E w (.sl e) (.sl rows) x bs) (hnd : bs.Nodup) {lo n : Int} (hw : Win te.ls.length rows.length x lo n v) :
    ∃ bs', OT E w (.sl e) (.sl ((rows.drop lo.toNat).take n.toNat)) v bs' ∧ bs'.Nodup ∧ ∀ b ∈ bs', b ∈ bs := by
  obtain ⟨q0, q1, q2, A', c', rfl, q3⟩ := hw
  have hlen : ((rows.drop lo.toNat).take n.toNat).length = n.toNat := by simp; omega
  have hget : ∀ (j : Nat) (r : List Dat), ((rows.drop lo.toNat).take n.toNat)[j]? = some r → rows[lo.toNat + j]? = some r := fun j r hj => by
    rw [List.getElem?_take] at hj
    split at hj
    · rwa [List.getElem?_drop] at hj
    · cases hj
  cases h with
  | nil _ te' _ ht hd =>
    simp only at q3
    obtain ⟨rfl, rfl, _⟩ := q3
    have hd : rows = [] := hd
    have hn : n.toNat = 0 := by rw [hd] at q2; simp at q2; omega
    rw [hn]
    exact ⟨[], .nil e te' _ ht (by simp [Dat.rows]), by simp, fun b hb => by cases hb⟩
  | row _ te' _ g off c arr u bs ht hb hc hs hl hm hr =>
    rw [hte] at ht; cases ht
    simp only at q3
    simp only [Dat.rows] at hc hl hm hr hnd q3 ⊢
    obtain ⟨m1, m2⟩ := List.nodup_cons.mp hnd
    obtain ⟨off', rfl, q4, q5, q6, q7⟩ := q3
    refine ⟨g :: flatB (fun j i => bs (lo.toNat + j) i) n.toNat te.ls.length, ?_, ?_, fun b hb => ?_⟩
    · have := OT.row (E := E) (w := w) e te (.sl ((rows.drop lo.toNat).take n.toNat)) g off' c' arr (fun j i => u (lo.toNat + j) i) (fun j i => bs (lo.toNat + j) i) hte hb (by simpa [Dat.rows, hlen] using q5) (by omega)
        (fun j r hj => hl _ r (hget j r hj)) (fun j i hj hi => by
          simp only [Dat.rows, hlen] at hj
          have hoff : off' = off + lo.toNat * te.ls.length := q6.resolve_left (by omega)
          rw [← hm (lo.toNat + j) i (by omega) hi, hoff, Nat.add_mul]
          congr 1
          omega) (fun j i r l hj hl => hr (lo.toNat + j) i r l (hget j r hj) hl)
      simpa [Dat.rows, hlen] using this
    · rw [List.nodup_cons]
      refine ⟨fun hb => m1 ?_, flatB_nodup_win m2 (by omega)⟩
      obtain ⟨j, i, hj, hi, hm⟩ := mem_flatB.mp hb
      exact mem_flatB.mpr ⟨lo.toNat + j, i, by omega, hi, hm⟩
    · rcases List.mem_cons.mp hb with rfl | hb
      · simp
      · obtain ⟨j, i, hj, hi, hm⟩ := mem_flatB.mp hb
        exact List.mem_cons_of_mem _ (mem_flatB.mpr ⟨lo.toNat + j, i, by omega, hi, hm⟩)

theorem flatB_sub {bs bs' : Nat → Nat → List Nat} {n sz : Nat} (h : ∀ j i, j < n → i < sz → ∀ b ∈ bs' j i, b ∈ bs j i) : ∀ b ∈ flatB bs' n sz, b ∈ flatB bs n sz := fun b hb => by
  obtain ⟨j, i, hj, hi, hm⟩ := mem_flatB.mp hb
  exact mem_flatB.mpr ⟨j, i, hj, hi, h j i hj hi b hm⟩
/-- a cell of a deep row is taken out: a hole stays -/
theorem RelG.hole (h : RelG E base M S0 R0 w0 nt G st a w) (hT : numbT st.tm = st.tm) (hO : NumbO st.ob) {o : Id} {eo : TypeId} {teo : TI} (hteo : E.T eo = some teo) {rows : List (List Dat)} {vr : Nat} {holes : List (Int × Nat)}
    (ho : getO st.ob o = some (.row eo rows true vr holes)) {row : Int} (_hr0 : 0 ≤ row) {col : Nat} {e : TypeId} (hcol : teo.ls[col]? = some (.sl e)) {r : List Dat} (hrow : rows[row.toNat]? = some r) (hnh : ∀ q, (q, col) ∉ holes)
    {g o0 n cc : Nat} {x : Value} (hroot : G.root o = .slice (some ⟨g, o0, none⟩) n cc) (hcell : w.cell? ⟨g, o0 + (row.toNat * teo.ls.length + col), none⟩ = some x) :
    ∃ G2 bsC, RelG E base M S0 R0 w0 nt G2 { st with ob := setO st.ob o (.row eo rows true vr ((row, col) :: holes)) } a w ∧ OT E w (.sl e) (r.getD col default) x bsC ∧ bsC.Nodup ∧
      (∀ b ∈ bsC, b ∈ G.ins o ∧ b ∉ G2.F ∧ ∀ o' y, getO (setO st.ob o (.row eo rows true vr ((row, col) :: holes))) o' = some y → b ∉ G2.top o' ∧ b ∉ G2.ins o') ∧
      (∀ b ∈ G.F, b ∈ G2.F ∨ b ∈ bsC) ∧ (∀ b ∈ G2.F, b ∈ G.F) ∧ (∀ o', G2.root o' = G.root o' ∧ G2.top o' = G.top o') ∧ (∀ o', o' ≠ o → G2.ins o' = G.ins o') ∧ (∀ b ∈ G2.ins o, b ∈ G.ins o) := by
  obtain ⟨te', b1, b2, b3⟩ := (h.objs o _ ho : RowR E w _ eo rows true holes _ _ _)
  rw [hteo] at b1; cases b1
  rcases b3 with ⟨b3, _⟩ | ⟨g', off, c, arr, u, bs, a1, a2, a3, a4, a5, a6, a7, a8, a9, a10⟩
  · rw [b3] at hroot; cases hroot
  · rw [a1] at hroot
    injection hroot with e1 e2 e3
    injection e1 with e1
    injection e1 with e1 e4 _
    subst e1; subst e4; subst e2; subst e3
    have hj := (List.getElem?_eq_some_iff.mp hrow).1
    have hi := (List.getElem?_eq_some_iff.mp hcol).1
    have hx : u row.toNat col = x := by
      have := (a6 row.toNat col hj hi).1
      simp only [World.cell?, a3] at hcell
      simp at hcell
      rw [hcell] at this
      exact (Option.some.inj this).symm
    have hnoh : ¬ isHole holes row.toNat col := fun ⟨q, hq, _⟩ => hnh q hq
    have hot := a7 row.toNat col r _ hrow hcol hnoh
    simp only [if_true] at hot
    rw [hx] at hot
    have hins := h.ins o _ ho
    have hndo := hins.2
    rw [a8 rfl] at hndo
    obtain ⟨f1, f2⟩ := flatB_nodup_inv hndo
    let bs' : Nat → Nat → List Nat := fun j i => if j = row.toNat ∧ i = col then [] else bs j i
    let G1 : Gh := { G with ins := fun o' => if o' = o then flatB bs' rows.length teo.ls.length else G.ins o' }
    have hsub : ∀ b ∈ flatB bs' rows.length teo.ls.length, b ∈ G.ins o ∧ b ∉ bs row.toNat col := fun b hb => by
      obtain ⟨j, i, q1, q2, q3⟩ := mem_flatB.mp hb
      simp only [bs'] at q3
      split at q3
      · cases q3
      · rename_i hne
        exact ⟨by rw [a8 rfl]; exact mem_flatB.mpr ⟨j, i, q1, q2, q3⟩, f2 j i _ _ q1 q2 hj hi hne b q3⟩
    have hcolins : ∀ b ∈ bs row.toNat col, b ∈ G.ins o := fun b hb => by rw [a8 rfl]; exact mem_flatB.mpr ⟨_, _, hj, hi, hb⟩
    have hnd' : (flatB bs' rows.length teo.ls.length).Nodup := by
      have hbs' : ∀ j i, bs' j i = if j = row.toNat ∧ i = col then [] else bs j i := fun _ _ => rfl
      have e0 : flatB bs' rows.length teo.ls.length = flatB (clip rows.length teo.ls.length bs') rows.length teo.ls.length := by
        exact flatB_congr fun j i hj hi => (clip_in hj hi).symm
      rw [e0]
      refine flatB_nodup (fun j i => ?_) (fun j i j' i' hne b hb hb' => ?_)
      · unfold clip
        split
        · rename_i hc
          rw [hbs']
          split
          · simp
          · exact f1 j i hc.1 hc.2
        · simp
      · obtain ⟨p1, p2, p3⟩ := mem_clip hb
        obtain ⟨p4, p5, p6⟩ := mem_clip hb'
        rw [hbs'] at p3 p6
        split at p3
        · cases p3
        · split at p6
          · cases p6
          · exact f2 j i j' i' p1 p2 p4 p5 hne b p3 p6
    have hc : Comp (fun _ => False) E w S0 G st.ob w G1 (setO st.ob o (.row eo rows true vr ((row, col) :: holes))) := by
      refine ⟨fun _ _ => rfl, fun b hb => ⟨rfl, hb⟩, fun o' t cells _ hg => ?_, fun o' e' rows' dp' vr' h' _ hg => ?_⟩
      · rw [getO_setO] at hg
        split at hg
        · cases hg
        · exact ⟨rfl, t, cells, hg⟩
      · rw [getO_setO] at hg
        split at hg
        · rename_i e0
          subst e0
          cases hg
          exact ⟨rfl, rows, true, vr, holes, ho, rfl, Nat.le_refl _, fun _ _ => ⟨rfl, fun y hy => List.mem_cons_of_mem _ hy, fun te j r hte' hj' => ⟨r, hj', fun _ _ _ _ => ⟨rfl, fun _ _ _ _ _ => rfl⟩⟩⟩⟩
        · exact ⟨rfl, rows', dp', vr', h', hg, rfl, Nat.le_refl _, fun hd _ => ⟨hd, fun _ hx => hx, fun te j r hte' hj' => ⟨r, hj', fun _ _ _ _ => ⟨rfl, fun _ _ _ _ _ => rfl⟩⟩⟩⟩
    have h1 := h.upd o _ (.row eo rows true vr ((row, col) :: holes)) ho G1 h.kept (Nat.le_refl _) (fun _ _ => rfl) (fun b hb => ⟨rfl, hb⟩) (fun _ _ _ _ _ _ => rfl) (fun o' hne => ⟨rfl, rfl, by simp [G1, hne]⟩) rfl (fun b hb => .inl hb) hc
      (by
        simp only [ObjR, G1, if_true]
        refine ⟨teo, hteo, b2, .inr ⟨g', off, c, arr, u, bs', a1, a2, a3, a4, a5, a6, fun j i r' l hj' hl hh => ?_, fun _ => rfl, (fun h => by cases h), fun j i hh => ?_⟩⟩
        · have h1 : ¬ isHole holes j i := fun ⟨q, hq, hq'⟩ => hh ⟨q, List.mem_cons_of_mem _ hq, hq'⟩
          have h2 : ¬ (j = row.toNat ∧ i = col) := fun ⟨e1, e2⟩ => hh ⟨row, by rw [e2]; simp, e1.symm⟩
          have := a7 j i r' l hj' hl h1
          simp only [if_true] at this ⊢
          simp only [bs', if_neg h2]
          exact this
        · simp only [bs']
          split
          · rfl
          · rename_i hne
            obtain ⟨q, hq, hq'⟩ := hh
            rcases List.mem_cons.mp hq with hq | hq
            · cases hq; exact absurd ⟨hq'.symm, rfl⟩ hne
            · exact a10 j i ⟨q, hq, hq'⟩)
      (by
        simp only [G1, if_true]
        exact ⟨fun b hb => ⟨hins.1 b (hsub b hb).1, fun o' x' hx' hne hb' => h.ins2 o _ o' x' ho hx' (fun e => hne e.symm) b (hsub b hb).1 hb'⟩, hnd'⟩)
    have hnumb : NumbO (setO st.ob o (.row eo rows true vr ((row, col) :: holes))) := hO.set o rfl
    have h2 := h1.numb (G.F.filter fun b => !(bs row.toNat col).contains b) (fun b hb => (List.mem_filter.mp hb).1) (fun o' e' rows' v' hh hg b hb => by
      have hg' := hg
      simp only [G1] at hb
      rw [getO_setO] at hg
      split at hg
      · rename_i e0
        rw [if_pos e0] at hb
        obtain ⟨q1, q2⟩ := hsub b hb
        exact List.mem_filter.mpr ⟨hins.1 b q1, by simpa using q2⟩
      · rename_i e0
        rw [if_neg e0] at hb
        exact List.mem_filter.mpr ⟨(h.ins o' _ hg).1 b hb, by simpa using fun hb' => h.ins2 o _ o' _ ho hg (fun e => e0 e.symm) b (hcolins b hb') hb⟩)
    simp only [hT, hnumb.eq] at h2
    refine ⟨_, bs row.toNat col, h2, hot, f1 _ _ hj hi, fun b hb => ⟨hcolins b hb, fun hb' => ?_, fun o' y hy => ⟨fun hb' => ?_, fun hb' => ?_⟩⟩, fun b hb => ?_, fun b hb => (List.mem_filter.mp hb).1, fun o' => ⟨rfl, rfl⟩, fun o' hne => by simp [Gh.withF, G1, hne], fun b hb => ?_⟩
    · have := (List.mem_filter.mp hb').2
      simp at this
      exact this hb
    · have hy' : ∃ z, getO st.ob o' = some z := by
        rw [getO_setO] at hy
        split at hy
        · rename_i e0; subst e0; exact ⟨_, ho⟩
        · exact ⟨y, hy⟩
      obtain ⟨z, hz⟩ := hy'
      exact (h.tops o' z hz b hb').2.1 (hins.1 b (hcolins b hb))
    · simp only [Gh.withF, G1] at hb'
      split at hb'
      · exact (hsub b hb').2 hb
      · rename_i e0
        rw [getO_setO, if_neg e0] at hy
        exact h.ins2 o _ o' y ho hy (fun e => e0 e.symm) b (hcolins b hb) hb'
    · by_cases hb' : b ∈ bs row.toNat col
      · exact .inr hb'
      · exact .inl (List.mem_filter.mpr ⟨hb, by simpa using hb'⟩)
    · simp only [Gh.withF, G1, if_true] at hb
      exact (hsub b hb).1
end
end Go.Proofs.Ythjkpphjlmmkdaa.Vai
