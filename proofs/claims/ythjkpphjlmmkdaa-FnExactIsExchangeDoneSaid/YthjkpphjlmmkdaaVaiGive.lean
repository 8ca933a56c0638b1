/- Values handed over into a row: what they read, what they own; no condition. -/
import Derived.Test.YthjkpphjlmmkdaaVaiOps5
namespace Go.Proofs.Ythjkpphjlmmkdaa.Vai
open Go

theorem memId_iff {o : Id} {l : List Id} : memId o l = true ↔ o ∈ l := by
  induction l with
  | nil => simp [memId]
  | cons p l ih =>
    simp only [memId, List.mem_cons]
    cases h : idEq o p with
    | true => simp [idEq_iff.mp h]
    | false => simp [idEq_false.mp h, ih]
theorem memId_false {o : Id} {l : List Id} : memId o l = false ↔ o ∉ l := by rw [← Bool.not_eq_true, memId_iff]
theorem nodupId_iff {l : List Id} : nodupId l = true ↔ l.Nodup := by
  induction l with
  | nil => simp [nodupId]
  | cons p l ih =>
    simp only [nodupId, List.nodup_cons]
    cases h : memId p l with
    | true => simp [memId_iff.mp h]
    | false => simp [memId_false.mp h, ih]
theorem flatB_add (bs : Nat → Nat → List Nat) (a b sz : Nat) : flatB bs (a + b) sz = flatB bs a sz ++ flatB (fun j i => bs (a + j) i) b sz := by
  simp [flatB, List.range_add, List.flatMap_append, List.flatMap_map]
theorem flatB_nodup_win {bs : Nat → Nat → List Nat} {m sz lo n : Nat} (h : (flatB bs m sz).Nodup) (hle : lo + n ≤ m) : (flatB (fun j i => bs (lo + j) i) n sz).Nodup := by
  obtain ⟨k, rfl⟩ := Nat.exists_eq_add_of_le hle
  rw [flatB_add, List.nodup_append] at h
  rw [flatB_add, List.nodup_append] at h
  exact h.1.2.1

section
variable {P : Program} {E : Env} {base : Nat} {M : List Nat} {S0 : Nat → Prop} {R0 : Id → Value} {w0 : World} {nt : Nat} {G : Gh} {st : St} {a : Act} {w : World} {look : Look}

/-- what a value handed over comes with -/
structure GiveR (E : Env) (w : World) (S0 : Nat → Prop) (G : Gh) (ids : List Id) (deep : Bool) (l : Leaf) (d : Dat) (v : Value) (bs : List Nat) : Prop where
  rd : RD E w (fun b => S0 b ∨ b ∈ G.F ∨ ∃ o ∈ ids, b ∈ G.top o) l d v
  ot : deep = true → OT E w l d v bs
  sub : ∀ b ∈ bs, ∃ o ∈ ids, b ∈ G.top o ∨ b ∈ G.ins o
  nodup : bs.Nodup

/-- two live objects have nothing in common -/
theorem RelG.apart (h : RelG E base M S0 R0 w0 nt G st a w) {o o' : Id} {x x' : Obj} (ho : getO st.ob o = some x) (ho' : getO st.ob o' = some x') (hne : o ≠ o') {b : Nat}
    (hb : b ∈ G.top o ∨ b ∈ G.ins o) (hb' : b ∈ G.top o' ∨ b ∈ G.ins o') : False := by
  rcases hb with hb | hb <;> rcases hb' with hb' | hb'
  · exact h.tops2 o x o' x' ho ho' hne b hb hb'
  · exact (h.tops o x ho b hb).2.1 ((h.ins o' x' ho').1 b hb')
  · exact (h.tops o' x' ho' b hb').2.1 ((h.ins o x ho).1 b hb)
  · exact h.ins2 o x o' x' ho ho' hne b hb hb'

/-- a row object whole: its tree -/
theorem RelG.row_ot (h : RelG E base M S0 R0 w0 nt G st a w) {o : Id} {e : TypeId} {rows : List (List Dat)} {vr : Nat} (ho : getO st.ob o = some (.row e rows true vr [])) :
    OT E w (.sl e) (.sl rows) (G.root o) (G.top o ++ G.ins o) ∧ (G.top o ++ G.ins o).Nodup := by
  obtain ⟨te, h1, h2, h3⟩ := (h.objs o _ ho : RowR E w _ e rows true [] _ _ _)
  have nohole : ∀ j i, ¬ isHole [] j i := fun j i hh => by obtain ⟨r, hr, _⟩ := hh; cases hr
  rcases h3 with ⟨h3, rfl, h4, h5⟩ | ⟨g, off, c, arr, u, bs, a1, a2, a3, a4, a5, a6, a7, a8, a9, a10⟩
  · rw [h3, h4, h5]
    exact ⟨.nil e te _ h1 rfl, by simp⟩
  · have hins := h.ins o _ ho
    have htop := h.tops o _ ho
    rw [a1, a2, a8 rfl] at *
    refine ⟨?_, ?_⟩
    · have := OT.row (E := E) (w := w) e te (.sl rows) g off c arr u bs h1 a3 a4 a5 h2 (fun j i hj hi => (a6 j i hj hi).1) (fun j i r l hj hl => by simpa using a7 j i r l hj hl (nohole j i))
      simpa [Dat.rows] using this
    · simp only [List.singleton_append, List.nodup_cons]
      exact ⟨fun hb => (htop g (by simp)).2.1 (hins.1 g hb), hins.2⟩
/-- a window of a row object: its tree -/
theorem RelG.row_ot_win (h : RelG E base M S0 R0 w0 nt G st a w) {o : Id} {e : TypeId} {te : TI} (hte : E.T e = some te) {rows : List (List Dat)} {vr : Nat} (ho : getO st.ob o = some (.row e rows true vr []))
    {lo n : Int} {v : Value} (hw : Win te.ls.length rows.length (G.root o) lo n v) :
    ∃ bs, OT E w (.sl e) (.sl ((rows.drop lo.toNat).take n.toNat)) v bs ∧ bs.Nodup ∧ ∀ b ∈ bs, b ∈ G.top o ∨ b ∈ G.ins o := by
  obtain ⟨te', h1, h2, h3⟩ := (h.objs o _ ho : RowR E w _ e rows true [] _ _ _)
  rw [hte] at h1; cases h1
  have nohole : ∀ j i, ¬ isHole [] j i := fun j i hh => by obtain ⟨r, hr, _⟩ := hh; cases hr
  obtain ⟨q0, q1, q2, A', c', rfl, q3⟩ := hw
  have hlen : ((rows.drop lo.toNat).take n.toNat).length = n.toNat := by simp; omega
  have hget : ∀ (j : Nat) (r : List Dat), ((rows.drop lo.toNat).take n.toNat)[j]? = some r → rows[lo.toNat + j]? = some r := fun j r hj => by
    rw [List.getElem?_take] at hj
    split at hj
    · rwa [List.getElem?_drop] at hj
    · cases hj
  rcases h3 with ⟨h3, rfl, h4, h5⟩ | ⟨g, off, c, arr, u, bs, a1, a2, a3, a4, a5, a6, a7, a8, a9, a10⟩
  · rw [h3] at q3
    obtain ⟨rfl, rfl, _⟩ := q3
    have hn : n.toNat = 0 := by simp at q2; omega
    rw [hn]
    exact ⟨[], .nil e te _ hte (by simp [Dat.rows]), by simp, fun b hb => by cases hb⟩
  · rw [a1] at q3
    simp only at q3
    obtain ⟨off', rfl, q4, q5, q6, q7⟩ := q3
    have hins := h.ins o _ ho
    have htop := h.tops o _ ho
    rw [a2, a8 rfl] at *
    refine ⟨g :: flatB (fun j i => bs (lo.toNat + j) i) n.toNat te.ls.length, ?_, ?_, fun b hb => ?_⟩
    · have := OT.row (E := E) (w := w) e te (.sl ((rows.drop lo.toNat).take n.toNat)) g off' c' arr (fun j i => u (lo.toNat + j) i) (fun j i => bs (lo.toNat + j) i) hte a3 (by simpa [Dat.rows, hlen] using q5) (by omega)
        (fun j r hj => h2 _ r (hget j r hj)) (fun j i hj hi => by
          simp only [Dat.rows, hlen] at hj
          have hoff : off' = off + lo.toNat * te.ls.length := q6.resolve_left (by omega)
          rw [← (a6 (lo.toNat + j) i (by omega) hi).1, hoff, Nat.add_mul]
          congr 1
          omega) (fun j i r l hj hl => by simpa using a7 (lo.toNat + j) i r l (hget j r hj) hl (nohole _ i))
      simpa [Dat.rows, hlen] using this
    · rw [List.nodup_cons]
      refine ⟨fun hb => (htop g (by simp)).2.1 (hins.1 g ?_), flatB_nodup_win hins.2 (by omega)⟩
      obtain ⟨j, i, hj, hi, hm⟩ := mem_flatB.mp hb
      exact mem_flatB.mpr ⟨lo.toNat + j, i, by omega, hi, hm⟩
    · rcases List.mem_cons.mp hb with rfl | hb
      · exact .inl (by simp)
      · obtain ⟨j, i, hj, hi, hm⟩ := mem_flatB.mp hb
        exact .inr (mem_flatB.mpr ⟨lo.toNat + j, i, by omega, hi, hm⟩)

theorem give_ok (h : RelG E base M S0 R0 w0 nt G st a w) (hlook : ∀ i x, look i = some x → getO st.ob i = some x) {l : Leaf} (hl : ∀ e, l = .sl e → ∃ te, E.T e = some te) {x : AV} {v : Value} (hv : VR E w S0 G st.ob x v)
    {g : Given} (hg : give look l x = some g) : (∃ bs, GiveR E w S0 G g.ids g.deep l g.d v bs) ∧ ∀ o ∈ g.ids, ∃ y, getO st.ob o = some y := by
  cases l with
  | int k =>
    cases hv <;> simp only [give] at hg <;> first | cases hg | skip
    rename_i k' n
    cases hk : ikEq k k' <;> rw [hk] at hg
    · cases hg
    · simp only [cond_true, Option.some.injEq] at hg
      subst hg
      have : k = k' := by simpa [ikEq] using hk
      subst this
      exact ⟨⟨[], .int k _, fun _ => .int k _, (fun _ hb => by cases hb), by simp⟩, fun o ho => by cases ho⟩
  | bool =>
    cases hv <;> simp only [give] at hg <;> first | cases hg | skip
    exact ⟨⟨[], .bool _, fun _ => .bool _, (fun _ hb => by cases hb), by simp⟩, fun o ho => by cases ho⟩
  | str =>
    cases hv <;> simp only [give] at hg <;> first | cases hg | skip
    exact ⟨⟨[], .str _, fun _ => .str _, (fun _ hb => by cases hb), by simp⟩, fun o ho => by cases ho⟩
  | sl e =>
    obtain ⟨te, hte⟩ := hl e rfl
    cases hv with
    | nil =>
      simp only [give, Option.some.injEq] at hg
      subst hg
      have := OT.nil (E := E) (w := w) e te (.sl []) hte rfl
      exact ⟨⟨[], this.rd (fun _ hb => by cases hb), fun _ => this, (fun _ hb => by cases hb), by simp⟩, fun o ho => by cases ho⟩
    | ro e' al rows v hr =>
      simp only [give] at hg
      obtain ⟨he, hg2⟩ := bifT hg
      have he := beqT he; subst he
      simp only [Option.some.injEq] at hg2
      subst hg2
      exact ⟨⟨[], hr.mono fun b hb => hb.imp id fun hb => .inl hb.2, (fun h => by cases h), (fun _ hb => by cases hb), by simp⟩, fun o ho => by cases ho⟩
    | nest o ver row col e' whole rows v hr hn =>
      simp only [give] at hg
      obtain ⟨he, hg2⟩ := bifT hg
      have he := beqT he; subst he
      simp only [Option.some.injEq] at hg2
      subst hg2
      exact ⟨⟨[], hr.mono fun b hb => hb.imp id fun hb => .inl hb, (fun h => by cases h), (fun _ hb => by cases hb), by simp⟩, fun o ho => by cases ho⟩
    | own o v hr h1 =>
      simp only [give] at hg
      split at hg
      · rename_i e' rows dp vr hlk
        obtain ⟨he, hg2⟩ := bifT hg
        have he := beqT he; subst he
        simp only [Option.some.injEq] at hg2
        subst hg2
        have hgo := hlook _ _ hlk
        rw [hr _ _ _ _ _ hgo]
        have hrd := (h.objs o _ hgo : RowR E w _ e rows dp [] _ _ _).rd (S' := fun b => S0 b ∨ b ∈ G.F ∨ ∃ o' ∈ [o], b ∈ G.top o') (fun b hb => .inr (.inr ⟨o, by simp, hb⟩)) (fun b hb => .inr (.inl ((h.ins o _ hgo).1 b hb))) (fun b hb => hb.imp id .inl)
        refine ⟨?_, fun o' ho => by simp at ho; subst ho; exact ⟨_, hgo⟩⟩
        cases dp with
        | false => exact ⟨[], hrd, (fun h => by cases h), (fun _ hb => by cases hb), by simp⟩
        | true =>
          obtain ⟨h2, h3⟩ := h.row_ot hgo
          exact ⟨_, hrd, fun _ => h2, fun b hb => ⟨o, by simp, List.mem_append.mp hb⟩, h3⟩
      · cases hg
    | vw o lo n v hr h1 =>
      simp only [give] at hg
      split at hg
      · rename_i e' rows dp vr hlk
        obtain ⟨he, hg2⟩ := bifT hg
        have he := beqT he; subst he
        simp only [Option.some.injEq] at hg2
        subst hg2
        have hgo := hlook _ _ hlk
        have hw := hr _ _ _ _ _ te hgo hte
        have hrd := ((h.objs o _ hgo : RowR E w _ e rows dp [] _ _ _).rd (S' := fun b => S0 b ∨ b ∈ G.F ∨ ∃ o' ∈ [o], b ∈ G.top o') (fun b hb => .inr (.inr ⟨o, by simp, hb⟩)) (fun b hb => .inr (.inl ((h.ins o _ hgo).1 b hb))) (fun b hb => hb.imp id .inl)).win hte hw
        refine ⟨?_, fun o' ho => by simp at ho; subst ho; exact ⟨_, hgo⟩⟩
        cases dp with
        | false => exact ⟨[], hrd, (fun h => by cases h), (fun _ hb => by cases hb), by simp⟩
        | true =>
          obtain ⟨bs, h2, h3, h4⟩ := h.row_ot_win hte hgo hw
          exact ⟨bs, hrd, fun _ => h2, fun b hb => ⟨o, by simp, h4 b hb⟩, h3⟩
      · cases hg
    | _ => simp [give] at hg

/-- a list of values handed over -/
structure GivesR (E : Env) (w : World) (S0 : Nat → Prop) (G : Gh) (ids : List Id) (deep : Bool) (ls : List Leaf) (ds : List Dat) (us : Nat → Value) (bs : Nat → List Nat) : Prop where
  len : ds.length = ls.length
  rd : ∀ (i : Nat) (l : Leaf), ls[i]? = some l → RD E w (fun b => S0 b ∨ b ∈ G.F ∨ ∃ o ∈ ids, b ∈ G.top o) l (ds.getD i default) (us i)
  ot : deep = true → ∀ (i : Nat) (l : Leaf), ls[i]? = some l → OT E w l (ds.getD i default) (us i) (bs i)
  sub : ∀ i, ∀ b ∈ bs i, ∃ o ∈ ids, b ∈ G.top o ∨ b ∈ G.ins o
  nodup : ∀ i, (bs i).Nodup
  disj : ∀ i j, i ≠ j → ∀ b ∈ bs i, b ∉ bs j
theorem gives_ok (h : RelG E base M S0 R0 w0 nt G st a w) (hlook : ∀ i x, look i = some x → getO st.ob i = some x) : ∀ {ls : List Leaf} (_ : ∀ e, Leaf.sl e ∈ ls → ∃ te, E.T e = some te) {xs : List AV} {us : Nat → Value}
    (_ : ∀ (i : Nat) (y : AV), xs[i]? = some y → VR E w S0 G st.ob y (us i)) {g : Givens} (_ : gives look ls xs = some g) (_ : g.ids.Nodup),
    (∃ bs, GivesR E w S0 G g.ids g.deep ls g.ds us bs) ∧ (∀ o ∈ g.ids, ∃ y, getO st.ob o = some y) ∧ xs.length = ls.length
  | [], _, [], us, _, g, hg, _ => by
    simp only [gives, Option.some.injEq] at hg
    subst hg
    exact ⟨⟨fun _ => [], rfl, (fun i l hl => by simp at hl), (fun _ i l hl => by simp at hl), (fun _ _ hb => by cases hb), (fun _ => by simp), (fun _ _ _ _ hb => by cases hb)⟩, (fun _ ho => by cases ho), rfl⟩
  | [], _, _ :: _, us, _, g, hg, _ => by simp [gives] at hg
  | _ :: _, _, [], us, _, g, hg, _ => by simp [gives] at hg
  | l :: ls, hls, x :: xs, us, hx, g, hg, hnd => by
    simp only [gives] at hg
    split at hg
    · rename_i g1 hg1
      split at hg
      · rename_i g2 hg2
        simp only [Option.some.injEq] at hg
        subst hg
        obtain ⟨n1, n2, n3⟩ := List.nodup_append.mp hnd
        obtain ⟨⟨bs1, b1⟩, b2⟩ := give_ok h hlook (fun e he => hls e (by simp [he])) (hx 0 x rfl) hg1
        obtain ⟨⟨bs2, c1⟩, c2, c3⟩ := gives_ok h hlook (fun e he => hls e (List.mem_cons_of_mem _ he)) (us := fun i => us (i + 1)) (fun i y hy => hx (i + 1) y (by simpa using hy)) hg2 n2
        have cross : ∀ b ∈ bs1, ∀ j, b ∉ bs2 j := fun b hb j hb' => by
          obtain ⟨o, ho, hob⟩ := b1.sub b hb
          obtain ⟨o', ho', hob'⟩ := c1.sub j b hb'
          obtain ⟨y, hy⟩ := b2 o ho
          obtain ⟨y', hy'⟩ := c2 o' ho'
          exact h.apart hy hy' (n3 o ho o' ho') hob hob'
        refine ⟨⟨fun i => match i with | 0 => bs1 | i + 1 => bs2 i, by simp [c1.len], fun i l hl => ?_, fun hd i l hl => ?_, fun i b hb => ?_, fun i => ?_, fun i j hij b hb hb' => ?_⟩, fun o ho => ?_, by simp [c3]⟩
        · cases i with
          | zero => simp at hl; subst hl; exact b1.rd.mono fun b hb => hb.imp id fun hb => hb.imp id fun ⟨o, ho, hb⟩ => ⟨o, List.mem_append.mpr (.inl ho), hb⟩
          | succ i => exact (c1.rd i l (by simpa using hl)).mono fun b hb => hb.imp id fun hb => hb.imp id fun ⟨o, ho, hb⟩ => ⟨o, List.mem_append.mpr (.inr ho), hb⟩
        · simp only [Bool.and_eq_true] at hd
          cases i with
          | zero => simp at hl; subst hl; exact b1.ot hd.1
          | succ i => exact c1.ot hd.2 i l (by simpa using hl)
        · cases i with
          | zero => obtain ⟨o, ho, h⟩ := b1.sub b hb; exact ⟨o, List.mem_append.mpr (.inl ho), h⟩
          | succ i => obtain ⟨o, ho, h⟩ := c1.sub i b hb; exact ⟨o, List.mem_append.mpr (.inr ho), h⟩
        · cases i with
          | zero => exact b1.nodup
          | succ i => exact c1.nodup i
        · cases i with
          | zero =>
            cases j with
            | zero => exact hij rfl
            | succ j => exact cross b hb j hb'
          | succ i =>
            cases j with
            | zero => exact cross b hb' i hb
            | succ j => exact c1.disj i j (by omega) b hb hb'
        · rcases List.mem_append.mp ho with ho | ho
          · exact b2 o ho
          · exact c2 o ho
      · cases hg
    · cases hg

end
end Go.Proofs.Ythjkpphjlmmkdaa.Vai
