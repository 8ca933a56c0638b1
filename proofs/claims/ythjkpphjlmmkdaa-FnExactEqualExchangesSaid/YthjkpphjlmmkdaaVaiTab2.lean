/- Tables of cells that become a new row: slices made and built; no condition. -/
import Derived.Test.YthjkpphjlmmkdaaVaiTab
namespace Go.Proofs.Ythjkpphjlmmkdaa.Vai
open Go

theorem flatB_nodup {bs : Nat → Nat → List Nat} {n sz : Nat} (h1 : ∀ j i, (bs j i).Nodup) (h2 : ∀ j i j' i', ¬ (j = j' ∧ i = i') → ∀ b ∈ bs j i, b ∉ bs j' i') : (flatB bs n sz).Nodup := by
  have key : ∀ (l : List Nat) (f : Nat → List Nat), l.Nodup → (∀ x, (f x).Nodup) → (∀ x y, x ≠ y → ∀ b ∈ f x, b ∉ f y) → (l.flatMap f).Nodup := by
    intro l f hl hf hd
    induction l with
    | nil => simp
    | cons x l ih =>
      obtain ⟨n1, n2⟩ := List.nodup_cons.mp hl
      simp only [List.flatMap_cons]
      refine List.nodup_append.mpr ⟨hf x, ih n2, fun b hb b' hb' e => ?_⟩
      subst e
      obtain ⟨y, hy, hb'⟩ := List.mem_flatMap.mp hb'
      exact hd x y (fun e => n1 (e ▸ hy)) b hb hb'
  refine key _ _ List.nodup_range (fun j => key _ _ List.nodup_range (h1 j) (fun i i' hi => h2 j i j i' (fun h => hi h.2))) (fun j j' hj b hb hb' => ?_)
  obtain ⟨i, _, hb⟩ := List.mem_flatMap.mp hb
  obtain ⟨i', _, hb'⟩ := List.mem_flatMap.mp hb'
  exact h2 j i j' i' (fun h => hj h.1) b hb hb'

structure TabR (E : Env) (w : World) (S : Nat → Prop) (D : Nat → Prop) (deep : Bool) (te : TI) (rows : List (List Dat)) (u : Nat → Nat → Value) (bs : Nat → Nat → List Nat) : Prop where
  len : ∀ (j : Nat) (r : List Dat), rows[j]? = some r → r.length = te.ls.length
  rd : ∀ (j i : Nat) (r : List Dat) (l : Leaf), rows[j]? = some r → te.ls[i]? = some l → RD E w S l (r.getD i default) (u j i)
  ot : deep = true → ∀ (j i : Nat) (r : List Dat) (l : Leaf), rows[j]? = some r → te.ls[i]? = some l → OT E w l (r.getD i default) (u j i) (bs j i)
  sub : ∀ j i, ∀ b ∈ bs j i, D b
  nodup : ∀ j i, (bs j i).Nodup
  disj : ∀ j i j' i', ¬ (j = j' ∧ i = i') → ∀ b ∈ bs j i, b ∉ bs j' i'

section
variable {P : Program} {E : Env} {base : Nat} {M : List Nat} {S0 : Nat → Prop} {R0 : Id → Value} {w0 : World} {nt : Nat} {G : Gh} {st : St} {a : Act} {w : World} {look : Look}

theorem TabR.one {S D : Nat → Prop} {deep : Bool} {te : TI} {rows : List (List Dat)} {u : Nat → Nat → Value} {bs : Nat → Nat → List Nat} (h : TabR E w S D deep te rows u bs) :
    ∀ j i : Nat, j < rows.length → i < te.ls.length → oneV (u j i) := fun j i hj hi =>
  (h.rd j i _ _ (List.getElem?_eq_getElem hj) (List.getElem?_eq_getElem hi)).one

/-- a row object out of a table that lies in memory -/
theorem TabR.rowR {S D : Nat → Prop} {deep : Bool} {e : TypeId} {te : TI} (hte : E.T e = some te) {rows : List (List Dat)} {u : Nat → Nat → Value} {bs : Nat → Nat → List Nat} (h : TabR E w S D deep te rows u bs)
    {w' : World} (hw : deep = true → ∀ b, D b → w'.heap[b]? = w.heap[b]?) (hS : deep = false → ∀ b, S b → w'.heap[b]? = w.heap[b]?) {g off c : Nat} {arr : Array Value} (hb : w'.heap[g]? = some (.cells arr e (0, 0))) (hc : rows.length ≤ c) (hs : off + c * te.ls.length ≤ arr.size)
    (hm : ∀ j i : Nat, j < rows.length → i < te.ls.length → arr[off + (j * te.ls.length + i)]? = some (u j i)) :
    RowR E w' S e rows deep [] (.slice (some ⟨g, off, none⟩) rows.length c) [g] (if deep then flatB bs rows.length te.ls.length else []) := by
  refine ⟨te, hte, h.len, .inr ⟨g, off, c, arr, u, bs, rfl, rfl, hb, hc, hs, fun j i hj hi => ⟨hm j i hj hi, h.one j i hj hi⟩, fun j i r l hj hl _ => ?_, fun hd => by simp [hd], fun hd => by simp [hd], fun j i hh => ?_⟩⟩
  · cases deep with
    | true => simp only [if_true]; exact (h.ot rfl j i r l hj hl).frame (fun b hb => hw rfl b (h.sub j i b hb))
    | false => simp only [Bool.false_eq_true, if_false]; exact (h.rd j i r l hj hl).frame (hS rfl) (fun _ hb => hb)
  · obtain ⟨r, hr, _⟩ := hh; cases hr

def Drawn (w w1 : World) : Prop := w1.heap = w.heap ∧ w1.os = w.os ∧ w1.tape = w.tape ∧ w1.output = w.output
theorem RelG.newTab (h : RelG E base M S0 R0 w0 nt G st a w) {dst : Option Nat} (hd : inB nt dst = true) {t : Nat} (hti : t < 1000000) (dl : List Id) (hdl : ∀ o ∈ dl, ∃ x, getO st.ob o = some x) {e : TypeId} {te : TI} (hte : E.T e = some te) {rows : List (List Dat)} {deep : Bool}
    {u : Nat → Nat → Value} {bs : Nat → Nat → List Nat} (hT : TabR E w (fun b => S0 b ∨ b ∈ G.F ∨ ∃ o ∈ dl, b ∈ G.top o) (fun b => ∃ o ∈ dl, b ∈ G.top o ∨ b ∈ G.ins o) deep te rows u bs) {w1 : World} (hw1 : Drawn w w1)
    {c : Nat} {arr : Array Value} (hc : rows.length ≤ c) (hs : c * te.ls.length ≤ arr.size) (hm : ∀ j i : Nat, j < rows.length → i < te.ls.length → arr[j * te.ls.length + i]? = some (u j i)) :
    Rel E base M S0 R0 w0 nt (applyD st dst { v := .own (t, 0), nw := [((t, 0), .row e rows deep 0 [])], dl := dl }) (a.put dst (.slice (some ⟨w.heap.size, 0, none⟩) rows.length c)) (w1.alloc (.cells arr e)) := by
  obtain ⟨d1, d2, d3, d4⟩ := hw1
  have hold : ∀ b, b < w.heap.size → (w1.alloc (.cells arr e)).heap[b]? = w.heap[b]? := fun b hb => (heap_alloc_old w1 _ (by rw [d1]; exact hb)).trans (by rw [d1])
  have hnew : (w1.alloc (.cells arr e)).heap[w.heap.size]? = some (.cells arr e (0, 0)) := by have := heap_alloc_new w1 (.cells arr e); rw [d1] at this; exact this
  have hk : Kept base M w0 (w1.alloc (.cells arr e)) := ⟨Nat.le_trans h.kept.size (by simp [d1]), fun b hb hm => (hold b (Nat.lt_of_lt_of_le hb h.kept.size)).trans (h.kept.heap b hb hm), d2.trans h.kept.os, d3.trans h.kept.tape, d4.trans h.kept.output⟩
  have hDlt : ∀ b, (∃ o ∈ dl, b ∈ G.top o ∨ b ∈ G.ins o) → b < w.heap.size := fun b ⟨o, ho, hb⟩ => by
    obtain ⟨x, hx⟩ := hdl o ho
    rcases hb with hb | hb
    · exact h.top_lt hx b hb
    · exact (h.F b ((h.ins o x hx).1 b hb)).2.2
  have hSlt : ∀ b, (S0 b ∨ b ∈ G.F ∨ ∃ o ∈ dl, b ∈ G.top o) → b < w.heap.size := fun b hb => by
    rcases hb with hb | hb | ⟨o, ho, hb⟩
    · exact h.live_lt (.inl hb)
    · exact h.live_lt (.inr (.inl hb))
    · exact hDlt b ⟨o, ho, .inl hb⟩
  have hrow := hT.rowR hte (w' := w1.alloc (.cells arr e)) (fun _ b hb => hold b (hDlt b hb)) (fun _ b hb => hold b (hSlt b hb)) (off := 0) hnew hc (by simpa using hs) (by simpa using hm)
  refine h.newRow hd hti dl [w.heap.size] (if deep then flatB bs rows.length te.ls.length else []) (dl.flatMap G.top) _ e rows deep hk (by simp [d1])
    (fun b hb => hold b (h.live_lt (hb.imp id (fun hb => hb.imp id fun ⟨o, x, hx, _, hb⟩ => ⟨o, x, hx, hb⟩)))) (fun b hb => ?_) (fun b hb => ?_) (fun b hb => ?_) ?_ ?_
  · obtain ⟨o, ho, hb⟩ := List.mem_flatMap.mp hb
    obtain ⟨x, hx⟩ := hdl o ho
    exact ⟨o, ho, x, hx, hb⟩
  · simp at hb; subst hb
    refine ⟨fun hb => ?_, .inl (Nat.le_refl _)⟩
    obtain ⟨o, ho, hb⟩ := List.mem_flatMap.mp hb
    exact Nat.lt_irrefl _ (hDlt _ ⟨o, ho, .inl hb⟩)
  · cases deep with
    | false => simp at hb
    | true =>
      simp only [if_true] at hb
      obtain ⟨j, i, _, _, hb⟩ := mem_flatB.mp hb
      obtain ⟨o, ho, hb⟩ := hT.sub j i b hb
      rcases hb with hb | hb
      · exact .inl (List.mem_flatMap.mpr ⟨o, ho, hb⟩)
      · obtain ⟨x, hx⟩ := hdl o ho
        exact .inr ⟨o, ho, x, hx, hb⟩
  · cases deep with
    | false => simp
    | true => simp only [if_true]; exact flatB_nodup hT.nodup hT.disj
  · refine hrow.frame (fun _ _ => rfl) (fun _ _ => rfl) (fun _ _ _ => rfl) (fun b hb => ?_)
    rcases hb with hb | hb | ⟨o, ho, hb⟩
    · exact .inl hb
    · exact .inr (List.mem_append.mpr (.inl hb))
    · exact .inr (List.mem_append.mpr (.inr (List.mem_flatMap.mpr ⟨o, ho, hb⟩)))

/-! ## make -/
theorem TOk.info' {t : TypeId} {ti : TI} (h : TOk P E t ti) : ∃ i z, P.info? t = some i ∧ i.size = ti.ls.length ∧ i.bytes = ti.by_ ∧ i.zero = some z ∧ z.cells = (ti.ls.map zeroV).toArray := by
  obtain ⟨i, hi, hs, hb, hz⟩ := h.info
  refine ⟨i, _, hi, hs, hb, hz, ?_⟩
  cases ha : ti.agg with
  | true => simp [Value.cells]
  | false =>
    obtain ⟨l, hl, _⟩ := h.single ha
    simp [hl, one_cells (zeroV_one l)]
theorem zero_tab {te : TI} (hel : ∀ e, Leaf.sl e ∈ te.ls → ∃ te', E.T e = some te') (S D : Nat → Prop) (n : Nat) : TabR E w S D true te (List.replicate n (te.ls.map zeroDat)) (fun _ i => zeroV (te.ls.getD i .bool)) (fun _ _ => []) := by
  have ot : ∀ (j i : Nat) (r : List Dat) (l : Leaf), (List.replicate n (te.ls.map zeroDat))[j]? = some r → te.ls[i]? = some l → OT E w l (r.getD i default) (zeroV (te.ls.getD i .bool)) [] := fun j i r l hj hl => by
    rw [List.getElem?_replicate] at hj
    split at hj
    · cases hj
      have e1 : (te.ls.map zeroDat).getD i default = zeroDat l := by simp [List.getD, hl]
      have e2 : te.ls.getD i .bool = l := by simp [List.getD, hl]
      rw [e1, e2]
      exact zero_ot (fun e he => hel e (by subst he; exact List.mem_of_getElem? hl))
    · cases hj
  refine ⟨fun j r hj => ?_, fun j i r l hj hl => (ot j i r l hj hl).rd (fun _ hb => by cases hb), fun _ => ot, (fun _ _ _ hb => by cases hb), (fun _ _ => by simp), (fun _ _ _ _ _ _ hb => by cases hb)⟩
  rw [List.getElem?_replicate] at hj
  split at hj
  · cases hj; simp
  · cases hj
theorem mod_row {j i n sz : Nat} (hj : j < n) (hi : i < sz) : j * sz + i < n * sz ∧ (j * sz + i) % sz = i := by
  constructor
  · have h1 : (j + 1) * sz ≤ n * sz := Nat.mul_le_mul_right _ hj
    rw [Nat.add_mul] at h1
    omega
  · rw [Nat.mul_comm, Nat.mul_add_mod, Nat.mod_eq_of_lt hi]
theorem opMake_ok (hE : EnvOk P E) (h : RelG E base M S0 R0 w0 nt G st a w) {dst : Option Nat} (hd : inB nt dst = true) {ty e : TypeId} {te : TI} (hu : P.underlying ty = some (.slice e)) (hte : E.T e = some te) {t : Nat} (hti : t < 1000000) {n : Int}
    (h0 : 0 ≤ n) (hb : n.toNat * te.by_ ≤ maxBytes) :
    Stepped E base M S0 R0 w0 nt st a dst { v := .own (t, 0), nw := [((t, 0), .row e (List.replicate n.toNat (te.ls.map zeroDat)) true 0 [])] } ((Instr.makeSlice ty (.int .i64 n) (.int .i64 n)).run P w) := by
  have hT := hE.T e te hte
  obtain ⟨i, z, hi, hsz, hby, hz1, hz2⟩ := hT.info'
  have hbp := hT.pos.2
  have hb' : n.toNat ≤ 70368744177664 := Nat.le_trans (Nat.le_mul_of_pos_right _ hbp) hb
  have hbytes : (i.bytes : Int) * n ≤ 281474976710656 := by
    rw [hby]
    have e1 : (te.by_ : Int) * n = ((n.toNat * te.by_ : Nat) : Int) := by
      rw [Int.natCast_mul, Int.toNat_of_nonneg h0, Int.mul_comm]
    rw [e1]
    have : n.toNat * te.by_ ≤ 70368744177664 := hb
    omega
  have hrun := run_make (P := P) w ty e i z hu hi hz1 .i64 .i64 n n h0 (Int.le_refl _) hbytes (by omega)
  have key := h.newTab hd hti [] (fun o ho => by cases ho) hte (zero_tab hT.elem _ _ n.toNat) (w1 := w) ⟨rfl, rfl, rfl, rfl⟩ (c := n.toNat) (arr := madeCells z.cells (n.toNat * te.ls.length)) (by simp) (by simp [size_madeCells]) (fun j k hj hk => by
    simp only [List.length_replicate] at hj
    obtain ⟨m1, m2⟩ := mod_row hj hk
    have hne : te.ls.length = (te.ls.map zeroV).length := by simp
    have : (madeCells z.cells (n.toNat * te.ls.length))[j * te.ls.length + k]? = some (z.cells[(j * te.ls.length + k) % z.cells.size]!) := by
      simp [madeCells, m1]
    rw [this, hz2]
    simp [m2, hk])
  simp only [List.length_replicate] at key
  rw [hsz] at hrun
  exact ⟨_, _, hrun, key⟩

/-! ## slices built -/
theorem gives_solid {ls : List Leaf} (hls : 0 < ls.length) {x : AV} {g : Givens} (hg : gives look ls (flat x) = some g) : solid x = true := by
  match ls, hls with
  | l :: ls, _ =>
    cases x <;> first | rfl | skip
    · simp only [flat, gives] at hg
      cases l <;> simp [give] at hg
    · simp only [flat, gives] at hg
      cases l <;> simp [give] at hg
theorem opBuildS_ids {ls : List Leaf} : ∀ (ps : List (Nat × AV)) (b b' : Built), opBuildS look ls ps b = some b' → ∃ more, b'.ids = b.ids ++ more
  | [], b, b', h => by simp only [opBuildS, Option.some.injEq] at h; subst h; exact ⟨[], by simp⟩
  | (i, v) :: ps, b, b', h => by
    simp only [opBuildS] at h
    split at h
    · cases h
    · rename_i g hg
      obtain ⟨_, h2⟩ := bifT h
      obtain ⟨more, hm⟩ := opBuildS_ids ps _ _ h2
      exact ⟨g.ids ++ more, by rw [hm]; simp⟩
theorem row_iff {i j k sz : Nat} (hk : k < sz) : i * sz ≤ j * sz + k ∧ j * sz + k < i * sz + sz ↔ j = i := by
  constructor
  · rintro ⟨h1, h2⟩
    have a1 : i < j + 1 := by
      refine Nat.lt_of_mul_lt_mul_right (a := sz) ?_
      rw [Nat.add_mul]; omega
    have a2 : j < i + 1 := by
      refine Nat.lt_of_mul_lt_mul_right (a := sz) ?_
      rw [Nat.add_mul]; omega
    omega
  · rintro rfl; omega
abbrev SOf (S0 : Nat → Prop) (G : Gh) (dl : List Id) : Nat → Prop := fun b => S0 b ∨ b ∈ G.F ∨ ∃ o ∈ dl, b ∈ G.top o
abbrev DOf (G : Gh) (dl : List Id) : Nat → Prop := fun b => ∃ o ∈ dl, b ∈ G.top o ∨ b ∈ G.ins o
theorem opBuildS_fill (hE : EnvOk P E) (h : RelG E base M S0 R0 w0 nt G st a w) (hlook : ∀ i x, look i = some x → getO st.ob i = some x) {e : TypeId} {te : TI} (hte : E.T e = some te) (len : Nat) :
    ∀ (ps : List (Nat × AV)) (vs : List (Nat × Value)), ps.length = vs.length → (∀ (k : Nat) (p : Nat × AV) (q : Nat × Value), ps[k]? = some p → vs[k]? = some q → p.1 = q.1 ∧ VR E w S0 G st.ob p.2 q.2) →
    ∀ (b : Built) (cells : List Value) (bs : Nat → Nat → List Nat), b.rows.length = len → cells.length = len * te.ls.length → (∀ o ∈ b.ids, ∃ x, getO st.ob o = some x) →
      TabR E w (SOf S0 G b.ids) (DOf G b.ids) b.deep te b.rows (fun j i => cells.getD (j * te.ls.length + i) undef) bs → ∀ b', opBuildS look te.ls ps b = some b' → b'.ids.Nodup →
      ∃ (cells' : List Value) (bs' : Nat → Nat → List Nat), Instr.fill (fun i => some (i * te.ls.length, te.ls.length)) cells.toArray vs = some cells'.toArray ∧ b'.rows.length = len ∧ cells'.length = len * te.ls.length ∧ (∀ o ∈ b'.ids, ∃ x, getO st.ob o = some x) ∧
        TabR E w (SOf S0 G b'.ids) (DOf G b'.ids) b'.deep te b'.rows (fun j i => cells'.getD (j * te.ls.length + i) undef) bs'
  | [], [], _, _, b, cells, bs, hr, hc, hlive, hT, b', hb, _ => by
    simp only [opBuildS, Option.some.injEq] at hb
    subst hb
    exact ⟨cells, bs, rfl, hr, hc, hlive, hT⟩
  | [], _ :: _, h, _, _, _, _, _, _, _, _, _, _, _ => by simp at h
  | _ :: _, [], h, _, _, _, _, _, _, _, _, _, _, _ => by simp at h
  | (i, x) :: ps, (i', v) :: vs, hlen, hp, b, cells, bs, hr, hc, hlive, hT, b', hb, hnd => by
    obtain ⟨e1, hv⟩ := hp 0 _ _ rfl rfl
    simp only at e1 hv
    subst e1
    have hTy := hE.T e te hte
    have hids := opBuildS_ids _ _ _ hb
    simp only [opBuildS] at hb
    split at hb
    · cases hb
    · rename_i g hg
      obtain ⟨hi, hb2⟩ := bifT hb
      have hi : i < b.rows.length := Nat.le_of_ble_eq_true hi
      obtain ⟨more, hmore⟩ := opBuildS_ids _ _ _ hb2
      rw [hmore] at hnd
      obtain ⟨n1, _, _⟩ := List.nodup_append.mp hnd
      obtain ⟨m1, m2, m3⟩ := List.nodup_append.mp n1
      have hsol := gives_solid hTy.pos.1 hg
      have hfr := hv.flatR hsol
      obtain ⟨⟨bg, q⟩, qlive, qlen⟩ := gives_ok h hlook hTy.elem (us := fun k => v.cells.toList.getD k undef) (fun k y hy => by
        have hk : k < v.cells.toList.length := by have := (List.getElem?_eq_some_iff.mp hy).1; rw [hfr.1] at this; exact this
        have hx : v.cells.toList[k]? = some (v.cells.toList.getD k undef) := by simp [List.getElem?_eq_getElem hk, List.getD]
        exact (hfr.2 k y _ hy hx).1) hg m2
      have hsz : v.cells.size = te.ls.length := by have := hfr.1; simp at this; omega
      have hfit : i * te.ls.length + te.ls.length ≤ len * te.ls.length := by
        have : (i + 1) * te.ls.length ≤ len * te.ls.length := Nat.mul_le_mul_right _ (by omega)
        rw [Nat.add_mul] at this; omega
      rw [fill_cons _ _ _ _ _ (by rw [hsz]) (by simp; omega)]
      simp only
      have hget : ∀ j k, k < te.ls.length → j < len → (setRange cells (i * te.ls.length) v.cells.toList).getD (j * te.ls.length + k) undef = if j = i then v.cells.toList.getD k undef else cells.getD (j * te.ls.length + k) undef := fun j k hk hj => by
        simp only [List.getD, setRange_get, Array.length_toList, hsz]
        by_cases hji : j = i
        · have := (row_iff (i := i) hk).mpr hji
          rw [if_pos this, if_pos (by rw [hc]; exact (mod_row hj hk).1), if_pos hji]
          subst hji
          congr 2
          omega
        · have : ¬ (i * te.ls.length ≤ j * te.ls.length + k ∧ j * te.ls.length + k < i * te.ls.length + te.ls.length) := fun hh => hji ((row_iff hk).mp hh)
          rw [if_neg this, if_neg hji]
      have hjl : ∀ j r, (b.rows.set i g.ds)[j]? = some r → j < len := fun j r hj => by have := (List.getElem?_eq_some_iff.mp hj).1; simp at this; omega
      have hset : ∀ j r, (b.rows.set i g.ds)[j]? = some r → (j = i ∧ r = g.ds) ∨ (j ≠ i ∧ b.rows[j]? = some r) := fun j r hj => by
        rw [List.getElem?_set] at hj
        by_cases hji : i = j
        · subst hji; simp [hi] at hj; exact .inl ⟨rfl, hj.symm⟩
        · rw [if_neg hji] at hj; exact .inr ⟨fun e => hji e.symm, hj⟩
      have hmonoS1 : ∀ b0, SOf S0 G b.ids b0 → SOf S0 G (b.ids ++ g.ids) b0 := fun b0 hb0 => hb0.imp id fun hb => hb.imp id fun ⟨o, ho, hb⟩ => ⟨o, List.mem_append.mpr (.inl ho), hb⟩
      have hmonoS2 : ∀ b0, SOf S0 G g.ids b0 → SOf S0 G (b.ids ++ g.ids) b0 := fun b0 hb0 => hb0.imp id fun hb => hb.imp id fun ⟨o, ho, hb⟩ => ⟨o, List.mem_append.mpr (.inr ho), hb⟩
      have cross : ∀ b0, DOf G b.ids b0 → DOf G g.ids b0 → False := fun b0 ⟨o, ho, hb⟩ ⟨o', ho', hb'⟩ => by
        obtain ⟨y, hy⟩ := hlive o ho
        obtain ⟨y', hy'⟩ := qlive o' ho'
        exact h.apart hy hy' (m3 o ho o' ho') hb hb'
      refine opBuildS_fill hE h hlook hte len ps vs (by simpa using hlen) (fun k p q hk hk' => hp (k + 1) p q (by simpa using hk) (by simpa using hk')) _ _ (fun j k => if j = i then bg k else bs j k) (by simp [hr]) (by simp [setRange_length, hc]) (fun o ho => ?_) ?_ b' hb2 (by rw [hmore]; exact hnd)
      · rcases List.mem_append.mp ho with ho | ho
        · exact hlive o ho
        · exact qlive o ho
      · refine ⟨fun j r hj => ?_, fun j k r l hj hl => ?_, fun hdp j k r l hj hl => ?_, fun j k b0 hb0 => ?_, fun j k => ?_, fun j k j' k' hne b0 hb0 hb0' => ?_⟩
        · rcases hset j r hj with ⟨rfl, rfl⟩ | ⟨_, hj⟩
          · exact q.len
          · exact hT.len j r hj
        · have hk : k < te.ls.length := (List.getElem?_eq_some_iff.mp hl).1
          rw [hget j k hk (hjl j r hj)]
          rcases hset j r hj with ⟨rfl, rfl⟩ | ⟨hji, hj⟩
          · rw [if_pos rfl]; exact (q.rd k l hl).mono hmonoS2
          · rw [if_neg hji]; exact (hT.rd j k r l hj hl).mono hmonoS1
        · simp only [Bool.and_eq_true] at hdp
          have hk : k < te.ls.length := (List.getElem?_eq_some_iff.mp hl).1
          rw [hget j k hk (hjl j r hj)]
          rcases hset j r hj with ⟨rfl, rfl⟩ | ⟨hji, hj⟩
          · rw [if_pos rfl, if_pos rfl]; exact q.ot hdp.2 k l hl
          · rw [if_neg hji, if_neg hji]; exact hT.ot hdp.1 j k r l hj hl
        · split at hb0
          · obtain ⟨o, ho, hb⟩ := q.sub k b0 hb0; exact ⟨o, List.mem_append.mpr (.inr ho), hb⟩
          · obtain ⟨o, ho, hb⟩ := hT.sub j k b0 hb0; exact ⟨o, List.mem_append.mpr (.inl ho), hb⟩
        · split
          · exact q.nodup k
          · exact hT.nodup j k
        · split at hb0 <;> split at hb0'
          · rename_i e1 e2
            exact q.disj k k' (fun e => hne ⟨e1.trans e2.symm, e⟩) b0 hb0 hb0'
          · exact cross b0 (hT.sub j' k' b0 hb0') (q.sub k b0 hb0)
          · exact cross b0 (hT.sub j k b0 hb0) (q.sub k' b0 hb0')
          · exact hT.disj j k j' k' hne b0 hb0 hb0'

theorem opBuildSlice_ok (hE : EnvOk P E) (h : RelG E base M S0 R0 w0 nt G st a w) (hlook : ∀ i x, look i = some x → getO st.ob i = some x) {dst : Option Nat} (hd : inB nt dst = true) {ty e : TypeId} {te : TI} (hu : P.underlying ty = some (.slice e)) (hte : E.T e = some te) {t : Nat} (hti : t < 1000000) (len : Nat)
    {ps : List (Nat × AV)} {vs : List (Nat × Value)} (hlen : ps.length = vs.length) (hp : ∀ (k : Nat) (p : Nat × AV) (q : Nat × Value), ps[k]? = some p → vs[k]? = some q → p.1 = q.1 ∧ VR E w S0 G st.ob p.2 q.2)
    {b : Built} (hb : opBuildS look te.ls ps ⟨List.replicate len (te.ls.map zeroDat), [], true⟩ = some b) (hnd : b.ids.Nodup) (hsm : len * te.ls.length ≤ 16777216) :
    Stepped E base M S0 R0 w0 nt st a dst { v := .own (t, 0), nw := [((t, 0), .row e b.rows b.deep 0 [])], dl := b.ids } ((Instr.buildSlice ty len vs.toArray).run P w) := by
  have hT := hE.T e te hte
  obtain ⟨i, z, hi, hsz, hby, hz1, hz2⟩ := hT.info'
  have hz0 := zero_tab (w := w) (te := te) hT.elem (SOf S0 G []) (DOf G []) len
  have hcl : ∀ j k, j < len → k < te.ls.length → ((List.range (len * te.ls.length)).map fun x => zeroV (te.ls.getD (x % te.ls.length) .bool)).getD (j * te.ls.length + k) undef = zeroV (te.ls.getD k .bool) := fun j k hj hk => by
    obtain ⟨m1, m2⟩ := mod_row hj hk
    simp [List.getD, m1, m2]
  obtain ⟨cells', bs', f1, f2, f3, f4, f5⟩ := opBuildS_fill hE h hlook hte len ps vs hlen hp ⟨List.replicate len (te.ls.map zeroDat), [], true⟩ ((List.range (len * te.ls.length)).map fun x => zeroV (te.ls.getD (x % te.ls.length) .bool)) (fun _ _ => [])
    (by simp) (by simp) (fun o ho => by cases ho) ⟨hz0.len, fun j k r l hj hl => by
      have hj' : j < len := by have := (List.getElem?_eq_some_iff.mp hj).1; simpa using this
      have hk : k < te.ls.length := (List.getElem?_eq_some_iff.mp hl).1
      simp only [hcl j k hj' hk]
      exact hz0.rd j k r l hj hl, fun hdp j k r l hj hl => by
      have hj' : j < len := by have := (List.getElem?_eq_some_iff.mp hj).1; simpa using this
      have hk : k < te.ls.length := (List.getElem?_eq_some_iff.mp hl).1
      simp only [hcl j k hj' hk]
      exact hz0.ot rfl j k r l hj hl, hz0.sub, hz0.nodup, hz0.disj⟩ b hb hnd
  have key := h.newTab hd hti b.ids f4 hte f5 (w1 := w) ⟨rfl, rfl, rfl, rfl⟩ (c := b.rows.length) (arr := cells'.toArray) (Nat.le_refl _) (by simp [f3, f2]) (fun j k hj hk => by
    have : j * te.ls.length + k < cells'.length := by rw [f3]; exact (mod_row (by omega) hk).1
    simp [List.getD, this])
  rw [f2] at key
  refine ⟨_, _, ?_, key⟩
  by_cases hl0 : len * te.ls.length = 0
  · have hps : ps = [] := by
      cases ps with
      | nil => rfl
      | cons p ps =>
        obtain ⟨i, x⟩ := p
        simp only [opBuildS] at hb
        split at hb
        · cases hb
        · obtain ⟨hi, _⟩ := bifT hb
          have hi : i < len := by have := Nat.le_of_ble_eq_true hi; simp at this; omega
          have : 0 < len * te.ls.length := Nat.mul_pos (by omega) hT.pos.1
          omega
    subst hps
    have hvs : vs = [] := by cases vs with | nil => rfl | cons _ _ => simp at hlen
    subst hvs
    have hc0 : cells' = [] := List.length_eq_zero_iff.mp (f3.trans hl0)
    subst hc0
    simp [Instr.buildSlice, run_underlying hu, sizeOf, typeInfo, hi, hsz, hl0, newRow, Instr.fill, Array.range_zero']
  · have hz : ((Array.range (len * i.size)).map (z.cells[· % z.cells.size]!)) = ((List.range (len * te.ls.length)).map fun x => zeroV (te.ls.getD (x % te.ls.length) .bool)).toArray := by
      rw [hsz, hz2]
      apply Array.ext'
      simp only [Array.toList_map, Array.toList_range]
      refine List.map_congr_left fun x hx => ?_
      have hx : x % te.ls.length < te.ls.length := Nat.mod_lt _ hT.pos.1
      simp [hx]
    refine run_buildSlice w ty e len vs.toArray cells'.toArray i z hu hi hz1 (by rw [hsz]; omega) (by rw [hsz]; exact hl0) ?_
    rw [hz, hsz]
    simpa using f1

end
end Go.Proofs.Ythjkpphjlmmkdaa.Vai
