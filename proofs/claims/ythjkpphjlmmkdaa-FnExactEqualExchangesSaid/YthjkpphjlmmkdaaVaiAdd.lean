/- New objects: rows, trees, boxes; and the end of an operation; no condition. -/
import Derived.Test.YthjkpphjlmmkdaaVaiGive
namespace Go.Proofs.Ythjkpphjlmmkdaa.Vai
open Go

section
variable {P : Program} {E : Env} {base : Nat} {M : List Nat} {S0 : Nat → Prop} {R0 : Id → Value} {w0 : World} {nt : Nat} {G : Gh} {st : St} {a : Act} {w : World} {look : Look}

def Gh.set1 (G : Gh) (k : Id) (root : Value) (top ins fl : List Nat) : Gh where
  root := fun o => if o = k then root else G.root o
  top := fun o => if o = k then top else G.top o
  ins := fun o => if o = k then ins else G.ins o
  F := G.F ++ fl
theorem findN_one {k o : Id} {x : Obj} : findN [(k, x)] o = if o = k then some x else none := by simp [findN]
theorem upAll_one {ob : List (Id × Obj)} {k : Id} {x : Obj} : upAll [(k, x)] ob = setO ob k x := rfl
theorem NoRef.set {k k' : Id} {x : Obj} (h : NoRef k' st) (hne : k' ≠ k) (hx : ∀ t cells, x = .box t cells → k' ∉ idsL cells) : NoRef k' { st with ob := setO st.ob k x } := by
  refine ⟨h.1, fun o t cells hg => ?_, ?_, h.2.2.2⟩
  · simp only [getO_setO] at hg
    by_cases ho : o = k
    · rw [if_pos ho] at hg; exact hx t cells (Option.some.inj hg)
    · rw [if_neg ho] at hg; exact h.2.1 o t cells hg
  · simp only [getO_setO, if_neg hne]; exact h.2.2.1
theorem RelG.top_lt (h : RelG E base M S0 R0 w0 nt G st a w) {o : Id} {x : Obj} (hx : getO st.ob o = some x) : ∀ b ∈ G.top o, b < w.heap.size := by
  intro b hb
  have := h.objs o x hx
  cases x with
  | row e rows d v hh =>
    obtain ⟨te, _, _, h3⟩ := (this : RowR E w _ e rows d hh _ _ _)
    rcases h3 with ⟨_, _, h3, _⟩ | ⟨g, off, c, arr, u, bs, a1, a2, a3, _⟩
    · rw [h3] at hb; cases hb
    · rw [a2] at hb; simp at hb; subst hb; exact (Array.getElem?_eq_some_iff.mp a3).1
  | box t cs =>
    obtain ⟨g, arr, et, h1, h2, h3, h4, _⟩ := (this : BoxR E w S0 G st.ob cs _ _ _)
    rw [h2] at hb; simp at hb; subst hb; exact (Array.getElem?_eq_some_iff.mp h4).1
theorem RelG.old_lt (h : RelG E base M S0 R0 w0 nt G st a w) {b : Nat} (hb : w.heap.size ≤ b) : ¬ S0 b ∧ b ∉ G.F ∧ base ≤ b ∧ ∀ o x, getO st.ob o = some x → b ∉ G.top o ∧ b ∉ G.ins o := by
  have hs := h.kept.size
  refine ⟨fun hh => ?_, fun hh => ?_, by omega, fun o x hx => ⟨fun hh => ?_, fun hh => ?_⟩⟩
  · have := (h.old b hh).1; omega
  · have := (h.F b hh).2.2; omega
  · have := h.top_lt hx b hh; omega
  · have := (h.F b ((h.ins o x hx).1 b hh)).2.2; omega

/-- one new object -/
theorem RelG.add1 (h : RelG E base M S0 R0 w0 nt G st a w) {k : Id} (hno : NoRef k st) (x : Obj) (root : Value) (top ins fl : List Nat) {w' : World}
    (hk : Kept base M w0 w') (hs : w.heap.size ≤ w'.heap.size) (hw : ∀ b, Live S0 G st.ob b → w'.heap[b]? = w.heap[b]?)
    (hfl : ∀ b ∈ fl, ¬ S0 b ∧ (base ≤ b ∨ b ∈ M) ∧ b < w'.heap.size ∧ ∀ o x, getO st.ob o = some x → b ∉ G.top o)
    (htop : ∀ b ∈ top, ¬ S0 b ∧ b ∉ G.F ∧ b ∉ fl ∧ (base ≤ b ∨ b ∈ M) ∧ ∀ o x, getO st.ob o = some x → b ∉ G.top o)
    (hins : ∀ b ∈ ins, (b ∈ G.F ∨ b ∈ fl) ∧ ∀ o x, getO st.ob o = some x → b ∉ G.ins o) (hnd : ins.Nodup)
    (hobj : ObjR E w' S0 (G.set1 k root top ins fl) (setO st.ob k x) k x) :
    RelG E base M S0 R0 w0 nt (G.set1 k root top ins fl) { st with ob := setO st.ob k x } a w' := by
  have key := h.add [(k, x)] (fun k' hk' => by simp [keys] at hk'; subst hk'; exact hno) (G.set1 k root top ins fl) hk hs hw
    (fun o ho => by simp [keys] at ho; simp [Gh.set1, ho]) (fun b hb => List.mem_append.mpr (.inl hb))
    (fun b hb => (List.mem_append.mp hb).imp id (hfl b))
    (fun k' x' hf => by
      rw [findN_one] at hf
      split at hf
      · rename_i e; subst e; cases hf; exact hobj
      · cases hf)
    (fun k' hk' b hb => by
      simp [keys] at hk'; subst hk'
      simp only [Gh.set1, if_true] at hb ⊢
      obtain ⟨h1, h2, h3, h4, h5⟩ := htop b hb
      exact ⟨h1, fun hh => (List.mem_append.mp hh).elim h2 h3, h4, h5⟩)
    (fun k' hk' => by
      simp [keys] at hk'; subst hk'
      simp only [Gh.set1, if_true]
      exact ⟨fun b hb => ⟨List.mem_append.mpr (hins b hb).1, (hins b hb).2⟩, hnd⟩)
    (fun k1 hk1 k2 hk2 hne => by simp [keys] at hk1 hk2; exact absurd (hk1.trans hk2.symm) hne)
    (fun k1 hk1 k2 hk2 hne => by simp [keys] at hk1 hk2; exact absurd (hk1.trans hk2.symm) hne)
  exact key
theorem set1_self {k : Id} {root : Value} {top ins fl : List Nat} : (G.set1 k root top ins fl).root k = root ∧ (G.set1 k root top ins fl).top k = top ∧ (G.set1 k root top ins fl).ins k = ins := by simp [Gh.set1]

/-- one new row object -/
theorem RelG.addRow (h : RelG E base M S0 R0 w0 nt G st a w) {k : Id} (hno : NoRef k st) (e : TypeId) (rows : List (List Dat)) (deep : Bool) (root : Value) (top ins fl : List Nat) {w' : World}
    (hk : Kept base M w0 w') (hs : w.heap.size ≤ w'.heap.size) (hw : ∀ b, Live S0 G st.ob b → w'.heap[b]? = w.heap[b]?)
    (hfl : ∀ b ∈ fl, ¬ S0 b ∧ (base ≤ b ∨ b ∈ M) ∧ b < w'.heap.size ∧ ∀ o x, getO st.ob o = some x → b ∉ G.top o)
    (htop : ∀ b ∈ top, ¬ S0 b ∧ b ∉ G.F ∧ b ∉ fl ∧ (base ≤ b ∨ b ∈ M) ∧ ∀ o x, getO st.ob o = some x → b ∉ G.top o)
    (hins : ∀ b ∈ ins, (b ∈ G.F ∨ b ∈ fl) ∧ ∀ o x, getO st.ob o = some x → b ∉ G.ins o) (hnd : ins.Nodup)
    (hrow : RowR E w' (fun b => S0 b ∨ b ∈ G.F ++ fl) e rows deep [] root top ins) :
    RelG E base M S0 R0 w0 nt (G.set1 k root top ins fl) { st with ob := setO st.ob k (.row e rows deep 0 []) } a w' :=
  h.add1 hno _ root top ins fl hk hs hw hfl htop hins hnd (by
    obtain ⟨h1, h2, h3⟩ := set1_self (G := G) (k := k) (root := root) (top := top) (ins := ins) (fl := fl)
    simp only [ObjR, h1, h2, h3]
    exact hrow)

/-- a tree that a call has made, or nil -/
theorem OT.rowR {e : TypeId} {d : Dat} {v : Value} {bs : List Nat} (h : OT E w (.sl e) d v bs) : ∃ top ins, bs = top ++ ins ∧ ∀ S, RowR E w S e d.rows true [] v top ins := by
  cases h with
  | nil _ te _ ht hd => exact ⟨[], [], rfl, fun S => ⟨te, ht, (by rw [hd]; intro j r hj; simp at hj), .inl ⟨rfl, hd, rfl, rfl⟩⟩⟩
  | row _ te _ g off c arr u bs ht hb hc hs hl hm hr =>
    refine ⟨[g], _, rfl, fun S => ⟨te, ht, hl, .inr ⟨g, off, c, arr, u, bs, rfl, rfl, hb, hc, hs, fun j i hj hi => ⟨hm j i hj hi, ?_⟩, fun j i r l hj hl' _ => by simpa using hr j i r l hj hl', fun _ => rfl, (fun h => by cases h), fun j i hh => ?_⟩⟩⟩
    · exact (hr j i _ _ (List.getElem?_eq_getElem hj) (List.getElem?_eq_getElem hi)).one
    · obtain ⟨r, hr, _⟩ := hh; cases hr
theorem RelG.addTree (h : RelG E base M S0 R0 w0 nt G st a w) {k : Id} (hno : NoRef k st) {e : TypeId} {d : Dat} {v : Value} {bs : List Nat} (hot : OT E w (.sl e) d v bs) (hnd : bs.Nodup)
    (hbs : ∀ b ∈ bs, ¬ S0 b ∧ b ∉ G.F ∧ (base ≤ b ∨ b ∈ M) ∧ ∀ o x, getO st.ob o = some x → b ∉ G.top o ∧ b ∉ G.ins o) :
    ∃ G', RelG E base M S0 R0 w0 nt G' { st with ob := setO st.ob k (.row e d.rows true 0 []) } a w ∧ G'.root k = v ∧
      (∀ b, b ∈ G'.F ∨ b ∈ G'.top k ∨ b ∈ G'.ins k → b ∈ G.F ∨ b ∈ bs) ∧ (∀ o, o ≠ k → G'.root o = G.root o ∧ G'.top o = G.top o ∧ G'.ins o = G.ins o) ∧ (∀ b ∈ G.F, b ∈ G'.F) := by
  obtain ⟨top, ins, rfl, hrow⟩ := hot.rowR
  obtain ⟨n1, n2, n3⟩ := List.nodup_append.mp hnd
  have hlt := hot.lt
  refine ⟨G.set1 k v top ins ins, h.addRow hno e d.rows true v top ins ins h.kept (Nat.le_refl _) (fun _ _ => rfl) (fun b hb => ?_) (fun b hb => ?_) (fun b hb => ?_) n2 (hrow _), by simp [Gh.set1], fun b hb => ?_, fun o ho => by simp [Gh.set1, ho], fun b hb => List.mem_append.mpr (.inl hb)⟩
  · obtain ⟨h1, h2, h3, h4⟩ := hbs b (List.mem_append.mpr (.inr hb))
    exact ⟨h1, h3, hlt b (List.mem_append.mpr (.inr hb)), fun o x hx => (h4 o x hx).1⟩
  · obtain ⟨h1, h2, h3, h4⟩ := hbs b (List.mem_append.mpr (.inl hb))
    exact ⟨h1, h2, fun hb' => n3 b hb b hb' rfl, h3, fun o x hx => (h4 o x hx).1⟩
  · exact ⟨.inr hb, fun o x hx => ((hbs b (List.mem_append.mpr (.inr hb))).2.2.2 o x hx).2⟩
  · simp only [Gh.set1, if_true, List.mem_append] at hb ⊢
    rcases hb with (hb | hb) | hb | hb
    · exact .inl hb
    · exact .inr (.inr hb)
    · exact .inr (.inl hb)
    · exact .inr (.inr hb)

/-- one new box, its cells are known already -/
theorem RelG.addBox (h : RelG E base M S0 R0 w0 nt G st a w) {k : Id} (hno : NoRef k st) {t et : TypeId} {cells : List AV} {arr : Array Value} (hl : arr.size = cells.length)
    (hc : ∀ (i : Nat) (v : AV) (x : Value), cells[i]? = some v → arr[i]? = some x → VR E w S0 G st.ob v x ∧ oneV x) (hnk : k ∉ idsL cells) :
    RelG E base M S0 R0 w0 nt (G.set1 k (.pointer (some ⟨w.heap.size, 0, none⟩)) [w.heap.size] [] []) { st with ob := setO st.ob k (.box t cells) } a (w.alloc (.cells arr et)) ∧
      VR E (w.alloc (.cells arr et)) S0 (G.set1 k (.pointer (some ⟨w.heap.size, 0, none⟩)) [w.heap.size] [] []) (setO st.ob k (.box t cells)) (.ptr k 0 0) (.pointer (some ⟨w.heap.size, 0, none⟩)) := by
  have hold : ∀ b, b < w.heap.size → (w.alloc (.cells arr et)).heap[b]? = w.heap[b]? := fun b hb => heap_alloc_old w _ hb
  have hlive : ∀ b, Live S0 G st.ob b → b < w.heap.size := fun b hb => by
    rcases hb with hb | hb | ⟨o, x, hx, hb⟩
    · exact Nat.lt_of_lt_of_le (h.old b hb).1 h.kept.size
    · exact (h.F b hb).2.2
    · exact h.top_lt hx b hb
  have hk : Kept base M w0 (w.alloc (.cells arr et)) := ⟨Nat.le_trans h.kept.size (by simp), fun b hb hm => (hold b (Nat.lt_of_lt_of_le hb h.kept.size)).trans (h.kept.heap b hb hm), h.kept.os, h.kept.tape, h.kept.output⟩
  obtain ⟨f1, f2, f3, f4⟩ := h.old_lt (Nat.le_refl w.heap.size)
  have key := h.add1 hno (.box t cells) (.pointer (some ⟨w.heap.size, 0, none⟩)) [w.heap.size] [] [] hk (by simp) (fun b hb => hold b (hlive b hb)) (fun b hb => by cases hb)
    (fun b hb => by
      simp at hb; subst hb
      exact ⟨f1, f2, (by simp), .inl f3, fun o x hx => (f4 o x hx).1⟩) (fun b hb => by cases hb) (by simp) (by
      obtain ⟨h1, h2, h3⟩ := set1_self (G := G) (k := k) (root := .pointer (some ⟨w.heap.size, 0, none⟩)) (top := [w.heap.size]) (ins := []) (fl := [])
      simp only [ObjR, h1, h2, h3]
      refine ⟨w.heap.size, arr, et, rfl, rfl, rfl, heap_alloc_new w _, hl, fun i v x hv hx => ?_⟩
      obtain ⟨q1, q2⟩ := hc i v x hv hx
      refine ⟨?_, q2⟩
      have hcomp : Comp (fun o => o = k) E w S0 G st.ob (w.alloc (.cells arr et)) (G.set1 k (.pointer (some ⟨w.heap.size, 0, none⟩)) [w.heap.size] [] []) (setO st.ob k (.box t cells)) :=
        ⟨fun b hb => hold b (hlive b (.inl hb)), fun b hb => ⟨hold b (hlive b (.inr (.inl hb))), List.mem_append.mpr (.inl hb)⟩, fun o t' c' ho hg => by
          rw [getO_setO, if_neg ho] at hg
          exact ⟨by simp [Gh.set1, ho], t', c', hg⟩, fun o e rows dp vr hh ho hg => by
          rw [getO_setO, if_neg ho] at hg
          refine ⟨by simp [Gh.set1, ho], rows, dp, vr, hh, hg, rfl, Nat.le_refl _, fun hd _ => ⟨hd, fun _ hx => hx, fun te j r hte hj => ⟨r, hj, fun col e' hc hq => ⟨rfl, fun g o0 n c hr => ?_⟩⟩⟩⟩
          refine cell_same (a := ⟨g, o0 + (j * te.ls.length + col), none⟩) (hold g (h.top_lt hg g ?_))
          obtain ⟨te', _, _, h3⟩ := (h.objs o _ hg : RowR E w _ e rows dp hh _ _ _)
          rcases h3 with ⟨h3, _⟩ | ⟨g', off, c', arr, u, bs, a1, a2, _⟩
          · rw [h3] at hr; cases hr
          · rw [a1] at hr; cases hr; rw [a2]; simp⟩
      exact q1.map hcomp (fun o ho e => hnk (by subst e; exact mem_idsL hv ho)))
  refine ⟨key, .ptr _ _ _ _ ⟨fun t' c' hg => ⟨rfl, w.heap.size, by simp [Gh.set1], rfl⟩, fun e rows dp vr hh te hg _ => ?_⟩ ⟨(fun _ h => by cases h), (fun _ h => by cases h)⟩⟩
  rw [getO_setO, if_pos rfl] at hg; cases hg

/-- nil slices -/
theorem keys_zero (t : Nat) : ∀ (ls : List Leaf) (c : Nat), ∀ k ∈ keys (zeroObjs t c ls), k.1 = t ∧ c ≤ k.2
  | [], c, k, hk => by simp [zeroObjs, keys] at hk
  | l :: ls, c, k, hk => by
    have ih := keys_zero t ls (c + 1)
    have rest : k ∈ keys (zeroObjs t (c + 1) ls) → k.1 = t ∧ c ≤ k.2 := fun hk => by
      obtain ⟨h1, h2⟩ := ih k hk
      exact ⟨h1, by omega⟩
    cases l with
    | sl e =>
      simp only [zeroObjs, keys, List.mem_cons] at hk
      rcases hk with hk | hk
      · subst hk; exact ⟨rfl, Nat.le_refl _⟩
      · exact rest hk
    | int k' => simp only [zeroObjs] at hk; exact rest hk
    | bool => simp only [zeroObjs] at hk; exact rest hk
    | str => simp only [zeroObjs] at hk; exact rest hk
theorem RelG.addNils (t : Nat) : ∀ (ls : List Leaf) (c : Nat) {G : Gh} {st : St}, RelG E base M S0 R0 w0 nt G st a w → (∀ e, Leaf.sl e ∈ ls → ∃ te, E.T e = some te) → (∀ k ∈ keys (zeroObjs t c ls), NoRef k st) →
    ∃ G', RelG E base M S0 R0 w0 nt G' { st with ob := upAll (zeroObjs t c ls) st.ob } a w ∧ (∀ k ∈ keys (zeroObjs t c ls), G'.root k = .slice none 0 0) ∧
      (∀ o, o ∉ keys (zeroObjs t c ls) → G'.root o = G.root o ∧ G'.top o = G.top o ∧ G'.ins o = G.ins o) ∧ G'.F = G.F ∧
      (∀ k', k' ∉ keys (zeroObjs t c ls) → NoRef k' st → NoRef k' { st with ob := upAll (zeroObjs t c ls) st.ob })
  | [], c, G, st, h, _, _ => ⟨G, h, (fun k hk => by simp [zeroObjs, keys] at hk), (fun _ _ => ⟨rfl, rfl, rfl⟩), rfl, fun _ _ h => h⟩
  | l :: ls, c, G, st, h, hls, hno => by
    have rest : ∀ {G : Gh} {st : St}, RelG E base M S0 R0 w0 nt G st a w → (∀ k ∈ keys (zeroObjs t (c + 1) ls), NoRef k st) → _ := fun h hno => RelG.addNils t ls (c + 1) h (fun e he => hls e (List.mem_cons_of_mem _ he)) hno
    cases l with
    | sl e =>
      obtain ⟨te, hte⟩ := hls e (by simp)
      simp only [zeroObjs, keys, List.mem_cons] at hno ⊢
      have h1 := h.addRow (hno (t, c) (.inl rfl)) e [] true (.slice none 0 0) [] [] [] h.kept (Nat.le_refl _) (fun _ _ => rfl) (fun b hb => by cases hb) (fun b hb => by cases hb) (fun b hb => by cases hb) (by simp)
        ⟨te, hte, (fun j r hj => by simp at hj), .inl ⟨rfl, rfl, rfl, rfl⟩⟩
      have hkey : (t, c) ∉ keys (zeroObjs t (c + 1) ls) := fun hk => by have := (keys_zero t ls (c + 1) _ hk).2; simp only at this; omega
      obtain ⟨G', r1, r2, r3, r4, r5⟩ := rest h1 (fun k hk => (hno k (.inr hk)).set (fun e => hkey (e ▸ hk)) (fun _ _ h => by cases h))
      refine ⟨G', r1, fun k hk => ?_, fun o ho => ?_, r4.trans (by simp [Gh.set1]), fun k' hk' hn => ?_⟩
      · rcases hk with rfl | hk
        · rw [(r3 _ hkey).1]; simp [Gh.set1]
        · exact r2 k hk
      · obtain ⟨o1, o2⟩ := not_or.mp ho
        obtain ⟨q1, q2, q3⟩ := r3 o o2
        rw [q1, q2, q3]
        simp [Gh.set1, o1]
      · obtain ⟨o1, o2⟩ := not_or.mp hk'
        exact r5 k' o2 (hn.set o1 (fun _ _ h => by cases h))
    | int k => simp only [zeroObjs] at hno ⊢; exact rest h hno
    | bool => simp only [zeroObjs] at hno ⊢; exact rest h hno
    | str => simp only [zeroObjs] at hno ⊢; exact rest h hno

/-! ## the end of an operation -/
def putD (st : St) : Option Nat → AV → St
  | none, _ => st
  | some t, x => { st with tm := putT st.tm t x }
theorem RelG.putO (h : RelG E base M S0 R0 w0 nt G st a w) {dst : Option Nat} (hd : inB nt dst = true) {x : AV} {v : Value} (hv : VR E w S0 G st.ob x v) :
    RelG E base M S0 R0 w0 nt G (putD st dst x) (a.put dst v) w := by
  cases dst with
  | none => exact h
  | some t =>
    have ht : t < nt := Nat.le_of_ble_eq_true hd
    exact h.put ht hv
theorem applyD_eq (st : St) (dst : Option Nat) (d : Delta) : applyD st dst d =
    putD { clearAll d.nw { (bif d.nm then ({ tm := numbT st.tm, ob := numbO (delAll d.dl st.ob) } : St) else { st with ob := delAll d.dl st.ob }) with
        ob := upAll d.up (bif d.nm then ({ tm := numbT st.tm, ob := numbO (delAll d.dl st.ob) } : St) else { st with ob := delAll d.dl st.ob }).ob } with
      ob := upAll d.up2 (upAll d.nw (clearAll d.nw { (bif d.nm then ({ tm := numbT st.tm, ob := numbO (delAll d.dl st.ob) } : St) else { st with ob := delAll d.dl st.ob }) with
        ob := upAll d.up (bif d.nm then ({ tm := numbT st.tm, ob := numbO (delAll d.dl st.ob) } : St) else { st with ob := delAll d.dl st.ob }).ob }).ob) } dst d.v := by
  cases dst <;> rfl
theorem RelG.done_pure (h : RelG E base M S0 R0 w0 nt G st a w) {dst : Option Nat} (hd : inB nt dst = true) {x : AV} {v : Value} (hv : VR E w S0 G st.ob x v) : RelG E base M S0 R0 w0 nt G (applyD st dst { v := x }) (a.put dst v) w := by
  rw [applyD_eq]
  exact h.putO hd hv

end
end Go.Proofs.Ythjkpphjlmmkdaa.Vai
