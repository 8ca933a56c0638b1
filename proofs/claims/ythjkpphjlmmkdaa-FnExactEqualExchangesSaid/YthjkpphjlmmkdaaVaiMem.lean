/- Operations that make memory: boxes, rows, zero values; no condition. -/
import Derived.Test.YthjkpphjlmmkdaaVaiAdd
namespace Go.Proofs.Ythjkpphjlmmkdaa.Vai
open Go

section
variable {P : Program} {E : Env} {base : Nat} {M : List Nat} {S0 : Nat → Prop} {R0 : Id → Value} {w0 : World} {nt : Nat} {G : Gh} {st : St} {a : Act} {w : World} {look : Look}

/-- what an operation with memory comes to -/
def Stepped (E : Env) (base : Nat) (M : List Nat) (S0 : Nat → Prop) (R0 : Id → Value) (w0 : World) (nt : Nat) (st : St) (a : Act) (dst : Option Nat) (d : Delta) (run : Result Value) : Prop :=
  ∃ v w', run = .ok v w' ∧ Rel E base M S0 R0 w0 nt (applyD st dst d) (a.put dst v) w'

theorem notPar {t : Nat} (ht : t < 1000000) (c : Nat) : isPar (t, c) = false := by
  cases h : isPar (t, c) with
  | false => rfl
  | true => have := Nat.le_of_ble_eq_true h; simp only at this; omega
theorem notPar1 {t : Nat} (ht : t < 1000000) (c : Nat) (x : Obj) : ∀ k ∈ keys [((t, c), x)], isPar k = false := fun k hk => by simp [keys] at hk; subst hk; exact notPar ht c
theorem notParZ {t : Nat} (ht : t < 1000000) (c : Nat) (ls : List Leaf) : ∀ k ∈ keys (zeroObjs t c ls), isPar k = false := fun k hk => by
  obtain ⟨k1, k2⟩ := k
  have := (keys_zero t ls c _ hk).1
  simp only at this
  subst this
  exact notPar ht _
theorem RelG.after_dels (h : RelG E base M S0 R0 w0 nt G st a w) (dl : List Id) (nw : List (Id × Obj)) (hpk : ∀ k ∈ keys nw, isPar k = false) :
    RelG E base M S0 R0 w0 nt G (clearAll nw { st with ob := delAll dl st.ob }) a w ∧ (∀ k ∈ keys nw, NoRef k (clearAll nw { st with ob := delAll dl st.ob })) ∧
      ∀ o x, getO (clearAll nw { st with ob := delAll dl st.ob }).ob o = some x → o ∉ keys nw ∧ o ∉ dl ∧ ∃ y, getO st.ob o = some y ∧ (x = y ∨ ∃ t cs cs', y = .box t cs ∧ x = .box t cs') := by
  obtain ⟨h1, h2, _, h4⟩ := (h.dels dl).clears nw hpk
  refine ⟨h1, h2, fun o x hx => ?_⟩
  obtain ⟨q1, y, q2, q3⟩ := h4 o x hx
  simp only [getO_delAll] at q2
  split at q2
  · cases q2
  · rename_i hn; exact ⟨q1, hn, y, q2, q3⟩

theorem RelG.newRow (h : RelG E base M S0 R0 w0 nt G st a w) {dst : Option Nat} (hd : inB nt dst = true) {t : Nat} (hti : t < 1000000) (dl : List Id) (top ins fl : List Nat) (root : Value) (e : TypeId) (rows : List (List Dat)) (deep : Bool) {w' : World}
    (hk : Kept base M w0 w') (hs : w.heap.size ≤ w'.heap.size)
    (hw : ∀ b, (S0 b ∨ b ∈ G.F ∨ ∃ o x, getO st.ob o = some x ∧ o ∉ dl ∧ b ∈ G.top o) → w'.heap[b]? = w.heap[b]?)
    (hfl : ∀ b ∈ fl, ∃ o ∈ dl, ∃ x, getO st.ob o = some x ∧ b ∈ G.top o)
    (htop : ∀ b ∈ top, b ∉ fl ∧ (w.heap.size ≤ b ∨ ∃ o ∈ dl, ∃ x, getO st.ob o = some x ∧ b ∈ G.top o))
    (hins : ∀ b ∈ ins, b ∈ fl ∨ ∃ o ∈ dl, ∃ x, getO st.ob o = some x ∧ b ∈ G.ins o) (hnd : ins.Nodup)
    (hrow : RowR E w' (fun b => S0 b ∨ b ∈ G.F ++ fl) e rows deep [] root top ins) :
    Rel E base M S0 R0 w0 nt (applyD st dst { v := .own (t, 0), nw := [((t, 0), .row e rows deep 0 [])], dl := dl }) (a.put dst root) w' := by
  obtain ⟨h1, h2, h3⟩ := h.after_dels dl [((t, 0), .row e rows deep 0 [])] (notPar1 hti 0 _)
  have hno := h2 (t, 0) (by simp [keys])
  have live : ∀ o x, getO (clearAll [((t, 0), .row e rows deep 0 [])] { st with ob := delAll dl st.ob }).ob o = some x → o ∉ dl ∧ ∃ y, getO st.ob o = some y := fun o x hx => by
    obtain ⟨_, q1, y, q2, _⟩ := h3 o x hx
    exact ⟨q1, y, q2⟩
  have h4 := h1.addRow hno e rows deep root top ins fl hk hs (fun b hb => hw b (by
      rcases hb with hb | hb | ⟨o, x, hx, hb⟩
      · exact .inl hb
      · exact .inr (.inl hb)
      · obtain ⟨q1, y, q2⟩ := live o x hx
        exact .inr (.inr ⟨o, y, q2, q1, hb⟩)))
    (fun b hb => by
      obtain ⟨o, ho, x, hx, hb⟩ := hfl b hb
      obtain ⟨q1, q2, q3⟩ := h.tops o x hx b hb
      refine ⟨q1, q3, Nat.lt_of_lt_of_le (h.top_lt hx b hb) hs, fun o' x' hx' hb' => ?_⟩
      obtain ⟨r1, y, r2⟩ := live o' x' hx'
      exact h.tops2 o x o' y hx r2 (fun e => r1 (e ▸ ho)) b hb hb')
    (fun b hb => by
      obtain ⟨q0, hb⟩ := htop b hb
      rcases hb with hb | ⟨o, ho, x, hx, hb⟩
      · obtain ⟨f1, f2, f3, f4⟩ := h.old_lt hb
        refine ⟨f1, f2, q0, .inl f3, fun o' x' hx' => ?_⟩
        obtain ⟨r1, y, r2⟩ := live o' x' hx'
        exact (f4 o' y r2).1
      · obtain ⟨q1, q2, q3⟩ := h.tops o x hx b hb
        refine ⟨q1, q2, q0, q3, fun o' x' hx' hb' => ?_⟩
        obtain ⟨r1, y, r2⟩ := live o' x' hx'
        exact h.tops2 o x o' y hx r2 (fun e => r1 (e ▸ ho)) b hb hb')
    (fun b hb => by
      rcases hins b hb with hb | ⟨o, ho, x, hx, hb⟩
      · refine ⟨.inr hb, fun o' x' hx' hb' => ?_⟩
        obtain ⟨o, ho, x, hx, hb⟩ := hfl b hb
        obtain ⟨r1, y, r2⟩ := live o' x' hx'
        exact h.apart hx r2 (fun e => r1 (e ▸ ho)) (.inl hb) (.inr hb')
      · refine ⟨.inl ((h.ins o x hx).1 b hb), fun o' x' hx' hb' => ?_⟩
        obtain ⟨r1, y, r2⟩ := live o' x' hx'
        exact h.ins2 o x o' y hx r2 (fun e => r1 (e ▸ ho)) b hb hb') hnd hrow
  have h1v : oneV root := by
    obtain ⟨te, _, _, b3⟩ := hrow
    rcases b3 with ⟨b3, _⟩ | ⟨g, off, c, arr, u, bs, a1, _⟩
    · rw [b3]; exact ⟨(fun _ h => by cases h), (fun _ h => by cases h)⟩
    · rw [a1]; exact ⟨(fun _ h => by cases h), (fun _ h => by cases h)⟩
  rw [applyD_eq]
  exact ⟨_, h4.putO hd (.own _ _ (fun e' rows' dp vr hh hg => by simp [Gh.set1]) h1v)⟩

/-! ## zero values -/
theorem zeroV_one (l : Leaf) : oneV (zeroV l) := by cases l <;> exact ⟨(fun _ h => by cases h), (fun _ h => by cases h)⟩
theorem TOk.zero {t : TypeId} {ti : TI} (h : TOk P E t ti) (w : World) : ∃ z, (zeroValue t).run P w = .ok z w ∧ z.cells = (ti.ls.map zeroV).toArray := by
  obtain ⟨i, hi, _, _, hz⟩ := h.info
  refine ⟨_, by simp [zeroValue, typeInfo, hi, hz]; rfl, ?_⟩
  cases ha : ti.agg with
  | true => simp [Value.cells]
  | false =>
    obtain ⟨l, hl, _⟩ := h.single ha
    simp [hl, one_cells (zeroV_one l)]
theorem zero_ot {l : Leaf} (hl : ∀ e, l = .sl e → ∃ te, E.T e = some te) : OT E w l (zeroDat l) (zeroV l) [] := by
  cases l with
  | int k => exact .int k (.int 0)
  | bool => exact .bool (.bool false)
  | str => exact .str (.str ⟨#[]⟩)
  | sl e =>
    obtain ⟨te, ht⟩ := hl e rfl
    exact .nil e te (.sl []) ht rfl

theorem RelG.kept_alloc (h : RelG E base M S0 R0 w0 nt G st a w) (o : Go.Obj) : Kept base M w0 (w.alloc o) ∧ (∀ b, b < w.heap.size → (w.alloc o).heap[b]? = w.heap[b]?) := by
  have hold : ∀ b, b < w.heap.size → (w.alloc o).heap[b]? = w.heap[b]? := fun b hb => heap_alloc_old w _ hb
  exact ⟨⟨Nat.le_trans h.kept.size (by simp), fun b hb hm => (hold b (Nat.lt_of_lt_of_le hb h.kept.size)).trans (h.kept.heap b hb hm), h.kept.os, h.kept.tape, h.kept.output⟩, hold⟩
theorem RelG.live_lt (h : RelG E base M S0 R0 w0 nt G st a w) {b : Nat} (hb : S0 b ∨ b ∈ G.F ∨ ∃ o x, getO st.ob o = some x ∧ b ∈ G.top o) : b < w.heap.size := by
  rcases hb with hb | hb | ⟨o, x, hx, hb⟩
  · exact Nat.lt_of_lt_of_le (h.old b hb).1 h.kept.size
  · exact (h.F b hb).2.2
  · exact h.top_lt hx b hb

/-- nil, as a row of its own -/
theorem opNil_ok (hE : EnvOk P E) (h : RelG E base M S0 R0 w0 nt G st a w) {dst : Option Nat} (hd : inB nt dst = true) {e : TypeId} (he : ∃ te, E.T e = some te) {t : Nat} (hti : t < 1000000) :
    Stepped E base M S0 R0 w0 nt st a dst { v := .own (t, 0), nw := [((t, 0), .row e [] true 0 [])] } (.ok (.slice none 0 0) w) := by
  obtain ⟨te, hte⟩ := he
  have _ := hE
  exact ⟨_, _, rfl, h.newRow hd hti [] [] [] [] _ e [] true h.kept (Nat.le_refl _) (fun _ _ => rfl) (fun b hb => by cases hb) (fun b hb => by cases hb) (fun b hb => by cases hb) (by simp)
    ⟨te, hte, (fun j r hj => by simp at hj), .inl ⟨rfl, rfl, rfl, rfl⟩⟩⟩

theorem zeroAVs_get (t : Nat) : ∀ (ls : List Leaf) (c i : Nat), (zeroAVs t c ls)[i]? = (ls[i]?).map fun l => match l with
    | .int k => .i k 0
    | .bool => .b false
    | .str => .s ⟨#[]⟩
    | .sl _ => .own (t, c + i)
  | [], c, i => by simp [zeroAVs]
  | l :: ls, c, i => by
    cases i with
    | zero => cases l <;> simp [zeroAVs]
    | succ i =>
      have := zeroAVs_get t ls (c + 1) i
      have e : c + 1 + i = c + (i + 1) := by omega
      rw [e] at this
      cases l <;> simp only [zeroAVs, List.getElem?_cons_succ] <;> exact this
theorem zeroAVs_length (t c : Nat) (ls : List Leaf) : (zeroAVs t c ls).length = ls.length := by
  induction ls generalizing c with
  | nil => rfl
  | cons l ls ih => cases l <;> simp [zeroAVs, ih]
theorem mem_keys_zero (t : Nat) : ∀ (ls : List Leaf) (c i : Nat) (e : TypeId), ls[i]? = some (.sl e) → (t, c + i) ∈ keys (zeroObjs t c ls)
  | [], c, i, e, h => by simp at h
  | l :: ls, c, i, e, h => by
    cases i with
    | zero => simp at h; subst h; simp [zeroObjs, keys]
    | succ i =>
      have := mem_keys_zero t ls (c + 1) i e (by simpa using h)
      have e : c + 1 + i = c + (i + 1) := by omega
      rw [e] at this
      cases l <;> simp only [zeroObjs, keys] <;> first | exact this | exact List.mem_cons_of_mem _ this
theorem zero_box (t : Nat) : ∀ (ls : List Leaf) (c : Nat) {ob : List (Id × Obj)} (o : Id) (b : TypeId) (cs : List AV), getO ob o = none → getO (upAll (zeroObjs t c ls) ob) o ≠ some (.box b cs)
  | [], c, ob, o, b, cs, h => by simp [zeroObjs, upAll, h]
  | l :: ls, c, ob, o, b, cs, h => by
    cases l with
    | sl e =>
      simp only [zeroObjs, upAll]
      by_cases ho : o = (t, c)
      · subst ho
        rw [getO_upAll]
        have : findN (zeroObjs t (c + 1) ls) (t, c) = none := by
          cases hf : findN (zeroObjs t (c + 1) ls) (t, c) with
          | none => rfl
          | some y =>
            have := (keys_zero t ls (c + 1) _ (findN_keys.mp ⟨y, hf⟩)).2
            simp only at this; omega
        rw [this, getO_setO, if_pos rfl]
        intro h; cases h
      · exact zero_box t ls (c + 1) o b cs (by rw [getO_setO, if_neg ho, h])
    | int k => simp only [zeroObjs]; exact zero_box t ls (c + 1) o b cs h
    | bool => simp only [zeroObjs]; exact zero_box t ls (c + 1) o b cs h
    | str => simp only [zeroObjs]; exact zero_box t ls (c + 1) o b cs h
/-- what zero cells are -/
theorem VR.zero {ob : List (Id × Obj)} {ti : TI} {t : Nat} (hroot : ∀ k ∈ keys (zeroObjs t 1 ti.ls), G.root k = .slice none 0 0) (i : Nat) (v : AV) (x : Value)
    (hv : (zeroAVs t 1 ti.ls)[i]? = some v) (hx : (ti.ls.map zeroV)[i]? = some x) : VR E w S0 G ob v x ∧ oneV x := by
  rw [zeroAVs_get] at hv
  obtain ⟨l, hl, rfl⟩ := Option.map_eq_some_iff.mp hv
  simp only [List.getElem?_map, hl, Option.map_some, Option.some.injEq] at hx
  subst hx
  refine ⟨?_, zeroV_one l⟩
  cases l with
  | int k => exact .i _ _
  | bool => exact .b _
  | str => exact .s _
  | sl e =>
    refine .own _ _ (fun e' rows dp vr hh hg => ?_) (zeroV_one (.sl e))
    exact (hroot _ (mem_keys_zero t ti.ls 1 i e hl)).symm

theorem keys_append (x y : List (Id × Obj)) : keys (x ++ y) = keys x ++ keys y := by
  induction x with
  | nil => rfl
  | cons p x ih => obtain ⟨k, v⟩ := p; simp [keys, ih]
theorem upAll_append (x y : List (Id × Obj)) : ∀ ob, upAll (x ++ y) ob = upAll y (upAll x ob) := by
  induction x with
  | nil => intro ob; rfl
  | cons p x ih => intro ob; obtain ⟨k, v⟩ := p; simp [upAll, ih]
theorem idsL_zero (t : Nat) : ∀ (ls : List Leaf) (c : Nat), ∀ k ∈ idsL (zeroAVs t c ls), k.1 = t ∧ c ≤ k.2
  | [], c, k, hk => by simp [zeroAVs, idsL] at hk
  | l :: ls, c, k, hk => by
    have rest : k ∈ idsL (zeroAVs t (c + 1) ls) → k.1 = t ∧ c ≤ k.2 := fun hk => by
      obtain ⟨h1, h2⟩ := idsL_zero t ls (c + 1) k hk
      exact ⟨h1, by omega⟩
    cases l <;> simp only [zeroAVs, idsL, idsA, List.nil_append, List.mem_append, List.mem_singleton] at hk
    · exact rest hk
    · exact rest hk
    · exact rest hk
    · rcases hk with hk | hk
      · subst hk; exact ⟨rfl, Nat.le_refl _⟩
      · exact rest hk

theorem opAlloc_ok (hE : EnvOk P E) (h : RelG E base M S0 R0 w0 nt G st a w) {dst : Option Nat} (hd : inB nt dst = true) {e : TypeId} {ti : TI} (he : E.T e = some ti) {t : Nat} (hti : t < 1000000) :
    Stepped E base M S0 R0 w0 nt st a dst { v := .ptr (t, 0) 0 0, nw := zeroObjs t 1 ti.ls ++ [((t, 0), .box e (zeroAVs t 1 ti.ls))] } ((Instr.alloc e true (.tuple #[])).run P w) := by
  have hT := hE.T e ti he
  obtain ⟨z, hz, hzc⟩ := hT.zero w
  refine ⟨.pointer (some ⟨w.heap.size, 0, none⟩), w.alloc (.cells (ti.ls.map zeroV).toArray e), (by simp only [Instr.alloc, Sem.run_bind, hz, Result.andThen_ok, newVar, newRow, hzc, run_newObj, Sem.run_pure]; rfl), ?_⟩
  obtain ⟨h1, h2, h3⟩ := h.after_dels [] (zeroObjs t 1 ti.ls ++ [((t, 0), .box e (zeroAVs t 1 ti.ls))]) (fun k hk => by
    rw [keys_append] at hk
    exact (List.mem_append.mp hk).elim (notParZ hti 1 ti.ls k) (notPar1 hti 0 _ k))
  simp only [keys_append, List.mem_append] at h2
  have hk0 : (t, 0) ∉ keys (zeroObjs t 1 ti.ls) := fun hk => by have := (keys_zero t ti.ls 1 _ hk).2; simp only at this; omega
  obtain ⟨G', n1, n2, n3, n4, n5⟩ := h1.addNils t ti.ls 1 hT.elem (fun k hk => h2 k (.inl hk))
  obtain ⟨b1, b2⟩ := n1.addBox (et := e) (t := e) (n5 (t, 0) hk0 (h2 _ (.inr (by simp [keys])))) (cells := zeroAVs t 1 ti.ls) (arr := (ti.ls.map zeroV).toArray) (by simp [zeroAVs_length]) (fun i v x hv hx => VR.zero n2 i v x hv (by simpa using hx))
    (fun hk => by have := (idsL_zero t ti.ls 1 _ hk).2; simp only at this; omega)
  rw [applyD_eq]
  simp only [upAll_append, upAll_one]
  exact ⟨_, b1.putO hd b2⟩

theorem opBox_ok (hE : EnvOk P E) (h : RelG E base M S0 R0 w0 nt G st a w) {dst : Option Nat} (hd : inB nt dst = true) {e : TypeId} {x : AV} {v : Value} (hv : VR E w S0 G st.ob x v) {t : Nat} (hti : t < 1000000)
    (hx : (∀ vs, x ≠ .tup vs) ∧ x ≠ .dead) (hk : (t, 0) ∉ idsL (flat x)) :
    Stepped E base M S0 R0 w0 nt st a dst { v := .ptr (t, 0) 0 0, nw := [((t, 0), .box e (flat x))] } ((Instr.box e v).run P w) := by
  have _ := hE
  obtain ⟨p1, p2, p3⟩ := hv.packed hx.1 hx.2
  refine ⟨.pointer (some ⟨w.heap.size, 0, none⟩), w.alloc (.cells v.cells e), (by simp only [Instr.box, Sem.run_bind, Result.andThen_ok, newVar, newRow, run_newObj, Sem.run_pure]; rfl), ?_⟩
  obtain ⟨h1, h2, h3⟩ := h.after_dels [] [((t, 0), .box e (flat x))] (notPar1 hti 0 _)
  have hc : Comp (fun o => o = (t, 0)) E w S0 G st.ob w G (clearAll [((t, 0), .box e (flat x))] st).ob := by
    have key := Comp.less (E := E) (w := w) (S0 := S0) (G := G) (ob := st.ob) (ob' := (clearAll [((t, 0), .box e (flat x))] st).ob) (fun o x hx => by
      obtain ⟨_, _, y, q1, q2⟩ := h3 o x hx
      exact ⟨y, q1, q2⟩)
    exact ⟨key.old, key.F, fun o t c _ hg => key.box o t c (fun h => h) hg, fun o e r d v hh _ hg => key.row o e r d v hh (fun h => h) hg⟩
  obtain ⟨b1, b2⟩ := h1.addBox (et := e) (t := e) (h2 (t, 0) (by simp [keys])) (cells := flat x) (arr := v.cells) p2 (fun i y u hy hu => by
    refine ⟨(p3 i y u hy hu).map hc (fun o ho e => hk (by subst e; exact mem_idsL hy ho)), p1.1 u ?_⟩
    exact List.mem_of_getElem? (i := i) (by simpa using hu)) hk
  rw [applyD_eq]
  exact ⟨_, b1.putO hd b2⟩

end
end Go.Proofs.Ythjkpphjlmmkdaa.Vai
