/- The arguments of a statement, as the interpreter's data; no condition. -/
import Derived.Test.YthjkpphjlmmkdaaVaiLevel
import Derived.ChangeArms
import Derived.WideShapes
import Derived.SizedLaws
namespace Go.Proofs.Ythjkpphjlmmkdaa.Vai
open Go

/-- data that fit a cell's kind, within the bounds of a statement's arguments -/
inductive OkD (E : Env) : Leaf → Dat → Prop
  | int (k : IntKind) (n : Int) (h : (Lit.int k n).wf = true) : OkD E (.int k) (.int n)
  | bool (b : Bool) : OkD E .bool (.bool b)
  | str (s : ByteArray) (h : s.size ≤ reachBytes) : OkD E .str (.str s)
  | sl (e : TypeId) (te : TI) (rows : List (List Dat)) (ht : E.T e = some te) (hn : rows.length * te.by_ ≤ reachBytes) (hl : ∀ r ∈ rows, r.length = te.ls.length)
      (h : ∀ r ∈ rows, ∀ (i : Nat) (l : Leaf), te.ls[i]? = some l → OkD E l (r.getD i default)) : OkD E (.sl e) (.sl rows)

/-- the cells of a struct are those of its fields, one behind the other -/
def flatOk (E : Env) (ls : List Leaf) : Nat → List (Nat × TypeId) → Bool
  | cur, [] => Nat.beq cur ls.length
  | cur, (off, ft) :: r => Nat.beq off cur && match E.T ft with
    | some fi => liesIn fi.ls cur ls && flatOk E ls (cur + fi.ls.length) r
    | none => false

section
variable {P : Program} {E : Env} {w : World}
variable {H : Type} {enc : TypeId × Value → H} {base : Nat} {spare : Nat → Bool} {held : Bool}

def RowOk (E : Env) (w : World) (ls : List Leaf) (ds : List Dat) (cs : List Value) : Prop :=
  ds.length = ls.length ∧ cs.length = ls.length ∧ ∀ (i : Nat) (l : Leaf), ls[i]? = some l → OkD E l (ds.getD i default) ∧ RD E w (fun b => b < w.heap.size) l (ds.getD i default) (cs.getD i undef)

theorem fields_ok {ls : List Leaf} {cs : List Value} (hcs : cs.length = ls.length) : ∀ (fs : List (Nat × TypeId)) (cur : Nat), flatOk E ls cur fs = true → cur ≤ ls.length → (∀ fo ft fi, (fo, ft) ∈ fs → E.T ft = some fi → ∃ ds, RowOk E w fi.ls ds ((cs.drop fo).take fi.ls.length)) →
    ∃ ds : List Dat, ds.length = ls.length - cur ∧ ∀ (i : Nat) (l : Leaf), ls[cur + i]? = some l → OkD E l (ds.getD i default) ∧ RD E w (fun b => b < w.heap.size) l (ds.getD i default) (cs.getD (cur + i) undef)
  | [], cur, h, _, _ => by
    have := beqT h
    subst this
    exact ⟨[], by simp, fun i l hl => by rw [List.getElem?_eq_none (by omega)] at hl; cases hl⟩
  | (off, ft) :: r, cur, h, hle, hf => by
    simp only [flatOk, Bool.and_eq_true] at h
    obtain ⟨h1, h2⟩ := h
    have h1 := beqT h1
    subst h1
    split at h2
    · rename_i fi hfi
      simp only [Bool.and_eq_true] at h2
      have hl := liesIn_get _ _ _ h2.1
      have hle2 : off + fi.ls.length ≤ ls.length := by
        rcases Nat.eq_zero_or_pos fi.ls.length with h0 | h0
        · omega
        · have := hl (fi.ls.length - 1) _ (List.getElem?_eq_getElem (by omega))
          have := (List.getElem?_eq_some_iff.mp this).1
          omega
      obtain ⟨ds1, a1, a2, a3⟩ := hf off ft fi (by simp) hfi
      obtain ⟨ds2, b1, b2⟩ := fields_ok hcs r (off + fi.ls.length) h2.2 hle2 (fun fo ft' fi' hm ht' => hf fo ft' fi' (by simp [hm]) ht')
      refine ⟨ds1 ++ ds2, by simp [a1, b1]; omega, fun i l hil => ?_⟩
      by_cases hi : i < fi.ls.length
      · have e1 : (ds1 ++ ds2).getD i default = ds1.getD i default := by
          simp only [List.getD_eq_getElem?_getD]; rw [List.getElem?_append_left (by omega)]
        have hl' : fi.ls[i]? = some l := by
          have := hl i _ (List.getElem?_eq_getElem hi)
          rw [hil] at this
          rw [List.getElem?_eq_getElem hi]
          exact this.symm
        have := a3 i l hl'
        have e2 : ((cs.drop off).take fi.ls.length).getD i undef = cs.getD (off + i) undef := by
          simp only [List.getD_eq_getElem?_getD, List.getElem?_take, if_pos hi, List.getElem?_drop]
        rw [e2] at this
        rw [e1]
        exact this
      · have e1 : (ds1 ++ ds2).getD i default = ds2.getD (i - fi.ls.length) default := by
          simp only [List.getD_eq_getElem?_getD]; rw [List.getElem?_append_right (by omega), a1]
        rw [e1]
        have := b2 (i - fi.ls.length) l (by rw [← hil]; congr 1; omega)
        rw [show off + fi.ls.length + (i - fi.ls.length) = off + i by omega] at this
        exact this
    · cases h2

theorem cells_at {a : Addr} {n : Nat} {cs : List Value} (h : w.cells? base a n = some cs) : cs.length = n ∧ ∀ i, i < n → w.cell? (a.add i) = some (cs.getD i undef) := by
  unfold World.cells? at h
  split at h
  · have hl := mapM_some_length h
    refine ⟨by simpa using hl, fun i hi => ?_⟩
    have := mapM_some_get h i i (by simp [hi])
    rw [this, List.getD_eq_getElem?_getD, List.getElem?_eq_getElem (by simp at hl; omega)]
    rfl
  · cases h
theorem cell_spot {a : Addr} {v : Value} (h : w.cell? a = some v) : a.spot = none ∧ a.block < w.heap.size := by
  unfold World.cell? at h
  split at h
  · rename_i hb
    have hlt := (Array.getElem?_eq_some_iff.mp hb).1
    refine ⟨?_, hlt⟩
    cases hs : a.spot with
    | none => rfl
    | some s => rw [hs] at h; simp at h
  · cases h
theorem add_none {a : Addr} (n : Nat) (h : a.spot = none) : a.add n = ⟨a.block, a.off + n, none⟩ := by
  unfold Addr.add
  split
  · rename_i h0; subst h0; cases a; simp_all
  · rfl

theorem trod_row (hE : EnvOk P E) (hfl : ∀ t ti, E.T t = some ti → ti.agg = true → flatOk E ti.ls 0 ti.fs = true) : ∀ (fuel : Nat) (t : TypeId) (ti : TI) (cs : List Value) (x : DataW H × List MemPlace), E.T t = some ti →
    DataW.trod enc P w base spare held fuel t cs = some x → (∀ n ∈ x.1.weights P t, n ≤ reachBytes) → ∃ ds, RowOk E w ti.ls ds cs := by
  intro fuel
  induction fuel with
  | zero => intro t ti cs x _ h; simp [DataW.trod] at h
  | succ fuel ih =>
    intro t ti cs x ht h hw
    have hT := hE.T t ti ht
    cases hag : ti.agg with
    | true =>
      obtain ⟨fields, hu, hfs⟩ := hT.struct hag
      obtain ⟨xs, n, hn, rfl, hlen, hxl, hx⟩ := DataW.trod_struct hu h
      cases hn
      rw [hT.cellsOf] at hlen
      have hflat := hfl t ti ht hag
      obtain ⟨ds, d1, d2⟩ := fields_ok (w := w) (E := E) hlen ti.fs 0 hflat (Nat.zero_le _) (fun fo ft fi hm hfi => by
        rw [← hfs] at hm
        obtain ⟨fd, hfd, e⟩ := List.mem_map.mp hm
        cases e
        obtain ⟨i, hi⟩ := List.getElem?_of_mem hfd
        have hx' := hx i fd (by simpa using hi)
        have hli : i < xs.length := by
          have := (List.getElem?_eq_some_iff.mp hi).1
          simp at this
          omega
        rw [List.getElem?_eq_getElem hli] at hx'
        rw [(hE.T _ fi hfi).cellsOf] at hx'
        refine ih fd.type fi _ xs[i] hfi hx' fun m hm' => hw m ?_
        simp only [DataW.weights, hu]
        exact DataW.weights_mem_each (j := i) (t := fd.type) (d := xs[i].1) (by simp [hi]) (by simp [hli]) m hm')
      exact ⟨ds, by simpa using d1, hlen, fun i l hl => by simpa using d2 i l (by simpa using hl)⟩
    | false =>
      obtain ⟨l, hls, hu⟩ := hT.single hag
      rw [hls]
      have one : ∀ (d : Dat) (v : Value), cs = [v] → OkD E l d → RD E w (fun b => b < w.heap.size) l d v → ∃ ds, RowOk E w [l] ds cs := fun d v hc h1 h2 => by
        subst hc
        refine ⟨[d], rfl, rfl, fun i l' hl' => ?_⟩
        cases i with
        | zero => simp at hl'; subst hl'; exact ⟨h1, h2⟩
        | succ i => simp at hl'
      cases l with
      | int k =>
        obtain ⟨n, h1, rfl, h3⟩ := DataW.trod_int hu h
        exact one (.int n) _ h1 (.int k n h3) (.int k (.int n))
      | bool =>
        obtain ⟨b, h1, rfl⟩ := DataW.trod_bool hu h
        exact one (.bool b) _ h1 (.bool b) (.bool (.bool b))
      | str =>
        obtain ⟨s, h1, rfl, h3⟩ := DataW.trod_string hu h
        refine one (.str s) _ h1 (.str s ?_) (.str (.str s))
        have := hw s.data.toList.length (by simp [DataW.weights])
        simpa using this
      | sl e =>
        obtain ⟨te, hte⟩ := hT.elem e (by rw [hls]; simp)
        have hE' := hE.T e te hte
        rcases DataW.trod_slice hu h with ⟨h1, rfl⟩ | ⟨a, len, cap, elems, rest, n, hn, h1, rfl, h3, h4, h5, h6, h7, _, _⟩
        · refine one (.sl []) _ h1 (.sl e te [] hte (by simp) (by simp) (by simp)) ?_
          exact .sl e te (.sl []) none 0 (fun _ _ => undef) hte (Nat.le_refl _) (fun j r hr => by simp [Dat.rows] at hr) (fun j i hj => by simp [Dat.rows] at hj) (fun j i r l hr => by simp [Dat.rows] at hr)
        · cases hn
          rw [hE'.cellsOf] at h7
          have each : ∀ j : Nat, ∃ p : List Dat × List Value, j < len → RowOk E w te.ls p.1 p.2 ∧ w.cells? base (a.add (j * te.ls.length)) te.ls.length = some p.2 := fun j => by
            by_cases hj : j < len
            · have hb := h7 j hj
              rw [List.getElem?_eq_getElem (by omega)] at hb
              simp only [Option.bind_eq_some_iff] at hb
              obtain ⟨cs', hc1, hc2⟩ := hb
              obtain ⟨ds, hds⟩ := ih e te cs' _ hte hc2 (fun m hm => hw m (by
                simp only [DataW.weights, hu, descOf, List.mem_cons, List.mem_append]
                refine .inr (.inl ?_)
                have key : ∀ (l : List (DataW H)) (d : DataW H), d ∈ l → m ∈ d.weights P e → m ∈ DataW.weightsAll P e l := by
                  intro l
                  induction l with
                  | nil => intro d hd; cases hd
                  | cons y l ih =>
                    intro d hd hm
                    simp only [DataW.weightsAll, List.mem_append]
                    rcases List.mem_cons.mp hd with rfl | hd
                    · exact .inl hm
                    · exact .inr (ih d hd hm)
                exact key _ _ (List.mem_map.mpr ⟨_, List.getElem_mem (l := elems) (n := j) (by omega), rfl⟩) hm))
              exact ⟨(ds, cs'), fun _ => ⟨hds, hc1⟩⟩
            · exact ⟨([], []), fun h => absurd h hj⟩
          obtain ⟨p, hp⟩ := Classical.axiomOfChoice each
          let rows : List (List Dat) := (List.range len).map fun j => (p j).1
          have hrl : rows.length = len := by simp [rows]
          have hget : ∀ (j : Nat) (r : List Dat), rows[j]? = some r → j < len ∧ r = (p j).1 := fun j r hr => by
            have hj : j < len := by have := (List.getElem?_eq_some_iff.mp hr).1; omega
            simp [rows, hj] at hr
            exact ⟨hj, hr.symm⟩
          have hmem : ∀ r ∈ rows, ∃ j, j < len ∧ r = (p j).1 := fun r hr => by
            obtain ⟨j, hj⟩ := List.getElem?_of_mem hr
            obtain ⟨h1, h2⟩ := hget j r hj
            exact ⟨j, h1, h2⟩
          refine one (.sl rows) _ h1 (.sl e te rows hte ?_ (fun r hr => ?_) (fun r hr i l hl => ?_)) ?_
          · have := hw ((elems.length + rest.length) * P.bytesOf e) (by simp [DataW.weights, hu, descOf])
            obtain ⟨inf, i1, i2, i3, i4⟩ := hE'.info
            have hby : P.bytesOf e = te.by_ := by simp [Program.bytesOf, i1, i3]
            rw [hby] at this
            rw [hrl]
            exact Nat.le_trans (Nat.mul_le_mul_right _ (by omega)) this
          · obtain ⟨j, hj, rfl⟩ := hmem r hr
            exact (hp j hj).1.1
          · obtain ⟨j, hj, rfl⟩ := hmem r hr
            exact ((hp j hj).1.2.2 i l hl).1
          · have := RD.sl (E := E) (w := w) (S := fun b => b < w.heap.size) e te (.sl rows) (some a) cap (fun j i => (p j).2.getD i undef) hte (by show rows.length ≤ cap; omega)
              (fun j r hr => by obtain ⟨hj, rfl⟩ := hget j r hr; exact (hp j hj).1.1)
              (fun j i hj hi => by
                have hj : j < len := by rw [← hrl]; exact hj
                obtain ⟨c1, c2⟩ := cells_at (hp j hj).2
                have hc := c2 i hi
                obtain ⟨s1, s2⟩ := cell_spot hc
                have c0 := c2 0 (by omega)
                have hz : (a.add (j * te.ls.length)).add 0 = a.add (j * te.ls.length) := by simp [Addr.add]
                have hsp : a.spot = none := by
                  have hj0 : 0 < len := by omega
                  have c00 := (cells_at (hp 0 hj0).2).2 0 (by omega)
                  have := (cell_spot c00).1
                  simpa [Addr.add] using this
                rw [add_none _ hsp, add_none _ rfl] at hc s2
                refine ⟨a, rfl, hsp, s2, ?_⟩
                rw [show a.off + (j * te.ls.length + i) = a.off + j * te.ls.length + i by omega]
                exact hc)
              (fun j i r l hr hl => by
                obtain ⟨hj, rfl⟩ := hget j r hr
                exact ((hp j hj).1.2.2 i l hl).2)
            have e : (Dat.sl rows).rows.length = len := hrl
            rw [e] at this
            exact this

theorem RowOk.rds {ls : List Leaf} {ds : List Dat} {cs : List Value} (h : RowOk E w ls ds cs) : RDs E w (fun b => b < w.heap.size) ls ds cs := by
  induction ls generalizing ds cs with
  | nil =>
    obtain ⟨h1, h2, _⟩ := h
    have : ds = [] := List.length_eq_zero_iff.mp h1
    subst this
    have : cs = [] := List.length_eq_zero_iff.mp h2
    subst this
    exact .nil
  | cons l ls ih =>
    obtain ⟨h1, h2, h3⟩ := h
    match ds, cs, h1, h2 with
    | d :: ds, c :: cs, h1, h2 =>
      refine .cons _ _ _ _ _ _ (by simpa using (h3 0 l rfl).2) (ih ⟨by simpa using h1, by simpa using h2, fun i l' hl' => by simpa using h3 (i + 1) l' (by simpa using hl')⟩)
theorem RDs.app {S : Nat → Prop} {ls1 ls2 : List Leaf} {d1 d2 : List Dat} {c1 c2 : List Value} (h1 : RDs E w S ls1 d1 c1) (h2 : RDs E w S ls2 d2 c2) : RDs E w S (ls1 ++ ls2) (d1 ++ d2) (c1 ++ c2) := by
  induction h1 with
  | nil => exact h2
  | cons l d v ls ds vs h1 _ ih => exact .cons _ _ _ _ _ _ h1 ih

/-- the data of a list of types: cell after cell -/
inductive OkDs (E : Env) : List Leaf → List Dat → Prop
  | nil : OkDs E [] []
  | cons (l : Leaf) (d : Dat) (ls : List Leaf) (ds : List Dat) (h1 : OkD E l d) (h : OkDs E ls ds) : OkDs E (l :: ls) (d :: ds)
theorem RowOk.oks {ls : List Leaf} {ds : List Dat} {cs : List Value} (h : RowOk E w ls ds cs) : OkDs E ls ds := by
  induction ls generalizing ds cs with
  | nil =>
    have : ds = [] := List.length_eq_zero_iff.mp h.1
    subst this
    exact .nil
  | cons l ls ih =>
    obtain ⟨h1, h2, h3⟩ := h
    match ds, cs, h1, h2 with
    | d :: ds, c :: cs, h1, h2 =>
      exact .cons _ _ _ _ (by simpa using (h3 0 l rfl).1) (ih (cs := cs) ⟨by simpa using h1, by simpa using h2, fun i l' hl' => by simpa using h3 (i + 1) l' (by simpa using hl')⟩)
theorem OkDs.app {ls1 ls2 : List Leaf} {d1 d2 : List Dat} (h1 : OkDs E ls1 d1) (h2 : OkDs E ls2 d2) : OkDs E (ls1 ++ ls2) (d1 ++ d2) := by
  induction h1 with
  | nil => exact h2
  | cons l d ls ds h1 _ ih => exact .cons _ _ _ _ h1 ih

theorem trodAll_open (hE : EnvOk P E) (hfl : ∀ t ti, E.T t = some ti → ti.agg = true → flatOk E ti.ls 0 ti.fs = true) : ∀ (ts : List TypeId) (ps : List TI) (vs : List Value) (dw : List (DataW H)) (mp : List MemPlace), lsOf E ts = some ps →
    DataW.TrodAll enc P w base spare held ts vs dw mp → (∀ n ∈ DataW.weightsEach P ts dw, n ≤ reachBytes) → (∀ (j : Nat) t v, ts[j]? = some t → vs[j]? = some v → Value.okWide P w .any base t v) →
    ∃ cells ds, PackR ps vs cells ∧ RDs E w (fun b => b < w.heap.size) (joinLs ps) ds cells ∧ OkDs E (joinLs ps) ds
  | [], ps, [], [], mp, hps, _, _, _ => by
    simp only [lsOf, Option.some.injEq] at hps
    subst hps
    exact ⟨[], [], .nil, .nil, .nil⟩
  | [], _, _ :: _, _, _, _, h, _, _ => by simp [DataW.TrodAll] at h
  | [], _, [], _ :: _, _, _, h, _, _ => by simp [DataW.TrodAll] at h
  | _ :: _, _, [], _, _, _, h, _, _ => by simp [DataW.TrodAll] at h
  | _ :: _, _, _ :: _, [], _, _, h, _, _ => by simp [DataW.TrodAll] at h
  | t :: ts, ps, v :: vs, d :: dw, mp, hps, h, hw, hok => by
    obtain ⟨ti, q, ht, hq, rfl⟩ := lsOf_cons hps
    obtain ⟨p, q', ⟨fuel, h1⟩, h2, _⟩ := h
    obtain ⟨cells, ds, i1, i2, i3⟩ := trodAll_open hE hfl ts q vs dw q' hq h2 (fun n hn => hw n (by simp [DataW.weightsEach, hn])) (fun j t v hj hv => hok (j + 1) t v (by simpa using hj) (by simpa using hv))
    obtain ⟨ds1, r⟩ := trod_row hE hfl fuel t ti _ _ ht h1 (fun n hn => hw n (by simp [DataW.weightsEach, hn]))
    have hT := hE.T t ti ht
    have hov := hok 0 t v rfl rfl
    have hpk : Packed ti.agg v v.cells.toList := by
      have rd := r.rds
      have hone : ∀ u ∈ v.cells.toList, oneV u := fun u hu => by
        obtain ⟨i, hi⟩ := List.getElem?_of_mem hu
        have hil : i < ti.ls.length := by have := (List.getElem?_eq_some_iff.mp hi).1; have := r.2.1; omega
        have := (r.2.2 i _ (List.getElem?_eq_getElem hil)).2.one
        rw [List.getD_eq_getElem?_getD, hi] at this
        exact this
      refine ⟨hone, ?_⟩
      cases hag : ti.agg with
      | true =>
        obtain ⟨fields, hu, _⟩ := hT.struct hag
        obtain ⟨cs, rfl, _⟩ := WideShapes.okWide_struct hu hov
        simp [Value.cells]
      | false =>
        obtain ⟨l, hls, hu⟩ := hT.single hag
        have : ∃ v', v = v' ∧ v'.cells = #[v'] := by
          cases l with
          | int k => obtain ⟨n, rfl⟩ := WideShapes.okWide_int hu hov; exact ⟨_, rfl, rfl⟩
          | bool => obtain ⟨n, rfl⟩ := WideShapes.okWide_bool hu hov; exact ⟨_, rfl, rfl⟩
          | str => obtain ⟨n, rfl⟩ := WideShapes.okWide_string hu hov; exact ⟨_, rfl, rfl⟩
          | sl e => obtain ⟨a, n, c, rfl⟩ := WideShapes.okWide_slice hu hov; exact ⟨_, rfl, rfl⟩
        obtain ⟨v', rfl, hc⟩ := this
        simp [hc]
    exact ⟨v.cells.toList ++ cells, ds1 ++ ds, .cons _ _ _ _ _ _ hpk r.2.1 i1, r.rds.app i2, r.oks.app i3⟩
end
end Go.Proofs.Ythjkpphjlmmkdaa.Vai
