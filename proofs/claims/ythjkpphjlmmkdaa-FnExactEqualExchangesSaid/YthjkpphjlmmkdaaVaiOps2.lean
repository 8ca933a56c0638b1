/- Operations that only compute (continued): loads, addresses, numbers; no condition. -/
import Derived.Test.YthjkpphjlmmkdaaVaiOps1
namespace Go.Proofs.Ythjkpphjlmmkdaa.Vai
open Go

section
variable {P : Program} {E : Env} {base : Nat} {M : List Nat} {S0 : Nat → Prop} {R0 : Id → Value} {w0 : World} {nt : Nat} {G : Gh} {st : St} {a : Act} {w : World} {look : Look}

/-! ## the machine's small steps -/
theorem TOk.size {t : TypeId} {ti : TI} (h : TOk P E t ti) (w : World) : (sizeOf t).run P w = .ok ti.ls.length w := by
  obtain ⟨i, hi, hs, _⟩ := h.info
  simp [sizeOf, typeInfo, hi, hs]
theorem TOk.isAgg {t : TypeId} {ti : TI} (h : TOk P E t ti) (w : World) : (Go.isAgg t).run P w = .ok ti.agg w := by
  have hd := h.desc
  cases ha : ti.agg with
  | true =>
    rw [ha] at hd
    simp only [if_true] at hd
    obtain ⟨fields, hf, _⟩ := hd
    simp [Go.isAgg, run_underlying hf]
  | false =>
    rw [ha] at hd
    simp only [Bool.false_eq_true, if_false] at hd
    obtain ⟨l, _, hf⟩ := hd
    cases l <;> simp [Go.isAgg, run_underlying hf, descOf]
theorem TOk.cellsOf {t : TypeId} {ti : TI} (h : TOk P E t ti) : P.cellsOf t = ti.ls.length := by
  obtain ⟨i, hi, hs, _⟩ := h.info
  simp [Program.cellsOf, hi, hs]
theorem TOk.single {t : TypeId} {ti : TI} (h : TOk P E t ti) (ha : ti.agg = false) : ∃ l, ti.ls = [l] ∧ P.underlying t = some (descOf l) := by
  have := h.desc
  rw [ha] at this
  simpa using this
theorem TOk.struct {t : TypeId} {ti : TI} (h : TOk P E t ti) (ha : ti.agg = true) : ∃ fields : Array Field, P.underlying t = some (.struct fields) ∧ fields.toList.map (fun f => (f.offset, f.type)) = ti.fs := by
  have := h.desc
  rw [ha] at this
  simpa using this
theorem run_loadVar_of {t : TypeId} {ti : TI} (h : TOk P E t ti) (g o : Nat) (u : Nat → Value) (hc : ∀ i, i < ti.ls.length → w.cell? ⟨g, o + i, none⟩ = some (u i)) :
    (loadVar t ⟨g, o, none⟩).run P w = .ok (if ti.agg then .agg ((List.range ti.ls.length).map u).toArray else u 0) w := by
  have hadd : ∀ i, (⟨g, o, none⟩ : Addr).add i = ⟨g, o + i, none⟩ := fun i => by unfold Addr.add; split <;> simp_all
  cases ha : ti.agg with
  | true =>
    simp only [loadVar, Sem.run_bind, h.isAgg, ha, Result.andThen_ok, if_true, h.size]
    rw [run_loadCells w _ _ u (fun j hj => by rw [hadd]; exact hc j hj)]
    simp only [Result.andThen_ok, Sem.run_pure]
  | false =>
    obtain ⟨l, hl, _⟩ := h.single ha
    have := hc 0 (by rw [hl]; simp)
    simp only [Nat.add_zero] at this
    simp [loadVar, h.isAgg, ha, this]

/-! ## struct values and their cells -/
/-- v is a value of a type with these cells, cs its cells -/
def Packed (agg : Bool) (v : Value) (cs : List Value) : Prop := (∀ x ∈ cs, oneV x) ∧ if agg then v = .agg cs.toArray else cs = [v]
theorem Packed.cells {agg : Bool} {v : Value} {cs : List Value} (h : Packed agg v cs) : v.cells.toList = cs := by
  obtain ⟨h1, h2⟩ := h
  cases agg with
  | true => simp only [if_true] at h2; subst h2; simp [Value.cells]
  | false =>
    simp only [Bool.false_eq_true, if_false] at h2
    subst h2
    rw [one_cells (h1 v (by simp))]
theorem VR.packed {ob : List (Id × Obj)} {x : AV} {v : Value} (h : VR E w S0 G ob x v) (hx : ∀ vs, x ≠ .tup vs) (hd : x ≠ .dead) :
    Packed (match x with | .agg _ => true | _ => false) v v.cells.toList ∧ v.cells.size = (flat x).length ∧ ∀ (i : Nat) (y : AV) (u : Value), (flat x)[i]? = some y → v.cells[i]? = some u → VR E w S0 G ob y u := by
  have simple : ∀ {x : AV} {v : Value}, VR E w S0 G ob x v → oneV v → flat x = [x] → Packed false v v.cells.toList ∧ v.cells.size = (flat x).length ∧
      ∀ (i : Nat) (y : AV) (u : Value), (flat x)[i]? = some y → v.cells[i]? = some u → VR E w S0 G ob y u := fun {x v} h h1 hf => by
    rw [hf, one_cells h1]
    refine ⟨⟨fun y hy => ?_, ?_⟩, rfl, fun i y u hy hu => ?_⟩
    · simp at hy; subst hy; exact h1
    · simp
    · cases i with
      | zero => simp at hy hu; subst hy; subst hu; exact h
      | succ i => simp at hy
  cases h with
  | dead => exact absurd rfl hd
  | tup vs => exact absurd rfl (hx vs)
  | agg cs arr hl h h1 =>
    refine ⟨⟨fun y hy => ?_, ?_⟩, hl.symm, fun i y u hy hu => h i y u hy hu⟩
    · obtain ⟨i, hi⟩ := List.getElem?_of_mem hy
      exact h1 i y (by simpa [Value.cells] using hi)
    · simp [Value.cells]
  | i k n => exact simple (.i k n) ⟨(fun _ h => by cases h), (fun _ h => by cases h)⟩ rfl
  | b x => exact simple (.b x) ⟨(fun _ h => by cases h), (fun _ h => by cases h)⟩ rfl
  | s x => exact simple (.s x) ⟨(fun _ h => by cases h), (fun _ h => by cases h)⟩ rfl
  | nil => exact simple .nil ⟨(fun _ h => by cases h), (fun _ h => by cases h)⟩ rfl
  | ro e al rows v h => exact simple (.ro e al rows v h) h.one rfl
  | own o v h h1 => exact simple (.own o v h h1) h1 rfl
  | vw o lo n v h h1 => exact simple (.vw o lo n v h h1) h1 rfl
  | nest o ver row col e whole rows v h hn => exact simple (.nest o ver row col e whole rows v h hn) h.one rfl
  | ptr o row off v h h1 => exact simple (.ptr o row off v h h1) h1 rfl
  | pro e te al cells off g o0 u ht hl hm hr => exact simple (.pro e te al cells off g o0 u ht hl hm hr) ⟨(fun _ h => by cases h), (fun _ h => by cases h)⟩ rfl

/-! ## what an operation that only computes comes to -/
def PureR (E : Env) (S0 : Nat → Prop) (G : Gh) (ob : List (Id × Obj)) (run : Result Value) (w : World) (r : OpRes) : Prop :=
  ∃ x v, r.o = some [] ∧ r.f [] = { v := x } ∧ run = .ok v w ∧ VR E w S0 G ob x v
theorem pureR {ob : List (Id × Obj)} {run : Result Value} {r : OpRes} {x : AV} {v : Value} (hr : val x = some r) (h1 : run = .ok v w) (h2 : VR E w S0 G ob x v) : PureR E S0 G ob run w r := by
  simp only [val, just, Option.some.injEq] at hr
  subst hr
  exact ⟨x, v, rfl, rfl, h1, h2⟩
theorem pureR_under {ob : List (Id × Obj)} {run : Result Value} {r : OpRes} {x : AV} {g : Bool} (hr : under g { v := x } = some r) (hg : r.g = true) (h1 : g = true → ∃ v, run = .ok v w ∧ VR E w S0 G ob x v) : PureR E S0 G ob run w r := by
  simp only [under, Option.some.injEq] at hr
  subst hr
  obtain ⟨v, h2, h3⟩ := h1 hg
  exact ⟨x, v, rfl, rfl, h2, h3⟩

theorem headD_get {α : Type} (l : List α) (d : α) : l.headD d = l.getD 0 d := by cases l <;> rfl
/-- a packed value out of its cells -/
theorem VR.pack {ob : List (Id × Obj)} {t : TypeId} {ti : TI} (hT : TOk P E t ti) (cs : List AV) (u : Nat → Value) (hl : cs.length = ti.ls.length)
    (h : ∀ (i : Nat) (y : AV), cs[i]? = some y → VR E w S0 G ob y (u i) ∧ oneV (u i)) :
    VR E w S0 G ob (pack ti.agg cs) (if ti.agg then .agg ((List.range ti.ls.length).map u).toArray else u 0) := by
  cases ha : ti.agg with
  | true =>
    simp only [Vai.pack, cond_true, if_true]
    refine .agg cs _ (by simp [hl]) (fun i y x hy hx => ?_) (fun i x hx => ?_)
    · have hi : i < ti.ls.length := by have := (List.getElem?_eq_some_iff.mp hy).1; omega
      simp [hi] at hx
      subst hx
      exact (h i y hy).1
    · have hi : i < ti.ls.length := by
        have := (Array.getElem?_eq_some_iff.mp hx).1
        simpa using this
      simp [hi] at hx
      subst hx
      exact (h i _ (List.getElem?_eq_getElem (by omega))).2
  | false =>
    obtain ⟨l, hls, _⟩ := hT.single ha
    rw [hls] at hl
    match cs, hl with
    | [y], _ =>
      simp only [Vai.pack, cond_false, List.headD_cons, Bool.false_eq_true, if_false]
      exact (h 0 y rfl).1
theorem datAVs_length (al : Bool) (ls : List Leaf) (ds : List Dat) : (datAVs al ls ds).length = ls.length := by
  induction ls generalizing ds with
  | nil => rfl
  | cons l ls ih => simp [datAVs, ih]
theorem datAVs_get (al : Bool) : ∀ (ls : List Leaf) (ds : List Dat) (i : Nat), (datAVs al ls ds)[i]? = (ls[i]?).map fun l => datAV al l (ds.getD i default)
  | [], ds, i => by simp [datAVs]
  | l :: ls, ds, i => by
    cases i with
    | zero => cases ds <;> rfl
    | succ i =>
      simp only [datAVs, List.getElem?_cons_succ]
      rw [datAVs_get al ls ds.tail i]
      cases ds <;> simp
theorem nestAVs_get (o : Id) (ver : Nat) (row : Int) : ∀ (ls : List Leaf) (c : Nat) (ds : List Dat) (i : Nat), (nestAVs o ver row c ls ds)[i]? = (ls[i]?).map fun l => nestAV o ver row (c + i) l (ds.getD i default)
  | [], c, ds, i => by simp [nestAVs]
  | l :: ls, c, ds, i => by
    cases i with
    | zero => cases ds <;> rfl
    | succ i =>
      simp only [nestAVs, List.getElem?_cons_succ]
      rw [nestAVs_get o ver row ls (c + 1) ds.tail i]
      have : c + 1 + i = c + (i + 1) := by omega
      rw [this]
      cases ds <;> simp
theorem nestAVs_length (o : Id) (ver : Nat) (row : Int) (c : Nat) (ls : List Leaf) (ds : List Dat) : (nestAVs o ver row c ls ds).length = ls.length := by
  induction ls generalizing ds c with
  | nil => rfl
  | cons l ls ih => simp [nestAVs, ih]
theorem leafEq_iff {l l' : Leaf} (h : leafEq l l' = true) : l = l' := by
  cases l <;> cases l' <;> simp [leafEq, ikEq] at h <;> simp_all
theorem liesIn_get : ∀ (ls : List Leaf) (off : Nat) (es : List Leaf), liesIn ls off es = true → ∀ (i : Nat) (l : Leaf), ls[i]? = some l → es[off + i]? = some l
  | [], _, _, _, i, l, h => by simp at h
  | l0 :: ls, off, es, hl, i, l, h => by
    simp only [liesIn, Bool.and_eq_true] at hl
    obtain ⟨h1, h2⟩ := hl
    cases i with
    | zero =>
      simp at h; subst h
      cases he : es[off]? with
      | none => rw [he] at h1; cases h1
      | some l' => rw [he] at h1; simp only at h1; rw [leafEq_iff h1]
    | succ i =>
      have := liesIn_get ls (off + 1) es h2 i l (by simpa using h)
      rw [← this]
      congr 1
      omega
theorem fits_get {ls : List Leaf} {off : Nat} {e : TypeId} (h : fits E ls off e = true) : ∃ te, E.T e = some te ∧ ∀ (i : Nat) (l : Leaf), ls[i]? = some l → te.ls[off + i]? = some l := by
  unfold fits at h
  split at h
  · rename_i te ht
    exact ⟨te, ht, liesIn_get ls off te.ls h⟩
  · cases h
theorem getD_drop {α : Type} (l : List α) (n i : Nat) (d : α) : (l.drop n).getD i d = l.getD (n + i) d := by simp [List.getD]
theorem VR.datAV {ob : List (Id × Obj)} {al : Bool} {l : Leaf} {d : Dat} {v : Value} (h : RD E w (fun b => S0 b ∨ (al = true ∧ b ∈ G.F)) l d v) : VR E w S0 G ob (datAV al l d) v := by
  cases h with
  | int k d => exact .i _ _
  | bool d => exact .b _
  | str d => exact .s _
  | sl e te d A c u ht hc hl hm hr => exact .ro _ _ _ _ (RD.sl_dat (.sl e te d A c u ht hc hl hm hr) rfl)
theorem OT.win {e : TypeId} {te : TI} {d : Dat} {v : Value} {bs : List Nat} (h : OT E w (.sl e) d v bs) (ht : E.T e = some te) : Win te.ls.length d.rows.length v 0 d.rows.length v := by
  cases h with
  | nil _ _ _ _ h => rw [h]; exact ⟨by omega, by simp, by simp, none, 0, by simp, rfl, rfl, rfl⟩
  | row e te' d g off c arr u bs ht' hb hc hs hl hm hr =>
    rw [ht] at ht'; cases ht'
    exact ⟨by omega, by omega, by omega, some ⟨g, off, none⟩, c, by simp, off, rfl, by simp, by simpa using hc, .inr (by simp), Nat.le_refl _⟩

theorem opLoad_ok (hE : EnvOk P E) (h : RelG E base M S0 R0 w0 nt G st a w) (hlook : ∀ i x, look i = some x → getO st.ob i = some x) {t : TypeId} {x : AV} {v : Value}
    (hv : VR E w S0 G st.ob x v) {r : OpRes} (hr : opLoad E look t x = some r) : PureR E S0 G st.ob ((Instr.loadAt t v).run P w) w r := by
  cases hv with
  | ptr o row off v hp h1 =>
    simp only [opLoad] at hr
    split at hr
    · cases hr
    · rename_i ti ht
      have hT := hE.T t ti ht
      split at hr
      · rename_i bt cells hl
        have hg := hlook _ _ hl
        cases hb : Nat.ble (off + ti.ls.length) cells.length <;> rw [hb] at hr
        · cases hr
        simp only [cond_true] at hr
        have hb' := Nat.le_of_ble_eq_true hb
        obtain ⟨_, g, hroot, rfl⟩ := hp.1 _ _ hg
        obtain ⟨g', arr, et, b1, b2, b3, b4, b5, b6⟩ := (h.objs o _ hg : BoxR E w S0 G st.ob cells _ _ _)
        rw [hroot] at b1; cases b1
        have hcell : ∀ i, i < ti.ls.length → w.cell? ⟨g, off + i, none⟩ = some (arr.getD (off + i) undef) := fun i hi => by
          simp only [World.cell?, b4]
          have : off + i < arr.size := by omega
          simp [this]
        refine pureR hr (v := if ti.agg then .agg ((List.range ti.ls.length).map fun i => arr.getD (off + i) undef).toArray else arr.getD (off + 0) undef) ?_ ?_
        · simp only [Instr.loadAt, Instr.sureAddr, Sem.run_bind, Sem.run_pure, Result.andThen_ok]
          exact run_loadVar_of hT g off (fun i => arr.getD (off + i) undef) hcell
        · refine VR.pack hT _ (fun i => arr.getD (off + i) undef) (by simp; omega) (fun i y hy => ?_)
          rw [List.getElem?_take] at hy
          split at hy
          · rename_i hi
            rw [List.getElem?_drop] at hy
            have hsz : off + i < arr.size := by omega
            exact b6 (off + i) y _ hy (by simp [hsz])
          · cases hy
      · rename_i e rows dp ver holes hl
        have hg := hlook _ _ hl
        rcases Bool.eq_false_or_eq_true (colIn off ti.ls.length holes || !fits E ti.ls off e) with hb | hb <;> rw [hb] at hr
        · cases hr
        simp only [cond_false] at hr
        simp only [Bool.or_eq_false_iff, Bool.not_eq_false'] at hb
        obtain ⟨hcol, hfit⟩ := hb
        obtain ⟨te, hte, hfits⟩ := fits_get hfit
        obtain ⟨hrow0, hrow1, g, o0, n, c, hroot, rfl⟩ := hp.2 _ _ _ _ _ te hg hte
        obtain ⟨te', b1, b2, b3⟩ := (h.objs o _ hg : RowR E w _ e rows dp holes _ _ _)
        rw [hte] at b1; cases b1
        rcases b3 with ⟨b3, _⟩ | ⟨g', off', c', arr, u, bs, a1, a2, a3, a4, a5, a6, a7, a8, a9, a10⟩
        · rw [b3] at hroot; cases hroot
        rw [a1] at hroot; cases hroot
        have hlt : ∀ i, i < ti.ls.length → off + i < te.ls.length := fun i hi => (List.getElem?_eq_some_iff.mp (hfits i _ (List.getElem?_eq_getElem hi))).1
        have hcell : ∀ i, i < ti.ls.length → w.cell? ⟨g, o0 + (row.toNat * te.ls.length + off) + i, none⟩ = some (u row.toNat (off + i)) := fun i hi => by
          have := (a6 row.toNat (off + i) hrow1 (hlt i hi)).1
          simp only [World.cell?, a3]
          rw [← this]
          simp only [Option.isSome_none, Bool.false_eq_true, if_false]
          congr 1
          omega
        have nohole : ∀ i, i < ti.ls.length → ∀ q, (q, off + i) ∉ holes := fun i hi q hq => by
          have : ∀ hs : List (Int × Nat), (q, off + i) ∈ hs → colIn off ti.ls.length hs = true := fun hs => by
            induction hs with
            | nil => intro hh; cases hh
            | cons p hs ih =>
              intro hh
              obtain ⟨p1, p2⟩ := p
              simp only [colIn]
              rcases List.mem_cons.mp hh with hh | hh
              · cases hh
                have c1 : Nat.ble off (off + i) = true := Nat.ble_eq.mpr (by omega)
                have c2 : Nat.blt (off + i) (off + ti.ls.length) = true := Nat.ble_eq.mpr (by omega)
                simp [c1, c2]
              · rw [ih hh]; cases (Nat.ble off p2 && Nat.blt p2 (off + ti.ls.length)) <;> rfl
          rw [this holes hq] at hcol; cases hcol
        have hrw : rows[row.toNat]? = some (rows.getD row.toNat []) := by simp [List.getElem?_eq_getElem hrow1, List.getD]
        refine pureR hr (v := if ti.agg then .agg ((List.range ti.ls.length).map fun i => u row.toNat (off + i)).toArray else u row.toNat (off + 0)) ?_ ?_
        · simp only [Instr.loadAt, Instr.sureAddr, Sem.run_bind, Sem.run_pure, Result.andThen_ok]
          exact run_loadVar_of hT g _ (fun i => u row.toNat (off + i)) hcell
        · refine VR.pack hT _ (fun i => u row.toNat (off + i)) (nestAVs_length _ _ _ _ _ _) (fun i y hy => ⟨?_, ?_⟩)
          · rw [nestAVs_get] at hy
            obtain ⟨l, hli, rfl⟩ := Option.map_eq_some_iff.mp hy
            have hi : i < ti.ls.length := (List.getElem?_eq_some_iff.mp hli).1
            have hl' := hfits i l hli
            have key := a7 row.toNat (off + i) _ l hrw hl' (fun ⟨q, hq, _⟩ => nohole i hi q hq)
            rw [getD_drop]
            cases dp with
            | false =>
              simp only [Bool.false_eq_true, if_false] at key
              generalize u row.toNat (off + i) = uv at key
              cases key with
              | int k d => exact .i _ _
              | bool d => exact .b _
              | str d => exact .s _
              | sl e1 te1 _ A c1 u1 ht1 hc1 hl1 hm1 hr1 =>
                refine .nest _ _ _ _ _ _ _ _ (RD.sl_dat (.sl e1 te1 _ A c1 u1 ht1 hc1 hl1 hm1 hr1) rfl) ⟨fun eo rows' dp' vr' h' hg' => ?_, fun eo rows' vr' h' te' hg' _ _ _ => ?_⟩
                · rw [hg] at hg'; cases hg'; exact Nat.le_refl _
                · rw [hg] at hg'; cases hg'
            | true =>
              simp only [if_true] at key
              have hins : ∀ b ∈ bs row.toNat (off + i), b ∈ G.F := fun b hb => (h.ins o _ hg).1 b (by
                rw [a8 rfl]; exact mem_flatB.mpr ⟨row.toNat, off + i, hrow1, hlt i hi, hb⟩)
              have hrd := key.rd (S := fun b => S0 b ∨ b ∈ G.F) (fun b hb => .inr (hins b hb))
              obtain ⟨uv, huv⟩ : ∃ uv, u row.toNat (off + i) = uv := ⟨_, rfl⟩
              rw [huv] at hrd key ⊢
              cases l with
              | int k => cases hrd with | int k d => exact .i _ _
              | bool => cases hrd with | bool d => exact .b _
              | str => cases hrd with | str d => exact .s _
              | sl e1 =>
                refine .nest _ _ _ _ _ _ _ _ (hrd.sl_dat rfl) ⟨fun eo rows' dp' vr' h' hg' => ?_, fun eo rows' vr' h' te' hg' hv' hh' ht' => ?_⟩
                · rw [hg] at hg'; cases hg'; exact Nat.le_refl _
                · rw [hg] at hg'; cases hg'
                  rw [hte] at ht'; cases ht'
                  obtain ⟨te1, hte1⟩ := (hE.T e te hte).elem e1 (List.mem_of_getElem? hl')
                  refine ⟨hrow0, hl', _, g, o0, _, _, uv, hrw, a1, ?_, fun _ => rfl, 0, _, te1, hte1, key.win hte1⟩
                  have := hcell i hi
                  rw [huv] at this
                  rw [← this]; congr 2; omega
          · have hi : i < ti.ls.length := by
              have := (List.getElem?_eq_some_iff.mp hy).1
              rwa [nestAVs_length] at this
            exact (a6 row.toNat (off + i) hrow1 (hlt i hi)).2
      · cases hr
  | pro e te al cells off g o0 u hte hl hm hrd =>
    simp only [opLoad] at hr
    split at hr
    · cases hr
    · rename_i ti ht
      have hT := hE.T t ti ht
      cases hb : fits E ti.ls off e <;> rw [hb] at hr
      · cases hr
      simp only [cond_true] at hr
      obtain ⟨te', hte', hfits⟩ := fits_get hb
      rw [hte] at hte'; cases hte'
      have hlt : ∀ i, i < ti.ls.length → off + i < te.ls.length := fun i hi => (List.getElem?_eq_some_iff.mp (hfits i _ (List.getElem?_eq_getElem hi))).1
      refine pureR hr (v := if ti.agg then .agg ((List.range ti.ls.length).map fun i => u (off + i)).toArray else u (off + 0)) ?_ ?_
      · simp only [Instr.loadAt, Instr.sureAddr, Sem.run_bind, Sem.run_pure, Result.andThen_ok]
        refine run_loadVar_of hT g _ (fun i => u (off + i)) (fun i hi => ?_)
        rw [Nat.add_assoc]
        exact (hm (off + i) (hlt i hi)).2
      · refine VR.pack hT _ (fun i => u (off + i)) (datAVs_length _ _ _) (fun i y hy => ?_)
        rw [datAVs_get] at hy
        obtain ⟨l, hli, rfl⟩ := Option.map_eq_some_iff.mp hy
        rw [getD_drop]
        have := hrd (off + i) l (hfits i l hli)
        exact ⟨.datAV this, this.one⟩
  | _ => simp [opLoad] at hr

end
end Go.Proofs.Ythjkpphjlmmkdaa.Vai
