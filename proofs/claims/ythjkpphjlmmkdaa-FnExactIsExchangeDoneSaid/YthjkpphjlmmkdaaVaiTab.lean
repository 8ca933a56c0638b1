/- Tables of cells that become a new row; building structs and slices; no condition. -/
import Derived.Test.YthjkpphjlmmkdaaVaiMem
import Derived.Great.BuildSlice
namespace Go.Proofs.Ythjkpphjlmmkdaa.Vai
open Go

/-! ## ranges of cells -/
theorem setRange_length {α : Type} (xs : List α) : ∀ (l : List α) (i : Nat), (setRange l i xs).length = l.length := by
  induction xs with
  | nil => intro l i; rfl
  | cons x xs ih => intro l i; simp [setRange, ih]
theorem setRange_get {α : Type} (xs : List α) : ∀ (l : List α) (i k : Nat), (setRange l i xs)[k]? = if i ≤ k ∧ k < i + xs.length then (if k < l.length then xs[k - i]? else none) else l[k]? := by
  induction xs with
  | nil =>
    intro l i k
    have : ¬ (i ≤ k ∧ k < i + 0) := by omega
    simp only [setRange, List.length_nil, if_neg this]
  | cons x xs ih =>
    intro l i k
    simp only [setRange, ih, List.length_cons, List.length_set, List.getElem?_set]
    by_cases h1 : i + 1 ≤ k ∧ k < i + 1 + xs.length
    · have h2 : i ≤ k ∧ k < i + (xs.length + 1) := by omega
      rw [if_pos h1, if_pos h2]
      have : k - i = (k - (i + 1)) + 1 := by omega
      rw [this, List.getElem?_cons_succ]
    · rw [if_neg h1]
      by_cases h2 : i = k
      · subst h2
        have h3 : i ≤ i ∧ i < i + (xs.length + 1) := by omega
        simp
      · have h3 : ¬ (i ≤ k ∧ k < i + (xs.length + 1)) := by omega
        rw [if_neg h3, if_neg h2]
theorem setA_list : ∀ (vs : List Value) (k off : Nat) (cells : Array Value), ((vs.zipIdx k).foldl (fun (cs : Array Value) (p : Value × Nat) => cs.setIfInBounds (off + p.2) p.1) cells).toList = setRange cells.toList (off + k) vs
  | [], k, off, cells => by simp [setRange]
  | v :: vs, k, off, cells => by
    simp only [List.zipIdx_cons, List.foldl_cons, setRange]
    rw [setA_list vs (k + 1) off]
    simp only [Array.toList_setIfInBounds, Nat.add_assoc]
theorem fill_cons (place : Nat → Option (Nat × Nat)) (cells : Array Value) (i : Nat) (v : Value) (rest : List (Nat × Value)) {off : Nat} (hp : place i = some (off, v.cells.size)) (hle : off + v.cells.size ≤ cells.size) :
    Instr.fill place cells ((i, v) :: rest) = Instr.fill place ⟨setRange cells.toList off v.cells.toList⟩ rest := by
  have h1 : ¬ (off + v.cells.size > cells.size) := by omega
  have h2 : (v.cells.zipIdx.foldl (fun (cs : Array Value) (p : Value × Nat) => cs.setIfInBounds (off + p.2) p.1) cells) = ⟨setRange cells.toList off v.cells.toList⟩ := by
    apply Array.ext'
    rw [← Array.foldl_toList, Array.toList_zipIdx, setA_list]
    simp
  rw [← h2]
  simp [Instr.fill, hp, h1]

section
variable {P : Program} {E : Env} {base : Nat} {M : List Nat} {S0 : Nat → Prop} {R0 : Id → Value} {w0 : World} {nt : Nat} {G : Gh} {st : St} {a : Act} {w : World} {look : Look}

def CellsR (E : Env) (w : World) (S0 : Nat → Prop) (G : Gh) (ob : List (Id × Obj)) (cs : List AV) (us : List Value) : Prop :=
  cs.length = us.length ∧ ∀ (i : Nat) (v : AV) (x : Value), cs[i]? = some v → us[i]? = some x → VR E w S0 G ob v x ∧ oneV x
theorem CellsR.setRange {ob : List (Id × Obj)} {cs xs : List AV} {us vs : List Value} (h : CellsR E w S0 G ob cs us) (h' : CellsR E w S0 G ob xs vs) (off : Nat) :
    CellsR E w S0 G ob (setRange cs off xs) (setRange us off vs) := by
  refine ⟨by simp [setRange_length, h.1], fun i v x hv hx => ?_⟩
  rw [setRange_get] at hv hx
  rw [← h'.1] at hx
  split at hv
  · rename_i hc
    rw [if_pos hc] at hx
    split at hv
    · rw [if_pos (by rw [← h.1]; assumption)] at hx
      exact h'.2 _ _ _ hv hx
    · cases hv
  · rename_i hc
    rw [if_neg hc] at hx
    exact h.2 _ _ _ hv hx
theorem VR.flatR {ob : List (Id × Obj)} {x : AV} {v : Value} (h : VR E w S0 G ob x v) (hx : solid x = true) : CellsR E w S0 G ob (flat x) v.cells.toList := by
  obtain ⟨p1, p2, p3⟩ := h.packed (fun vs e => by subst e; cases hx) (fun e => by subst e; cases hx)
  refine ⟨by simp [p2], fun i y u hy hu => ⟨p3 i y u hy (by simpa using hu), p1.1 u (List.mem_of_getElem? hu)⟩⟩

theorem opBuild_fill (hE : EnvOk P E) {t : TypeId} {ti : TI} (ht : E.T t = some ti) (ha : ti.agg = true) {fields : Array Field} (hfs : fields.toList.map (fun f => (f.offset, f.type)) = ti.fs) {places : List (Nat × Nat)}
    (hpl : fields.toList.mapM (fun f => (P.info? f.type).map fun i => (f.offset, i.size)) = some places) {ob : List (Id × Obj)} {zs : List AV} :
    ∀ (ps : List (Nat × AV)) (vs : List (Nat × Value)), ps.length = vs.length → (∀ (k : Nat) (p : Nat × AV) (q : Nat × Value), ps[k]? = some p → vs[k]? = some q → p.1 = q.1 ∧ VR E w S0 G ob p.2 q.2) →
    ∀ (cs : List AV) (us : List Value), CellsR E w S0 G ob cs us → us.length = ti.ls.length → ∀ cs', opBuild E t zs ps cs = some cs' →
      ∃ us', Instr.fill (places.toArray[·]?) us.toArray vs = some us'.toArray ∧ CellsR E w S0 G ob cs' us'
  | [], [], _, _, cs, us, hc, hl, cs', hb => by
    simp only [opBuild, Option.some.injEq] at hb
    subst hb
    exact ⟨us, rfl, hc⟩
  | [], _ :: _, h, _, _, _, _, _, _, _ => by simp at h
  | _ :: _, [], h, _, _, _, _, _, _, _ => by simp at h
  | (i, x) :: ps, (i', v) :: vs, hlen, hp, cs, us, hc, hl, cs', hb => by
    obtain ⟨e, hv⟩ := hp 0 _ _ rfl rfl
    simp only at e hv
    subst e
    simp only [opBuild, ht] at hb
    split at hb
    · cases hb
    · rename_i off ft hf
      split at hb
      · cases hb
      · rename_i fi hfi
        obtain ⟨hg, hb2⟩ := bifT hb
        simp only [Bool.and_eq_true] at hg
        obtain ⟨hg1, hg2⟩ := hg
        have hg1 := beqT hg1
        have hfr := hv.flatR hg2
        have hsz : v.cells.size = fi.ls.length := by have := hfr.1; simp at this; omega
        obtain ⟨fi', hfi', hle⟩ := (hE.T t ti ht).fld i off ft hf
        rw [hfi] at hfi'; cases hfi'
        have hplace : places.toArray[i]? = some (off, v.cells.size) := by
          rw [← hfs] at hf
          simp only [List.getElem?_map, Option.map_eq_some_iff, Prod.mk.injEq] at hf
          obtain ⟨fd, hfd, rfl, rfl⟩ := hf
          obtain ⟨inf, hinf, hs, _⟩ := (hE.T _ _ hfi).info
          have key : ∀ (l : List Field) (pl : List (Nat × Nat)), l.mapM (fun f => (P.info? f.type).map fun i => (f.offset, i.size)) = some pl → ∀ (i : Nat) (fd : Field), l[i]? = some fd → ∀ inf, P.info? fd.type = some inf → pl[i]? = some (fd.offset, inf.size) := by
            intro l
            induction l with
            | nil => intro pl _ i fd h; simp at h
            | cons f l ih =>
              intro pl hpl i fd h inf hinf
              simp only [List.mapM_cons, Option.bind_eq_bind, Option.pure_def] at hpl
              cases hi : P.info? f.type with
              | none => simp [hi] at hpl
              | some q =>
                cases hr : l.mapM (fun f => (P.info? f.type).map fun i => (f.offset, i.size)) with
                | none => simp [hi, hr] at hpl
                | some rest =>
                  simp [hi, hr] at hpl
                  subst hpl
                  cases i with
                  | zero => simp at h; subst h; rw [hi] at hinf; cases hinf; rfl
                  | succ i => simpa using ih rest hr i fd (by simpa using h) inf hinf
          have := key _ _ hpl i fd hfd inf hinf
          rw [hsz, ← hs]
          simpa using this
        rw [fill_cons _ _ _ _ _ hplace (by simp; omega)]
        simp only
        exact opBuild_fill hE ht ha hfs hpl ps vs (by simpa using hlen) (fun k p q hk hk' => hp (k + 1) p q (by simpa using hk) (by simpa using hk')) _ _ (hc.setRange hfr off) (by simp [setRange_length, hl]) cs' hb2

theorem places_some (hE : EnvOk P E) : ∀ (l : List Field) (fs : List (Nat × TypeId)), l.map (fun f => (f.offset, f.type)) = fs → (∀ (f fo : Nat) (ft : TypeId), fs[f]? = some (fo, ft) → ∃ fi, E.T ft = some fi) →
    ∃ places, l.mapM (fun f => (P.info? f.type).map fun i => (f.offset, i.size)) = some places
  | [], _, _, _ => ⟨[], rfl⟩
  | f :: l, fs, h, hf => by
    subst h
    obtain ⟨places, hp⟩ := places_some hE l _ rfl (fun i fo ft hi => hf (i + 1) fo ft (by simpa using hi))
    obtain ⟨fi, hfi⟩ := hf 0 f.offset f.type rfl
    obtain ⟨inf, hinf, _⟩ := (hE.T _ _ hfi).info
    exact ⟨(f.offset, inf.size) :: places, by simp [List.mapM_cons, hinf, hp]⟩

theorem opBuild_ok (hE : EnvOk P E) (h : RelG E base M S0 R0 w0 nt G st a w) {dst : Option Nat} (hd : inB nt dst = true) {ty : TypeId} {ti : TI} (hty : E.T ty = some ti) (ha : ti.agg = true) {t : Nat} (hti : t < 1000000)
    {ps : List (Nat × AV)} {vs : List (Nat × Value)} (hlen : ps.length = vs.length) (hp : ∀ (k : Nat) (p : Nat × AV) (q : Nat × Value), ps[k]? = some p → vs[k]? = some q → p.1 = q.1 ∧ VR E w S0 G st.ob p.2 q.2)
    (hdis : ∀ p ∈ ps, ∀ k ∈ idsA p.2, k ∉ keys (zeroObjs t 1 ti.ls)) {cs : List AV} (hb : opBuild E ty [] ps (zeroAVs t 1 ti.ls) = some cs) :
    Stepped E base M S0 R0 w0 nt st a dst { v := .agg cs, nw := zeroObjs t 1 ti.ls } ((Instr.build ty vs.toArray).run P w) := by
  have hT := hE.T ty ti hty
  obtain ⟨fields, hu, hfs⟩ := hT.struct ha
  obtain ⟨places, hpl⟩ := places_some hE fields.toList ti.fs hfs (fun f fo ft hf => by obtain ⟨fi, hfi, _⟩ := hT.fld f fo ft hf; exact ⟨fi, hfi⟩)
  obtain ⟨h1, h2, h3⟩ := h.after_dels [] (zeroObjs t 1 ti.ls) (notParZ hti 1 ti.ls)
  obtain ⟨G', n1, n2, n3, n4, n5⟩ := h1.addNils t ti.ls 1 hT.elem h2
  have hc : Comp (fun o => o ∈ keys (zeroObjs t 1 ti.ls)) E w S0 G st.ob w G' (upAll (zeroObjs t 1 ti.ls) (clearAll (zeroObjs t 1 ti.ls) st).ob) := by
    have key := Comp.less (E := E) (w := w) (S0 := S0) (G := G) (ob := st.ob) (ob' := (clearAll (zeroObjs t 1 ti.ls) st).ob) (fun o x hx => by
      obtain ⟨_, _, y, q1, q2⟩ := h3 o x hx
      exact ⟨y, q1, q2⟩)
    have hget : ∀ o x, o ∉ keys (zeroObjs t 1 ti.ls) → getO (upAll (zeroObjs t 1 ti.ls) (clearAll (zeroObjs t 1 ti.ls) st).ob) o = some x → getO (clearAll (zeroObjs t 1 ti.ls) st).ob o = some x := fun o x ho hx => by
      rw [getO_upAll] at hx
      cases hf : findN (zeroObjs t 1 ti.ls) o with
      | some y => exact absurd (findN_keys.mp ⟨y, hf⟩) ho
      | none => rw [hf] at hx; exact hx
    refine ⟨key.old, fun b hb => ⟨rfl, by rw [n4]; exact hb⟩, fun o t' c' ho hg => ?_, fun o e r d v hh ho hg => ?_⟩
    · obtain ⟨q1, q2⟩ := key.box o t' c' (fun h => h) (hget o _ ho hg)
      exact ⟨(n3 o ho).1, q2⟩
    · obtain ⟨q1, q2⟩ := key.row o e r d v hh (fun h => h) (hget o _ ho hg)
      exact ⟨(n3 o ho).1, q2⟩
  obtain ⟨us', f1, f2⟩ := opBuild_fill (E := E) (w := w) (S0 := S0) (G := G') (ob := upAll (zeroObjs t 1 ti.ls) (clearAll (zeroObjs t 1 ti.ls) st).ob) hE hty ha hfs hpl (zs := []) ps vs hlen
    (fun k p q hk hk' => ⟨(hp k p q hk hk').1, (hp k p q hk hk').2.map hc (fun o ho hin => hdis p (List.mem_of_getElem? hk) o ho hin)⟩)
    (zeroAVs t 1 ti.ls) (ti.ls.map zeroV) ⟨by simp [zeroAVs_length], fun i v x hv hx => VR.zero n2 i v x hv hx⟩ (by simp) cs hb
  obtain ⟨i, hi, _, _, hz⟩ := hT.info
  have hz' : i.zero = some (.agg (ti.ls.map zeroV).toArray) := by rw [hz, ha]; rfl
  refine ⟨.agg us'.toArray, w, run_build w ty vs.toArray us'.toArray ?_, ?_⟩
  · simp only [Program.built, hi, hu, hz', hpl]
    exact f1
  · rw [applyD_eq]
    exact ⟨_, n1.putO hd (.agg _ _ (by simp [f2.1]) (fun k v x hv hx => (f2.2 k v x hv (by simpa using hx)).1) (fun k x hx => by
      have hk : k < us'.length := by have := (Array.getElem?_eq_some_iff.mp hx).1; simpa using this
      exact (f2.2 k _ x (List.getElem?_eq_getElem (by rw [f2.1]; exact hk)) (by simpa using hx)).2))⟩

end
end Go.Proofs.Ythjkpphjlmmkdaa.Vai
