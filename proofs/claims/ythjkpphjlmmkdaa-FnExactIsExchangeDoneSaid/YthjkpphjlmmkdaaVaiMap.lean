/- What keeps the relation between a state of the interpreter and the machine; no condition. -/
import Derived.Test.YthjkpphjlmmkdaaVaiSt
namespace Go.Proofs.Ythjkpphjlmmkdaa.Vai
open Go

theorem mem_idsL {cs : List AV} {i : Nat} {v : AV} {o : Id} (h : cs[i]? = some v) (ho : o ∈ idsA v) : o ∈ idsL cs := by
  induction cs generalizing i with
  | nil => simp at h
  | cons c cs ih =>
    simp only [idsL, List.mem_append]
    cases i with
    | zero => simp at h; subst h; exact .inl ho
    | succ i => exact .inr (ih (by simpa using h))
/-- From one state of memory and objects to another: what values may rely on. -/
structure Comp (Ex : Id → Prop) (E : Env) (w : World) (S0 : Nat → Prop) (G : Gh) (ob : List (Id × Obj)) (w' : World) (G' : Gh) (ob' : List (Id × Obj)) : Prop where
  old : ∀ b, S0 b → w'.heap[b]? = w.heap[b]?
  F : ∀ b ∈ G.F, w'.heap[b]? = w.heap[b]? ∧ b ∈ G'.F
  box : ∀ o t cells, ¬ Ex o → getO ob' o = some (.box t cells) → G'.root o = G.root o ∧ ∃ t0 cells0, getO ob o = some (.box t0 cells0)
  row : ∀ o e rows' dp' vr' h', ¬ Ex o → getO ob' o = some (.row e rows' dp' vr' h') → G'.root o = G.root o ∧ ∃ rows dp vr h, getO ob o = some (.row e rows dp vr h) ∧
    rows'.length = rows.length ∧ vr ≤ vr' ∧ (dp' = true → vr' = vr → dp = true ∧ (∀ x ∈ h, x ∈ h') ∧ ∀ (te : TI) (j : Nat) (r : List Dat), E.T e = some te → rows[j]? = some r →
      ∃ r', rows'[j]? = some r' ∧ ∀ (col : Nat) (e' : TypeId), te.ls[col]? = some (.sl e') → (∀ q, (q, col) ∉ h') →
        (r'.getD col default).rows.length = (r.getD col default).rows.length ∧
        ∀ g o0 n c, G.root o = .slice (some ⟨g, o0, none⟩) n c → w'.cell? ⟨g, o0 + (j * te.ls.length + col), none⟩ = w.cell? ⟨g, o0 + (j * te.ls.length + col), none⟩)

theorem PtrR.map {E : Env} {w w' : World} {S0 : Nat → Prop} {G G' : Gh} {ob ob' : List (Id × Obj)} {Ex : Id → Prop} (c : Comp Ex E w S0 G ob w' G' ob') {o : Id} {row : Int} {off : Nat} {v : Value}
    (h : PtrR E G ob o row off v) (hx : ¬ Ex o) : PtrR E G' ob' o row off v := by
  obtain ⟨h1, h2⟩ := h
  refine ⟨fun t cells hg => ?_, fun e rows dp vr hh te hg ht => ?_⟩
  · obtain ⟨hr, t0, c0, h0⟩ := c.box o t cells hx hg
    obtain ⟨a, g, b, d⟩ := h1 t0 c0 h0
    exact ⟨a, g, hr.trans b, d⟩
  · obtain ⟨hr, rows0, dp0, vr0, hh0, h0, hl, _⟩ := c.row o e rows dp vr hh hx hg
    obtain ⟨a, b, g, o0, n, cc, d, f⟩ := h2 e rows0 dp0 vr0 hh0 te h0 ht
    exact ⟨a, hl ▸ b, g, o0, n, cc, hr.trans d, f⟩
theorem NestR.map {E : Env} {w w' : World} {S0 : Nat → Prop} {G G' : Gh} {ob ob' : List (Id × Obj)} {Ex : Id → Prop} (c : Comp Ex E w S0 G ob w' G' ob') {o : Id} {ver : Nat} {row : Int} {col : Nat} {e : TypeId} {whole : Bool} {v : Value}
    (h : NestR E w G ob o ver row col e whole v) (hx : ¬ Ex o) : NestR E w' G' ob' o ver row col e whole v := by
  obtain ⟨hle, h⟩ := h
  refine ⟨fun eo rows' dp' vr' hh' hg => ?_, fun eo rows' vr' hh' te hg hv hhole ht => ?_⟩
  · obtain ⟨_, rows, dp, vr, hh, h0, _, hv, _⟩ := c.row o eo rows' dp' vr' hh' hx hg
    exact Nat.le_trans (hle eo rows dp vr hh h0) hv
  obtain ⟨hr, rows, dp, vr, hh, h0, hl, hmon, hk⟩ := c.row o eo rows' true vr' hh' hx hg
  have h00 := hle eo rows dp vr hh h0
  have hvr : vr' = vr := by omega
  obtain ⟨hdp, hsub, hcell⟩ := hk rfl hvr
  subst hdp
  obtain ⟨a, b, r, g, o0, n, cc, x, h1, h2, h3, h4, lo, n', te', h5, h6⟩ := h eo rows vr hh te h0 (hvr ▸ hv) (fun q hq => hhole q (hsub _ hq)) ht
  obtain ⟨r', h7, h8⟩ := hcell te row.toNat r ht h1
  obtain ⟨h9, h10⟩ := h8 col e b hhole
  exact ⟨a, b, r', g, o0, n, cc, x, h7, hr.trans h2, (h10 g o0 n cc h2).trans h3, h4, lo, n', te', h5, h9 ▸ h6⟩

theorem VR.map {E : Env} {w w' : World} {S0 : Nat → Prop} {G G' : Gh} {ob ob' : List (Id × Obj)} {Ex : Id → Prop} (c : Comp Ex E w S0 G ob w' G' ob') {x : AV} {v : Value}
    (h : VR E w S0 G ob x v) (hx : ∀ o ∈ idsA x, ¬ Ex o) : VR E w' S0 G' ob' x v := by
  induction h with
  | dead v => exact .dead v
  | i k n => exact .i k n
  | b x => exact .b x
  | s x => exact .s x
  | nil => exact .nil
  | agg cs arr hl h h1 ih => exact .agg cs arr hl (fun i v x hv hv' => ih i v x hv hv' (fun o ho => hx o (by simp only [idsA]; exact mem_idsL hv ho))) h1
  | tup vs arr hl h ih => exact .tup vs arr hl (fun i v x hv hv' => ih i v x hv hv' (fun o ho => hx o (by simp only [idsA]; exact mem_idsL hv ho)))
  | ro e al rows v h =>
    refine .ro e al rows v (h.frame (fun b hb => ?_) (fun b hb => ?_))
    · rcases hb with hb | ⟨_, hb⟩
      · exact c.old b hb
      · exact (c.F b hb).1
    · rcases hb with hb | ⟨ha, hb⟩
      · exact .inl hb
      · exact .inr ⟨ha, (c.F b hb).2⟩
  | own o v h h1 =>
    refine .own o v (fun e rows dp vr hh hg => ?_) h1
    obtain ⟨hr, rows0, dp0, vr0, hh0, h0, _⟩ := c.row o e rows dp vr hh (hx o (by simp [idsA])) hg
    exact (h e rows0 dp0 vr0 hh0 h0).trans hr.symm
  | vw o lo n v h h1 =>
    refine .vw o lo n v (fun e rows dp vr hh te hg ht => ?_) h1
    obtain ⟨hr, rows0, dp0, vr0, hh0, h0, hl, _⟩ := c.row o e rows dp vr hh (hx o (by simp [idsA])) hg
    rw [hr, hl]
    exact h e rows0 dp0 vr0 hh0 te h0 ht
  | nest o ver row col e whole rows v h hn =>
    refine .nest o ver row col e whole rows v (h.frame (fun b hb => ?_) (fun b hb => ?_)) (hn.map c (hx o (by simp [idsA])))
    · rcases hb with hb | hb
      · exact c.old b hb
      · exact (c.F b hb).1
    · rcases hb with hb | hb
      · exact .inl hb
      · exact .inr (c.F b hb).2
  | ptr o row off v h h1 => exact .ptr o row off v (h.map c (hx o (by simp [idsA]))) h1
  | pro e te al cells off g o0 u ht hl hm hr =>
    have hg : ∀ b, (S0 b ∨ (al = true ∧ b ∈ G.F)) → w'.heap[b]? = w.heap[b]? := fun b hb => by
      rcases hb with hb | ⟨_, hb⟩
      · exact c.old b hb
      · exact (c.F b hb).1
    have hg' : ∀ b, (S0 b ∨ (al = true ∧ b ∈ G.F)) → (S0 b ∨ (al = true ∧ b ∈ G'.F)) := fun b hb => by
      rcases hb with hb | ⟨ha, hb⟩
      · exact .inl hb
      · exact .inr ⟨ha, (c.F b hb).2⟩
    refine .pro e te al cells off g o0 u ht hl (fun i hi => ?_) (fun i l hi => (hr i l hi).frame hg hg')
    obtain ⟨h1, h2⟩ := hm i hi
    exact ⟨hg' _ h1, (cell_same (a := ⟨g, o0 + i, none⟩) (hg _ h1)).trans h2⟩

theorem RowR.frame {E : Env} {w w' : World} {S S' : Nat → Prop} {e : TypeId} {rows : List (List Dat)} {deep : Bool} {holes : List (Int × Nat)} {root : Value} {top ins : List Nat}
    (h : RowR E w S e rows deep holes root top ins) (ht : ∀ b ∈ top, w'.heap[b]? = w.heap[b]?) (hi : ∀ b ∈ ins, w'.heap[b]? = w.heap[b]?)
    (hS : deep = false → ∀ b, S b → w'.heap[b]? = w.heap[b]?) (hS' : ∀ b, S b → S' b) : RowR E w' S' e rows deep holes root top ins := by
  obtain ⟨te, h1, h2, h3⟩ := h
  refine ⟨te, h1, h2, ?_⟩
  rcases h3 with h3 | ⟨g, off, c, arr, u, bs, a1, a2, a3, a4, a5, a6, a7, a8, a9, a10⟩
  · exact .inl h3
  · refine .inr ⟨g, off, c, arr, u, bs, a1, a2, (ht g (by rw [a2]; simp)).trans a3, a4, a5, a6, fun j i r l hj hl hh => ?_, a8, a9, a10⟩
    have := a7 j i r l hj hl hh
    cases deep with
    | false => simp only [Bool.false_eq_true, if_false] at this ⊢; exact this.frame (hS rfl) hS'
    | true =>
      simp only [if_true] at this ⊢
      refine this.frame (fun b hb => hi b ?_)
      rw [a8 rfl]
      exact mem_flatB.mpr ⟨j, i, (List.getElem?_eq_some_iff.mp hj).1, (List.getElem?_eq_some_iff.mp hl).1, hb⟩
theorem BoxR.map {E : Env} {w w' : World} {S0 : Nat → Prop} {G G' : Gh} {ob ob' : List (Id × Obj)} {Ex : Id → Prop} (c : Comp Ex E w S0 G ob w' G' ob') {cells : List AV} {root : Value} {top ins : List Nat}
    (h : BoxR E w S0 G ob cells root top ins) (hx : ∀ v ∈ cells, ∀ o ∈ idsA v, ¬ Ex o) (ht : ∀ b ∈ top, w'.heap[b]? = w.heap[b]?) : BoxR E w' S0 G' ob' cells root top ins := by
  obtain ⟨g, arr, et, h1, h2, h3, h4, h5, h6⟩ := h
  refine ⟨g, arr, et, h1, h2, h3, (ht g (by rw [h2]; simp)).trans h4, h5, fun i v x hv hxx => ?_⟩
  obtain ⟨a, b⟩ := h6 i v x hv hxx
  exact ⟨a.map c (hx v (List.mem_of_getElem? hv)), b⟩

/-! ## killing references -/
theorem killL_get (k : Id) (cs : List AV) (i : Nat) : (killL k cs)[i]? = (cs[i]?).map (killA k) := by
  induction cs generalizing i with
  | nil => simp [killL]
  | cons c cs ih =>
    cases i with
    | zero => simp [killL]
    | succ i => simpa [killL] using ih i
theorem killL_length (k : Id) (cs : List AV) : (killL k cs).length = cs.length := by
  induction cs with
  | nil => rfl
  | cons c cs ih => simp [killL, ih]
theorem getT_killT (k : Id) (tm : List (Nat × AV)) (t : Nat) : getT (killT k tm) t = killA k (getT tm t) := by
  induction tm with
  | nil => simp [killT, getT, killA]
  | cons p tm ih =>
    obtain ⟨a, v⟩ := p
    simp only [killT, getT]
    cases Nat.beq a t
    · simpa using ih
    · simp
def killObj (k : Id) : Obj → Obj
  | .box t cs => .box t (killL k cs)
  | x => x
theorem getO_killO (k : Id) (ob : List (Id × Obj)) (o : Id) : getO (killO k ob) o = (getO ob o).map (killObj k) := by
  induction ob with
  | nil => simp [killO, getO]
  | cons p ob ih =>
    obtain ⟨a, x⟩ := p
    cases x with
    | row e rows d v h =>
      simp only [killO, getO]
      cases idEq a o
      · simpa using ih
      · simp [killObj]
    | box t cs =>
      simp only [killO, getO]
      cases idEq a o
      · simpa using ih
      · simp [killObj]
theorem VR.kill {E : Env} {w : World} {S0 : Nat → Prop} {G : Gh} {ob : List (Id × Obj)} {x : AV} {v : Value} (k : Id) (h : VR E w S0 G ob x v) : VR E w S0 G ob (killA k x) v := by
  induction h with
  | dead v => exact .dead v
  | i k n => exact .i k n
  | b x => exact .b x
  | s x => exact .s x
  | nil => exact .nil
  | agg cs arr hl h h1 ih =>
    refine .agg _ arr ((killL_length k cs).trans hl) (fun i v x hv hx => ?_) h1
    rw [killL_get] at hv
    obtain ⟨v0, h0, rfl⟩ := Option.map_eq_some_iff.mp hv
    exact ih i v0 x h0 hx
  | tup vs arr hl h ih =>
    refine .tup _ arr ((killL_length k vs).trans hl) (fun i v x hv hx => ?_)
    rw [killL_get] at hv
    obtain ⟨v0, h0, rfl⟩ := Option.map_eq_some_iff.mp hv
    exact ih i v0 x h0 hx
  | ro e al rows v h => exact .ro e al rows v h
  | own o v h h1 =>
    simp only [killA]
    cases idEq k o
    · exact .own o v h h1
    · exact .dead v
  | vw o lo n v h h1 =>
    simp only [killA]
    cases idEq k o
    · exact .vw o lo n v h h1
    · exact .dead v
  | nest o ver row col e whole rows v h hn =>
    simp only [killA]
    cases idEq k o
    · exact .nest o ver row col e whole rows v h hn
    · exact .ro e true rows v (h.mono fun b hb => hb.imp id fun h => ⟨rfl, h⟩)
  | ptr o row off v h h1 =>
    simp only [killA]
    cases idEq k o
    · exact .ptr o row off v h h1
    · exact .dead v
  | pro e te al cells off g o0 u ht hl hm hr => exact .pro e te al cells off g o0 u ht hl hm hr
mutual
theorem kill_ids (k : Id) : ∀ (v : AV), (∀ o ∈ idsA (killA k v), o ∈ idsA v) ∧ k ∉ idsA (killA k v)
  | .dead => ⟨fun _ h => h, by simp [killA, idsA]⟩
  | .i _ _ => ⟨fun _ h => h, by simp [killA, idsA]⟩
  | .b _ => ⟨fun _ h => h, by simp [killA, idsA]⟩
  | .s _ => ⟨fun _ h => h, by simp [killA, idsA]⟩
  | .nil => ⟨fun _ h => h, by simp [killA, idsA]⟩
  | .agg cs => by simpa only [killA, idsA] using kill_idsL k cs
  | .tup cs => by simpa only [killA, idsA] using kill_idsL k cs
  | .ro _ _ _ => ⟨fun _ h => h, by simp [killA, idsA]⟩
  | .own o => by
    simp only [killA]
    cases h : idEq k o
    · exact ⟨fun _ h => h, by simp only [cond_false, idsA, List.mem_singleton]; exact idEq_false.mp h⟩
    · exact ⟨fun _ h => by simp [idsA] at h, by simp [idsA]⟩
  | .vw o _ _ => by
    simp only [killA]
    cases h : idEq k o
    · exact ⟨fun _ h => h, by simp only [cond_false, idsA, List.mem_singleton]; exact idEq_false.mp h⟩
    · exact ⟨fun _ h => by simp [idsA] at h, by simp [idsA]⟩
  | .nest o _ _ _ _ _ _ => by
    simp only [killA]
    cases h : idEq k o
    · exact ⟨fun _ h => h, by simp only [cond_false, idsA, List.mem_singleton]; exact idEq_false.mp h⟩
    · exact ⟨fun _ h => by simp [idsA] at h, by simp [idsA]⟩
  | .ptr o _ _ => by
    simp only [killA]
    cases h : idEq k o
    · exact ⟨fun _ h => h, by simp only [cond_false, idsA, List.mem_singleton]; exact idEq_false.mp h⟩
    · exact ⟨fun _ h => by simp [idsA] at h, by simp [idsA]⟩
  | .pro _ _ _ _ => ⟨fun _ h => h, by simp [killA, idsA]⟩
theorem kill_idsL (k : Id) : ∀ (cs : List AV), (∀ o ∈ idsL (killL k cs), o ∈ idsL cs) ∧ k ∉ idsL (killL k cs)
  | [] => ⟨fun _ h => h, by simp [killL, idsL]⟩
  | v :: r => by
    obtain ⟨a, b⟩ := kill_ids k v
    obtain ⟨c, d⟩ := kill_idsL k r
    simp only [killL, idsL, List.mem_append]
    exact ⟨fun o h => h.imp (a o) (c o), fun h => h.elim b d⟩
end

/-- k is named nowhere. -/
def NoRef (k : Id) (st : St) : Prop :=
  (∀ t, k ∉ idsA (getT st.tm t)) ∧ (∀ o t cells, getO st.ob o = some (.box t cells) → k ∉ idsL cells) ∧ getO st.ob k = none ∧ isPar k = false

section
variable {E : Env} {base : Nat} {M : List Nat} {S0 : Nat → Prop} {R0 : Id → Value} {w0 : World} {nt : Nat} {G : Gh} {st : St} {a : Act} {w : World}

/-- Fewer objects, the rest as it was. -/
theorem Comp.less {ob ob' : List (Id × Obj)} (h : ∀ o x, getO ob' o = some x → ∃ y, getO ob o = some y ∧ (x = y ∨ ∃ t cs cs', y = .box t cs ∧ x = .box t cs')) :
    Comp (fun _ => False) E w S0 G ob w G ob' where
  old := fun _ _ => rfl
  F := fun b hb => ⟨rfl, hb⟩
  box := fun o t cells _ hg => by
    obtain ⟨y, hy, hxy⟩ := h o _ hg
    refine ⟨rfl, ?_⟩
    rcases hxy with rfl | ⟨t', cs, cs', rfl, hx⟩
    · exact ⟨t, cells, hy⟩
    · exact ⟨t', cs, hy⟩
  row := fun o e rows dp vr hh _ hg => by
    obtain ⟨y, hy, hxy⟩ := h o _ hg
    refine ⟨rfl, ?_⟩
    rcases hxy with rfl | ⟨t', cs, cs', rfl, hx⟩
    · exact ⟨rows, dp, vr, hh, hy, rfl, Nat.le_refl _, fun hd _ => ⟨hd, fun _ hx => hx, fun te j r ht hj => ⟨r, hj, fun col e' hc hq => ⟨rfl, fun _ _ _ _ _ => rfl⟩⟩⟩⟩
    · cases hx
theorem noEx {x : AV} : ∀ o ∈ idsA x, ¬ (fun _ : Id => False) o := fun _ _ h => h

theorem RelG.clear1 (h : RelG E base M S0 R0 w0 nt G st a w) (k : Id) (hpk : isPar k = false) :
    RelG E base M S0 R0 w0 nt G { tm := killT k st.tm, ob := killO k (delO st.ob k) } a w ∧ NoRef k { tm := killT k st.tm, ob := killO k (delO st.ob k) } ∧
      (∀ k', NoRef k' st → NoRef k' { tm := killT k st.tm, ob := killO k (delO st.ob k) }) ∧
      (∀ o x, getO (killO k (delO st.ob k)) o = some x → o ≠ k ∧ ∃ y, getO st.ob o = some y ∧ x = killObj k y) := by
  have hget : ∀ o x, getO (killO k (delO st.ob k)) o = some x → o ≠ k ∧ ∃ y, getO st.ob o = some y ∧ x = killObj k y := fun o x hx => by
    rw [getO_killO, getO_delO] at hx
    by_cases ho : o = k
    · simp [ho] at hx
    · rw [if_neg ho] at hx
      obtain ⟨y, hy, rfl⟩ := Option.map_eq_some_iff.mp hx
      exact ⟨ho, y, hy, rfl⟩
  have hc : Comp (fun _ => False) E w S0 G st.ob w G (killO k (delO st.ob k)) := Comp.less fun o x hx => by
    obtain ⟨_, y, hy, rfl⟩ := hget o x hx
    refine ⟨y, hy, ?_⟩
    cases y with
    | row e rows d v h => exact .inl rfl
    | box t cs => exact .inr ⟨t, cs, _, rfl, rfl⟩
  refine ⟨⟨h.kept, h.old, fun o x hx => ?_, fun o x hx => ?_, fun o x o' x' hx hx' => ?_, fun o x hx => ?_, fun o x o' x' hx hx' => ?_, h.F, fun t => ?_, h.defers, h.size, fun o x hp hx => h.par o _ hp (hget o x hx).2.choose_spec.1⟩, ⟨fun t => ?_, fun o t cells hg => ?_, ?_, hpk⟩, fun k' hk' => ⟨fun t => ?_, fun o t cells hg => ?_, ?_, hk'.2.2.2⟩, hget⟩
  · obtain ⟨_, y, hy, rfl⟩ := hget o x hx
    have := h.objs o y hy
    cases y with
    | row e rows d v hh => exact this.frame (fun _ _ => rfl) (fun _ _ => rfl) (fun _ _ _ => rfl) (fun _ hb => hb)
    | box t cs =>
      obtain ⟨g, arr, et, h1, h2, h3, h4, h5, h6⟩ := this
      refine ⟨g, arr, et, h1, h2, h3, h4, h5.trans (killL_length k cs).symm, fun i v x hv hxx => ?_⟩
      rw [killL_get] at hv
      obtain ⟨v0, h0, rfl⟩ := Option.map_eq_some_iff.mp hv
      obtain ⟨h7, h8⟩ := h6 i v0 x h0 hxx
      exact ⟨(h7.map hc noEx).kill k, h8⟩
  · obtain ⟨_, y, hy, _⟩ := hget o x hx
    exact h.tops o y hy
  · obtain ⟨_, y, hy, _⟩ := hget o x hx
    obtain ⟨_, y', hy', _⟩ := hget o' x' hx'
    exact h.tops2 o y o' y' hy hy'
  · obtain ⟨_, y, hy, _⟩ := hget o x hx
    exact h.ins o y hy
  · obtain ⟨_, y, hy, _⟩ := hget o x hx
    obtain ⟨_, y', hy', _⟩ := hget o' x' hx'
    exact h.ins2 o y o' y' hy hy'
  · rw [getT_killT]
    exact ((h.tmps t).map hc noEx).kill k
  · rw [getT_killT]
    exact (kill_ids k _).2
  · obtain ⟨_, y, hy, hx⟩ := hget o _ hg
    cases y with
    | row e rows d v hh => cases hx
    | box t' cs =>
      simp only [killObj, Obj.box.injEq] at hx
      obtain ⟨rfl, rfl⟩ := hx
      exact (kill_idsL k cs).2
  · rw [getO_killO, getO_delO, if_pos rfl]; rfl
  · rw [getT_killT]
    exact fun hh => hk'.1 t ((kill_ids k _).1 _ hh)
  · obtain ⟨_, y, hy, hx⟩ := hget o _ hg
    cases y with
    | row e rows d v hh => cases hx
    | box t' cs =>
      simp only [killObj, Obj.box.injEq] at hx
      obtain ⟨rfl, rfl⟩ := hx
      exact fun hh => hk'.2.1 o _ cs hy ((kill_idsL k cs).1 _ hh)
  · rw [getO_killO, getO_delO]
    by_cases ho : k' = k
    · simp [ho]
    · rw [if_neg ho, hk'.2.2.1]; rfl
theorem RelG.clears (nw : List (Id × Obj)) : ∀ {st : St}, RelG E base M S0 R0 w0 nt G st a w → (∀ k ∈ keys nw, isPar k = false) →
    RelG E base M S0 R0 w0 nt G (clearAll nw st) a w ∧ (∀ k ∈ keys nw, NoRef k (clearAll nw st)) ∧ (∀ k', NoRef k' st → NoRef k' (clearAll nw st)) ∧
      (∀ o x, getO (clearAll nw st).ob o = some x → o ∉ keys nw ∧ ∃ y, getO st.ob o = some y ∧ (x = y ∨ ∃ t cs cs', y = .box t cs ∧ x = .box t cs')) := by
  induction nw with
  | nil => exact fun {st} h _ => ⟨h, fun _ hk => (by cases hk), fun _ hk => hk, fun o x hx => ⟨(by simp [keys]), x, hx, .inl rfl⟩⟩
  | cons p nw ih =>
    intro st h hpk
    obtain ⟨k, x⟩ := p
    obtain ⟨h1, h2, h3, h4⟩ := h.clear1 k (hpk k (by simp [keys]))
    obtain ⟨i1, i2, i3, i4⟩ := ih h1 (fun k' hk' => hpk k' (by simp [keys, hk']))
    refine ⟨i1, fun k' hk' => ?_, fun k' hk' => i3 k' (h3 k' hk'), fun o x hx => ?_⟩
    · simp only [keys, List.mem_cons] at hk'
      rcases hk' with rfl | hk'
      · exact i3 _ h2
      · exact i2 k' hk'
    · obtain ⟨j1, y, j2, j3⟩ := i4 o x hx
      obtain ⟨j4, z, j5, j6⟩ := h4 o y j2
      refine ⟨by simp only [keys, List.mem_cons]; exact fun hh => hh.elim j4 j1, z, j5, ?_⟩
      subst j6
      cases z with
      | row e rows d v hh =>
        rcases j3 with rfl | ⟨t, cs, cs', hy, rfl⟩
        · exact .inl rfl
        · cases hy
      | box t cs =>
        rcases j3 with rfl | ⟨t', cs1, cs', hy, rfl⟩
        · exact .inr ⟨t, cs, _, rfl, rfl⟩
        · simp only [killObj, Obj.box.injEq] at hy
          exact .inr ⟨t, cs, cs', rfl, by rw [hy.1]⟩
end

end Go.Proofs.Ythjkpphjlmmkdaa.Vai
