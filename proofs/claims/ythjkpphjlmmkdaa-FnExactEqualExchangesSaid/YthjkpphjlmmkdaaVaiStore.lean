/- Stores into boxes and rows; no condition. -/
import Derived.Test.YthjkpphjlmmkdaaVaiApp3
namespace Go.Proofs.Ythjkpphjlmmkdaa.Vai
open Go

theorem setRange_eq {α : Type} (xs : List α) : ∀ (l : List α) (i : Nat), i + xs.length ≤ l.length → setRange l i xs = l.take i ++ xs ++ l.drop (i + xs.length) := by
  intro l i h
  apply List.ext_getElem?
  intro k
  rw [setRange_get]
  by_cases h1 : i ≤ k ∧ k < i + xs.length
  · rw [if_pos h1, if_pos (by omega), List.append_assoc, List.getElem?_append_right (by simp; omega), List.getElem?_append_left (by simp; omega)]
    simp only [List.length_take]
    congr 1
    omega
  · rw [if_neg h1]
    by_cases h2 : k < i
    · rw [List.append_assoc, List.getElem?_append_left (by simp; omega), List.getElem?_take, if_pos h2]
    · rw [List.getElem?_append_right (by simp; omega)]
      simp only [List.length_append, List.length_take, List.getElem?_drop]
      congr 1
      omega

section
variable {P : Program} {E : Env} {base : Nat} {M : List Nat} {S0 : Nat → Prop} {R0 : Id → Value} {w0 : World} {nt : Nat} {G : Gh} {st : St} {a : Act} {w : World} {look : Look}

theorem run_storeAt {t : TypeId} {ti : TI} (hT : TOk P E t ti) {g off : Nat} {arr : Array Value} {et : TypeId} (hg : w.heap[g]? = some (.cells arr et (0, 0))) {v : Value} (hv : v.cells.size = ti.ls.length) (h1 : ∀ u ∈ v.cells.toList, oneV u) (hle : off + ti.ls.length ≤ arr.size) :
    (Instr.storeAt t (.pointer (some ⟨g, off, none⟩)) v).run P w = .ok () (w.setRow g (setRange arr.toList off v.cells.toList).toArray) := by
  have hst := run_storeCells_at P g off et v.cells.toList 0 arr w hg (by simp; omega) (fun x hx => one_cell' (h1 x hx))
  simp only [Nat.add_zero] at hst
  rw [setRange_eq _ _ _ (by simp; omega)]
  simp [Instr.storeAt, Instr.sureAddr, storeVar, hT.size, hv]
  simpa [hv] using hst

/-- one block of a live object is written: what values may rely on -/
theorem RelG.compWrite (h : RelG E base M S0 R0 w0 nt G st a w) {o : Id} {x y : Obj} (ho : getO st.ob o = some x) {g : Nat} (hg : g ∈ G.top o) {arr' : Array Value} {G' : Gh} (hr : ∀ o', G'.root o' = G.root o') (hF : ∀ b ∈ G.F, b ∈ G'.F)
    (hbox : ∀ t cells, y = .box t cells → ∃ t0 cells0, x = .box t0 cells0)
    (hrow : ∀ e rows' dp' vr' h', y = .row e rows' dp' vr' h' → ∃ rows dp vr hh, x = .row e rows dp vr hh ∧ rows'.length = rows.length ∧ vr ≤ vr' ∧ (dp' = true → vr' = vr → dp = true ∧ (∀ x ∈ hh, x ∈ h') ∧ ∀ (te : TI) (j : Nat) (r : List Dat), E.T e = some te → rows[j]? = some r →
      ∃ r', rows'[j]? = some r' ∧ ∀ (col : Nat) (e' : TypeId), te.ls[col]? = some (.sl e') → (∀ q, (q, col) ∉ h') →
        (r'.getD col default).rows.length = (r.getD col default).rows.length ∧
        ∀ g0 o0 n c, G.root o = .slice (some ⟨g0, o0, none⟩) n c → (w.setRow g arr').cell? ⟨g0, o0 + (j * te.ls.length + col), none⟩ = w.cell? ⟨g0, o0 + (j * te.ls.length + col), none⟩)) :
    Comp (fun _ => False) E w S0 G st.ob (w.setRow g arr') G' (setO st.ob o y) := by
  have htop := h.tops o x ho g hg
  have hold : ∀ b, b ≠ g → (w.setRow g arr').heap[b]? = w.heap[b]? := fun b hb => setRow_other w g b arr' hb
  refine ⟨fun b hb => hold b (fun e => htop.1 (e ▸ hb)), fun b hb => ⟨hold b (fun e => htop.2.1 (e ▸ hb)), hF b hb⟩, fun o' t cells _ hg' => ?_, fun o' e rows' dp' vr' h' _ hg' => ?_⟩
  · rw [getO_setO] at hg'
    refine ⟨hr o', ?_⟩
    split at hg'
    · rename_i e0
      subst e0
      obtain ⟨t0, c0, hx⟩ := hbox t cells (Option.some.inj hg')
      exact ⟨t0, c0, by rw [ho, hx]⟩
    · exact ⟨t, cells, hg'⟩
  · rw [getO_setO] at hg'
    refine ⟨hr o', ?_⟩
    split at hg'
    · rename_i e0
      subst e0
      obtain ⟨rows, dp, vr, hh, hx, q1, q2, q3⟩ := hrow _ _ _ _ _ (Option.some.inj hg')
      exact ⟨rows, dp, vr, hh, by rw [ho, hx], q1, q2, q3⟩
    · rename_i e0
      refine ⟨rows', dp', vr', h', hg', rfl, Nat.le_refl _, fun hd _ => ⟨hd, fun _ hx => hx, fun te j r hte hj => ⟨r, hj, fun col e' hc hq => ⟨rfl, fun g0 o0 n c hroot => ?_⟩⟩⟩⟩
      refine cell_same (a := ⟨g0, o0 + (j * te.ls.length + col), none⟩) (hold g0 (fun e1 => ?_))
      have hin : g0 ∈ G.top o' := by
        obtain ⟨te', _, _, h3⟩ := (h.objs o' _ hg' : RowR E w _ e rows' dp' h' _ _ _)
        rcases h3 with ⟨h3, _⟩ | ⟨g', off, c', arr, u, bs, a1, a2, _⟩
        · rw [h3] at hroot; cases hroot
        · rw [a1] at hroot; cases hroot; rw [a2]; simp
      exact h.tops2 o x o' _ ho hg' (fun e => e0 e.symm) g hg (e1 ▸ hin)

/-- a store's end -/
def SteppedU (E : Env) (base : Nat) (M : List Nat) (S0 : Nat → Prop) (R0 : Id → Value) (w0 : World) (nt : Nat) (st : St) (a : Act) (dst : Option Nat) (d : Delta) (run : Result Unit) : Prop :=
  ∃ w', run = .ok () w' ∧ Rel E base M S0 R0 w0 nt (applyD st dst d) (a.put dst undef) w'
theorem RelG.kept_set (h : RelG E base M S0 R0 w0 nt G st a w) {o : Id} {x : Obj} (ho : getO st.ob o = some x) {g : Nat} (hg : g ∈ G.top o) (arr' : Array Value) : Kept base M w0 (w.setRow g arr') :=
  ⟨by simpa using h.kept.size, fun b hb hm => (setRow_other w g b arr' (fun e => by
    subst e
    exact (h.tops o x ho b hg).2.2.elim (fun h => by omega) hm)).trans (h.kept.heap b hb hm), h.kept.os, h.kept.tape, h.kept.output⟩

theorem storeBox_ok (hE : EnvOk P E) (h : RelG E base M S0 R0 w0 nt G st a w) {dst : Option Nat} (hd : inB nt dst = true) {t : TypeId} {ti : TI} (ht : E.T t = some ti) {o : Id} {row : Int} {off : Nat} {va : Value} (hp : PtrR E G st.ob o row off va)
    {bt : TypeId} {cells : List AV} (ho : getO st.ob o = some (.box bt cells)) {x : AV} {vx : Value} (hx : VR E w S0 G st.ob x vx) (hle : off + ti.ls.length ≤ cells.length) (hl : (flat x).length = ti.ls.length) (hsol : solid x = true) :
    SteppedU E base M S0 R0 w0 nt st a dst { v := .dead, up := [(o, .box bt (setRange cells off (flat x)))] } ((Instr.storeAt t va vx).run P w) := by
  have hT := hE.T t ti ht
  obtain ⟨_, g, hroot, rfl⟩ := hp.1 _ _ ho
  obtain ⟨g', arr, et, b1, b2, b3, b4, b5, b6⟩ := (h.objs o _ ho : BoxR E w S0 G st.ob cells _ _ _)
  rw [hroot] at b1; cases b1
  have hfr := hx.flatR hsol
  have hsz : vx.cells.size = ti.ls.length := by have := hfr.1; simp at this; omega
  have hone : ∀ u ∈ vx.cells.toList, oneV u := fun u hu => by
    obtain ⟨i, hi⟩ := List.getElem?_of_mem hu
    have hi' : i < (flat x).length := by rw [hfr.1]; exact (List.getElem?_eq_some_iff.mp hi).1
    exact (hfr.2 i _ u (List.getElem?_eq_getElem hi') hi).2
  have hrun := run_storeAt hT (off := off) b4 hsz hone (by omega)
  have hgt : g ∈ G.top o := by rw [b2]; simp
  have hc := h.compWrite ho hgt (y := .box bt (setRange cells off (flat x))) (arr' := (setRange arr.toList off vx.cells.toList).toArray) (G' := G) (fun _ => rfl) (fun _ hb => hb) (fun _ _ _ => ⟨_, _, rfl⟩) (fun _ _ _ _ _ h => by cases h)
  have htop := h.tops o _ ho g hgt
  have hcs : CellsR E w S0 G st.ob cells arr.toList := ⟨by simp [b5], fun i v x hv hx => b6 i v x hv (by simpa using hx)⟩
  have hcs' := hcs.setRange hfr off
  have key := h.upd o _ (.box bt (setRange cells off (flat x))) ho G (h.kept_set ho hgt _) (by simp) hc.old hc.F (fun o' x' hx' hne b hb => setRow_other w g b _ (fun e => h.tops2 o _ o' x' ho hx' (fun e => hne e.symm) g hgt (e ▸ hb))) (fun _ _ => ⟨rfl, rfl, rfl⟩) rfl (fun b hb => .inl hb) hc
    (by
      refine ⟨g, _, et, hroot, b2, b3, setRow_heap w g arr _ et _ b4, by simp [setRange_length, b5], fun i v u hv hu => ?_⟩
      obtain ⟨q1, q2⟩ := hcs'.2 i v u hv (by simpa using hu)
      exact ⟨q1.map hc (fun _ _ h => h), q2⟩)
    ⟨fun b hb => ⟨(h.ins o _ ho).1 b hb, fun o' x' hx' hne => h.ins2 o _ o' x' ho hx' (fun e => hne e.symm) b hb⟩, (h.ins o _ ho).2⟩
  refine ⟨_, hrun, ?_⟩
  rw [applyD_eq]
  exact ⟨G, key.putO hd (.dead _)⟩

/-! ## a part of a row -/
theorem holesOut_mem {off n : Nat} : ∀ {hs : List (Int × Nat)} {p : Int × Nat}, p ∈ holesOut off n hs ↔ p ∈ hs ∧ ¬ (off ≤ p.2 ∧ p.2 < off + n)
  | [], p => by simp [holesOut]
  | (r, c) :: hs, p => by
    simp only [holesOut]
    cases hb : (Nat.ble off c && Nat.blt c (off + n)) with
    | true =>
      simp only [cond_true, List.mem_cons]
      rw [holesOut_mem]
      simp only [Bool.and_eq_true] at hb
      have h1 := Nat.le_of_ble_eq_true hb.1
      have h2 : c < off + n := Nat.le_of_ble_eq_true hb.2
      constructor
      · rintro ⟨q1, q2⟩; exact ⟨.inr q1, q2⟩
      · rintro ⟨q1 | q1, q2⟩
        · subst q1; exact absurd ⟨h1, h2⟩ q2
        · exact ⟨q1, q2⟩
    | false =>
      simp only [cond_false, List.mem_cons]
      rw [holesOut_mem]
      have hn : ¬ (off ≤ c ∧ c < off + n) := fun ⟨h1, h2⟩ => by
        have c1 : Nat.ble off c = true := Nat.ble_eq.mpr h1
        have c2 : Nat.blt c (off + n) = true := Nat.ble_eq.mpr h2
        rw [c1, c2] at hb; cases hb
      constructor
      · rintro (q1 | ⟨q1, q2⟩)
        · subst q1; exact ⟨.inl rfl, hn⟩
        · exact ⟨.inr q1, q2⟩
      · rintro ⟨q1 | q1, q2⟩
        · exact .inl q1
        · exact .inr ⟨q1, q2⟩
theorem rowIs_mem {row : Int} : ∀ {hs : List (Int × Nat)}, rowIs row hs = true → ∀ p ∈ hs, p.1 = row
  | [], _, p, hp => by cases hp
  | (r, c) :: hs, h, p, hp => by
    simp only [rowIs, Bool.and_eq_true, decide_eq_true_eq] at h
    rcases List.mem_cons.mp hp with rfl | hp
    · exact h.1
    · exact rowIs_mem h.2 p hp
theorem colIn_false {off n : Nat} : ∀ {hs : List (Int × Nat)}, colIn off n hs = false → ∀ p ∈ hs, ¬ (off ≤ p.2 ∧ p.2 < off + n)
  | [], _, p, hp => by cases hp
  | (r, c) :: hs, h, p, hp => by
    simp only [colIn] at h
    cases hb : (Nat.ble off c && Nat.blt c (off + n)) with
    | true => rw [hb] at h; cases h
    | false =>
      rw [hb] at h
      rcases List.mem_cons.mp hp with rfl | hp
      · rintro ⟨h1, h2⟩
        have c1 : Nat.ble off c = true := Nat.ble_eq.mpr h1
        have c2 : Nat.blt c (off + n) = true := Nat.ble_eq.mpr h2
        rw [c1, c2] at hb; cases hb
      · exact colIn_false h p hp

end
end Go.Proofs.Ythjkpphjlmmkdaa.Vai
