/- What a call gives, as new objects; no condition. -/
import Derived.Test.YthjkpphjlmmkdaaVaiCall
namespace Go.Proofs.Ythjkpphjlmmkdaa.Vai
open Go

theorem keys_res (t : Nat) : ∀ (ls : List Leaf) (c : Nat) (ds : List Dat), ∀ k ∈ keys (resObjs t c ls ds), k.1 = t ∧ c ≤ k.2
  | [], c, ds, k, hk => by simp [resObjs, keys] at hk
  | l :: ls, c, ds, k, hk => by
    have ih := keys_res t ls (c + 1) ds.tail
    have rest : k ∈ keys (resObjs t (c + 1) ls ds.tail) → k.1 = t ∧ c ≤ k.2 := fun hk => by
      obtain ⟨h1, h2⟩ := ih k hk
      exact ⟨h1, by omega⟩
    cases l with
    | sl e =>
      simp only [resObjs, keys, List.mem_cons] at hk
      rcases hk with hk | hk
      · subst hk; exact ⟨rfl, Nat.le_refl _⟩
      · exact rest hk
    | int k' => simp only [resObjs] at hk; exact rest hk
    | bool => simp only [resObjs] at hk; exact rest hk
    | str => simp only [resObjs] at hk; exact rest hk
theorem notParR {t : Nat} (ht : t < 1000000) (c : Nat) (ls : List Leaf) (ds : List Dat) : ∀ k ∈ keys (resObjs t c ls ds), isPar k = false := fun k hk => by
  obtain ⟨k1, k2⟩ := k
  have := (keys_res t ls c ds _ hk).1
  simp only at this
  subst this
  exact notPar ht _

section
variable {P : Program} {E : Env} {base : Nat} {M : List Nat} {S0 : Nat → Prop} {R0 : Id → Value} {w0 : World} {nt : Nat} {G : Gh} {st : St} {a : Act} {w : World} {look : Look}

theorem RelG.addRes (t : Nat) : ∀ (ls : List Leaf) (c : Nat) {G : Gh} {st : St} {ds : List Dat} {vs : List Value} {bs : List Nat}, RelG E base M S0 R0 w0 nt G st a w → OTs E w ls ds vs bs → bs.Nodup →
    (∀ b ∈ bs, ¬ S0 b ∧ b ∉ G.F ∧ (base ≤ b ∨ b ∈ M) ∧ ∀ o x, getO st.ob o = some x → b ∉ G.top o ∧ b ∉ G.ins o) → (∀ k ∈ keys (resObjs t c ls ds), NoRef k st) →
    ∃ G', RelG E base M S0 R0 w0 nt G' { st with ob := upAll (resObjs t c ls ds) st.ob } a w ∧ (∀ (i : Nat) (e : TypeId) (v : Value), ls[i]? = some (.sl e) → vs[i]? = some v → G'.root (t, c + i) = v) ∧
      (∀ o, o ∉ keys (resObjs t c ls ds) → G'.root o = G.root o ∧ G'.top o = G.top o ∧ G'.ins o = G.ins o) ∧ (∀ b ∈ G.F, b ∈ G'.F) ∧
      (∀ k', k' ∉ keys (resObjs t c ls ds) → NoRef k' st → NoRef k' { st with ob := upAll (resObjs t c ls ds) st.ob })
  | [], c, G, st, ds, vs, bs, h, hot, _, _, _ => ⟨G, h, (fun i e v hi => by simp at hi), (fun _ _ => ⟨rfl, rfl, rfl⟩), (fun _ hb => hb), fun _ _ h => h⟩
  | l :: ls, c, G, st, _, _, _, h, .cons _ d v b _ ds vs bs h1 hot, hnd, hbs, hno => by
    obtain ⟨n1, n2, n3⟩ := List.nodup_append.mp hnd
    -- a cell that is no slice
    have plain : (∀ e, l ≠ .sl e) → resObjs t c (l :: ls) (d :: ds) = resObjs t (c + 1) ls ds →
        ∃ G', RelG E base M S0 R0 w0 nt G' { st with ob := upAll (resObjs t c (l :: ls) (d :: ds)) st.ob } a w ∧ (∀ (i : Nat) (e : TypeId) (v' : Value), (l :: ls)[i]? = some (.sl e) → (v :: vs)[i]? = some v' → G'.root (t, c + i) = v') ∧
        (∀ o, o ∉ keys (resObjs t c (l :: ls) (d :: ds)) → G'.root o = G.root o ∧ G'.top o = G.top o ∧ G'.ins o = G.ins o) ∧ (∀ b ∈ G.F, b ∈ G'.F) ∧
        (∀ k', k' ∉ keys (resObjs t c (l :: ls) (d :: ds)) → NoRef k' st → NoRef k' { st with ob := upAll (resObjs t c (l :: ls) (d :: ds)) st.ob }) := fun hl he => by
      rw [he] at hno ⊢
      obtain ⟨G', r1, r2, r3, r4, r5⟩ := RelG.addRes t ls (c + 1) h hot n2 (fun b' hb' => hbs b' (List.mem_append.mpr (.inr hb'))) hno
      exact ⟨G', r1, fun i e v' hi hv => by
        cases i with
        | zero => simp at hi; exact absurd hi (hl e)
        | succ i =>
          have := r2 i e v' (by simpa using hi) (by simpa using hv)
          rw [← this]; congr 2; omega, r3, r4, r5⟩
    cases l with
    | sl e =>
      simp only [resObjs, List.headD_cons, List.tail_cons, keys, List.mem_cons] at hno ⊢
      have hkey : (t, c) ∉ keys (resObjs t (c + 1) ls ds) := fun hk => by have := (keys_res t ls (c + 1) ds _ hk).2; simp only at this; omega
      obtain ⟨G1, q1, q2, q3, q4, q5⟩ := h.addTree (hno (t, c) (.inl rfl)) h1 n1 (fun b' hb' => hbs b' (List.mem_append.mpr (.inl hb')))
      obtain ⟨G', r1, r2, r3, r4, r5⟩ := RelG.addRes t ls (c + 1) q1 hot n2 (fun b' hb' => by
        obtain ⟨s1, s2, s3, s4⟩ := hbs b' (List.mem_append.mpr (.inr hb'))
        have hnb : b' ∉ b := fun hb => n3 b' hb b' hb' rfl
        refine ⟨s1, fun hF => ?_, s3, fun o x hx => ?_⟩
        · exact (q3 b' (.inl hF)).elim s2 hnb
        · simp only [getO_setO] at hx
          split at hx
          · rename_i e0
            subst e0
            exact ⟨fun hb => (q3 b' (.inr (.inl hb))).elim s2 hnb, fun hb => (q3 b' (.inr (.inr hb))).elim s2 hnb⟩
          · rename_i e0
            obtain ⟨g1, g2, g3⟩ := q4 o e0
            rw [g2, g3]
            exact s4 o x hx) (fun k hk => (hno k (.inr hk)).set (fun e => hkey (e ▸ hk)) (fun _ _ h => by cases h))
      refine ⟨G', r1, fun i e' v' hi hv => ?_, fun o ho => ?_, fun b' hb' => r4 b' (q5 b' hb'), fun k' hk' hn => ?_⟩
      · cases i with
        | zero =>
          simp at hv; subst hv
          rw [Nat.add_zero, (r3 _ hkey).1, q2]
        | succ i =>
          have := r2 i e' v' (by simpa using hi) (by simpa using hv)
          rw [← this]; congr 2; omega
      · obtain ⟨o1, o2⟩ := not_or.mp ho
        obtain ⟨g1, g2, g3⟩ := r3 o o2
        obtain ⟨g4, g5, g6⟩ := q4 o o1
        exact ⟨g1.trans g4, g2.trans g5, g3.trans g6⟩
      · obtain ⟨o1, o2⟩ := not_or.mp hk'
        exact r5 k' o2 (hn.set o1 (fun _ _ h => by cases h))
    | int k => exact plain (fun _ h => by cases h) rfl
    | bool => exact plain (fun _ h => by cases h) rfl
    | str => exact plain (fun _ h => by cases h) rfl

theorem resAVs_ok {t : Nat} {ob : List (Id × Obj)} : ∀ {ls : List Leaf} {c : Nat} {ds : List Dat} {vs : List Value} {bs : List Nat}, OTs E w ls ds vs bs → (∀ (i : Nat) (e : TypeId) (v : Value), ls[i]? = some (.sl e) → vs[i]? = some v → G.root (t, c + i) = v) →
    CellsR E w S0 G ob (resAVs t c ls ds) vs
  | [], c, _, _, _, .nil, _ => ⟨rfl, fun i v x hv => by simp [resAVs] at hv⟩
  | l :: ls, c, _, _, _, .cons _ d v b _ ds vs bs h1 hot, hr => by
    have ih := resAVs_ok (ob := ob) (c := c + 1) hot (fun i e v' hi hv => by
      have := hr (i + 1) e v' (by simpa using hi) (by simpa using hv)
      rw [← this]; congr 2; omega)
    have hd : ∃ y, resAVs t c (l :: ls) (d :: ds) = y :: resAVs t (c + 1) ls ds ∧ VR E w S0 G ob y v ∧ oneV v := by
      have hone := h1.one
      cases l with
      | sl e => exact ⟨_, rfl, .own _ _ (fun _ _ _ _ _ _ => (hr 0 e v rfl rfl).symm) hone, hone⟩
      | int k => exact ⟨_, rfl, by cases h1; exact .i _ _, hone⟩
      | bool => exact ⟨_, rfl, by cases h1; exact .b _, hone⟩
      | str => exact ⟨_, rfl, by cases h1; exact .s _, hone⟩
    obtain ⟨y, e1, e2, e3⟩ := hd
    rw [e1]
    refine ⟨by simp [ih.1], fun i z u hz hu => ?_⟩
    cases i with
    | zero => simp at hz hu; subst hz; subst hu; exact ⟨e2, e3⟩
    | succ i => exact ih.2 i z u (by simpa using hz) (by simpa using hu)

theorem packAll_ok {ob : List (Id × Obj)} : ∀ {tis : List TI} {vs cells : List Value}, PackR tis vs cells → ∀ {avs : List AV}, CellsR E w S0 G ob avs cells →
    (packAll tis avs).length = vs.length ∧ ∀ (i : Nat) (y : AV) (v : Value), (packAll tis avs)[i]? = some y → vs[i]? = some v → VR E w S0 G ob y v
  | [], _, _, .nil, avs, _ => ⟨rfl, fun i y v hy => by simp [packAll] at hy⟩
  | ti :: tis, _, _, .cons _ v cs _ vs rest h1 h2 h, avs, hc => by
    have hlen := hc.1
    have hc1 : ∀ (i : Nat) (y : AV) (u : Value), (avs.take ti.ls.length)[i]? = some y → cs[i]? = some u → VR E w S0 G ob y u ∧ oneV u := fun i y u hy hu => by
      rw [List.getElem?_take] at hy
      split at hy
      · exact hc.2 i y u hy (by rw [List.getElem?_append_left (by omega)]; exact hu)
      · cases hy
    have hc2 : CellsR E w S0 G ob (avs.drop ti.ls.length) rest := ⟨by simp [hlen, h2], fun i y u hy hu => by
      rw [List.getElem?_drop] at hy
      exact hc.2 _ y u hy (by rw [List.getElem?_append_right (by omega)]; rw [← hu]; congr 1; omega)⟩
    obtain ⟨i1, i2⟩ := packAll_ok h hc2
    refine ⟨by simp [packAll, i1], fun i y u hy hu => ?_⟩
    cases i with
    | succ i => exact i2 i y u (by simpa [packAll] using hy) (by simpa using hu)
    | zero =>
      simp [packAll] at hy hu
      subst hy; subst hu
      obtain ⟨p1, p2⟩ := h1
      cases hag : ti.agg with
      | true =>
        rw [hag] at p2
        simp only [if_true] at p2
        subst p2
        simp only [pack, cond_true]
        refine .agg _ _ (by simp [hlen, h2]) (fun i y u hy hu => (hc1 i y u hy (by simpa using hu)).1) (fun i u hu => p1 u (List.mem_of_getElem? (i := i) (by simpa using hu)))
      | false =>
        rw [hag] at p2
        simp only [Bool.false_eq_true, if_false] at p2
        subst p2
        simp only [pack, cond_false]
        match avs, hlen with
        | z :: avs, _ =>
          have h2' : ti.ls.length = 1 := h2.symm
          rw [h2']
          exact (hc1 0 z _ (by rw [h2']; rfl) rfl).1
theorem oneOr_ok {ob : List (Id × Obj)} {ys : List AV} {vs : List Value} (hl : ys.length = vs.length) (h : ∀ (i : Nat) (y : AV) (v : Value), ys[i]? = some y → vs[i]? = some v → VR E w S0 G ob y v) : VR E w S0 G ob (oneOr ys) (oneOrV vs) := by
  match ys, vs, hl with
  | [], [], _ => exact .tup _ _ rfl (fun i y v hy => by simp at hy)
  | [y], [v], _ => exact h 0 y v rfl rfl
  | y :: y2 :: ys, v :: v2 :: vs, hl => exact .tup _ _ (by simpa using hl) (fun i y v hy hv => h i y v hy (by simpa using hv))

/-- the end of a call that gives what is new -/
theorem RelG.call_end (h : RelG E base M S0 R0 w0 nt G st a w) {dst : Option Nat} (hd : inB nt dst = true) {t : Nat} (hti : t < 1000000) {w' : World} (hk : Kept w.heap.size [] w w') {rs : List TI} {out : List Dat} {rvs rcells : List Value} {bs : List Nat} (hp : PackR rs rvs rcells) (hot : OTs E w' (joinLs rs) out rcells bs)
    (hnd : bs.Nodup) (hbs : ∀ b ∈ bs, w.heap.size ≤ b) :
    Rel E base M S0 R0 w0 nt (applyD st dst { v := oneOr (packAll rs (resAVs t 0 (joinLs rs) out)), nw := resObjs t 0 (joinLs rs) out }) (a.put dst (oneOrV rvs)) w' := by
  have hsame : ∀ b, b < w.heap.size → w'.heap[b]? = w.heap[b]? := fun b hb => hk.heap b hb (by simp)
  have h0 := h.world (w' := w') ⟨Nat.le_trans h.kept.size hk.size, fun b hb hm => (hsame b (Nat.lt_of_lt_of_le hb h.kept.size)).trans (h.kept.heap b hb hm), hk.os.trans h.kept.os, hk.tape.trans h.kept.tape, hk.output.trans h.kept.output⟩ hk.size
    (fun b hb => hsame b (h.live_lt (.inl hb))) (fun b hb => hsame b (h.live_lt (.inr (.inl hb)))) (fun o x hx b hb => hsame b (h.live_lt (.inr (.inr ⟨o, x, hx, hb⟩))))
  obtain ⟨h1, h2, h3⟩ := h0.after_dels [] (resObjs t 0 (joinLs rs) out) (notParR hti 0 _ _)
  obtain ⟨G', r1, r2, r3, r4, r5⟩ := h1.addRes t (joinLs rs) 0 hot hnd (fun b hb => by
    obtain ⟨f1, f2, f3, f4⟩ := h.old_lt (hbs b hb)
    refine ⟨f1, f2, .inl f3, fun o x hx => ?_⟩
    obtain ⟨_, _, y, q2, _⟩ := h3 o x hx
    exact f4 o y q2) h2
  obtain ⟨p1, p2⟩ := packAll_ok hp (resAVs_ok (S0 := S0) (ob := upAll (resObjs t 0 (joinLs rs) out) (clearAll (resObjs t 0 (joinLs rs) out) st).ob) hot r2)
  rw [applyD_eq]
  exact ⟨G', r1.putO hd (oneOr_ok p1 p2)⟩
end
end Go.Proofs.Ythjkpphjlmmkdaa.Vai
