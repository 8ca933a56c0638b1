/- Regions whose order is open, the end of the proof; no condition. -/
import Derived.Test.YthjkpphjlmmkdaaVaiOrd3
namespace Go.Proofs.Ythjkpphjlmmkdaa.Vai
open Go

section
variable {P : Program} {E : Env} {base : Nat} {M : List Nat} {S0 : Nat → Prop} {R0 : Id → Value} {w0 : World} {nt : Nat}
variable {L : List (Option Nat × Delta)} {rs : List Rec} {s0 : FS}

theorem any_ok (hE : EnvOk P E) (hnt : nt ≤ 1000000) {call : FuncId → List Dat → Option (List Dat)} (hC : CallR P E base M S0 R0 w0 nt call) {ops : Array Oper} {st stf : St} {Q : Exit → Act → World → Prop}
    (hT : Tr E nt call ops.toList ops.toList 0 st L rs stf) (c : Chk ops.toList L rs (fsOf st)) (hQ : ∀ a w, Rel E base M S0 R0 w0 nt stf a w → Q .normal a w) :
    ∀ (fuel : Nat) (listed : Array Bool) (st1 : St) (a : Act) (w : World), listed.size = ops.size → listed.toList.count false ≤ fuel → Closed (befores ops.toList []) (fun k => listed.getD k false) → fsOf st1 = fX (fun k => listed.getD k false) L 0 (fsOf st) →
      Rel E base M S0 R0 w0 nt st1 a w → wpAny P .any ops Q fuel listed a w := by
  have hops : ∀ i : Nat, ops.toList[i]? = ops[i]? := fun i => by simp
  obtain ⟨hA, hZ⟩ := hT.at c rfl rfl (by simp only [Nat.not_lt_zero, decide_false]; exact (fX_none _ _ _).symm)
  have hall : ∀ (listed : Array Bool), listed.size = ops.size → Region.ready .any ops listed = [] → ∀ k, k < ops.size → listed.getD k false = true := by
    intro listed hsz hr k
    induction k using Nat.strongRecOn with
    | ind k ih =>
      intro hk
      cases hl : listed.getD k false with
      | true => rfl
      | false =>
        exfalso
        have hmem : k ∈ Region.ready .any ops listed := by
          unfold Region.ready
          simp only [List.mem_filter, List.mem_range, Bool.and_eq_true, Bool.not_eq_true']
          refine ⟨hk, ?_, ?_⟩
          · rw [Array.getD_eq_getD_getElem?] at hl ⊢
            rw [Array.getElem?_eq_getElem (by omega)] at hl ⊢
            exact hl
          · rw [Array.getElem?_eq_getElem hk]
            simp only [Option.map_some, Option.getD_some, Array.all_eq_true']
            intro e he
            cases hb : Region.binds .any e with
            | false => simp
            | true =>
              simp only [Bool.not_true, Bool.false_or]
              have hlt := c.edge k ops[k] (by simp [hk]) e (by simpa using he) hb
              exact ih e.on hlt (by omega)
        rw [hr] at hmem
        cases hmem
  have hend : ∀ (listed : Array Bool) (st1 : St) (a : Act) (w : World), listed.size = ops.size → fsOf st1 = fX (fun k => listed.getD k false) L 0 (fsOf st) → Rel E base M S0 R0 w0 nt st1 a w → Region.ready .any ops listed = [] → Q .normal a w := by
    intro listed st1 a w hsz hs h hr
    have ha := hall listed hsz hr
    refine hQ a w (h.fs ?_)
    rw [hZ, hs]
    have hlen : L.length = ops.size := by rw [c.len.1]; simp
    refine fX_cong fun k hk => ?_
    have : k < ops.size := by omega
    rw [Nat.zero_add, ha k this]
    simpa using this
  intro fuel
  induction fuel with
  | zero =>
    intro listed st1 a w hsz hc hcl hs h
    have hr : Region.ready .any ops listed = [] := by
      unfold Region.ready
      rw [List.filter_eq_nil_iff]
      intro k hk
      have hk := List.mem_range.mp hk
      have h0 : listed.toList.count false = 0 := by omega
      have hne := List.count_eq_zero.mp h0
      have hkl : k < listed.size := by omega
      have : listed[k] = true := by
        cases hb : listed[k] with
        | true => rfl
        | false => exact absurd (by rw [← hb]; simp) hne
      rw [Array.getD_eq_getD_getElem?, Array.getElem?_eq_getElem hkl, this]
      simp
    exact ⟨hr, hend listed st1 a w hsz hs h hr⟩
  | succ fuel ihf =>
    intro listed st1 a w hsz hc hcl hs h
    refine ⟨hend listed st1 a w hsz hs h, fun i hi => ?_⟩
    unfold Region.ready at hi
    simp only [List.mem_filter, List.mem_range, Bool.and_eq_true, Bool.not_eq_true'] at hi
    obtain ⟨hin, hi1, hi2⟩ := hi
    have hX : listed.getD i false = false := by
      rw [Array.getD_eq_getD_getElem?, Array.getElem?_eq_getElem (by omega)] at hi1 ⊢
      exact hi1
    have ho : ops[i]? = some ops[i] := Array.getElem?_eq_getElem hin
    rw [ho] at hi2
    simp only [Option.map_some, Option.getD_some, Array.all_eq_true'] at hi2
    generalize hoe : ops[i] = o at ho hi2
    have hedge : ∀ e ∈ o.after.toList, Region.binds .any e = true → listed.getD e.on false = true := fun e he hb => by
      have := hi2 e (by simpa using he)
      rw [hb] at this
      simpa using this
    have hbef : ∀ k ∈ (befores ops.toList []).getD i [], listed.getD k false = true := fun k hk => by
      obtain ⟨e, h1, h2, h3⟩ := befores_get ops.toList [] i o (by rw [hops]; exact ho) k (by simpa using hk)
      rcases h3 with rfl | h3
      · exact hedge e h1 h2
      · exact hcl e.on (hedge e h1 h2) k h3
    obtain ⟨sti, d, rc, p1, p2, ⟨e1, e2, e3, e4⟩, p4⟩ := hA i o (by rw [hops]; exact ho)
    rw [Nat.zero_add] at p1 p2 p4
    -- what i reads is as in the text's order
    have agT : ∀ t ∈ rc.reads, getT st1.tm t = getT sti.tm t := fun t ht => by
      have : (fsOf st1).t t = (fsOf sti).t t := by
        rw [hs, p4]
        refine fX_t (fun m q hq hne => ?_) rfl
        rw [Nat.zero_add] at hne
        obtain ⟨y, hy, r1, r2, r3⟩ := c.recAt hq
        rcases Nat.lt_trichotomy m i with hlt | heq | hgt
        · have hXm : listed.getD m false = false := by
            cases hb : listed.getD m false with
            | false => rfl
            | true => rw [hb] at hne; simp [hlt] at hne
          have := (apart_spec (c.earlier (X := fun k => listed.getD k false) hbef p2 hy hlt hXm)).2.1
          rw [← r1.dst]
          exact fun hd => this t hd ht
        · subst heq; rw [hX] at hne; simp at hne
        · have hXm : listed.getD m false = true := by
            cases hb : listed.getD m false with
            | true => rfl
            | false => rw [hb] at hne; simp at hne; omega
          have := (apart_spec (c.later hcl hX p2 hy hgt hXm)).1
          rw [← r1.dst]
          exact fun hd => (this t hd).1 ht
      exact this
    have agO : ∀ k ∈ rc.touch, getO st1.ob k = getO sti.ob k := fun k hk => by
      have : (fsOf st1).o k = (fsOf sti).o k := by
        rw [hs, p4]
        refine fX_o (fun m q hq hne => ?_) rfl
        rw [Nat.zero_add] at hne
        obtain ⟨y, hy, r1, r2, r3⟩ := c.recAt hq
        refine r1.wr k fun hw => ?_
        rcases Nat.lt_trichotomy m i with hlt | heq | hgt
        · have hXm : listed.getD m false = false := by
            cases hb : listed.getD m false with
            | false => rfl
            | true => rw [hb] at hne; simp [hlt] at hne
          exact (apart_spec (c.earlier (X := fun k => listed.getD k false) hbef p2 hy hlt hXm)).2.2.2.1 k hw hk
        · subst heq; rw [hX] at hne; simp at hne
        · have hXm : listed.getD m false = true := by
            cases hb : listed.getD m false with
            | true => rfl
            | false => rw [hb] at hne; simp at hne; omega
          exact ((apart_spec (c.later hcl hX p2 hy hgt hXm)).2.2.1 k hw).1 hk
      exact this
    have hset : (fun k => (listed.setIfInBounds i true).getD k false) = addX (fun k => listed.getD k false) i := funext fun k => by
      simp only [addX, Array.getD_eq_getD_getElem?, Array.getElem?_setIfInBounds]
      by_cases hk : k = i
      · subst hk; simp [hsz, hin]
      · rw [if_neg (fun e => hk e.symm), if_neg hk]
    have hcl' : Closed (befores ops.toList []) (fun k => (listed.setIfInBounds i true).getD k false) := by
      rw [hset]
      intro j hj k hk
      simp only [addX] at hj ⊢
      split
      · rfl
      · by_cases hji : j = i
        · subst hji; exact hbef k hk
        · rw [if_neg hji] at hj
          exact hcl j hj k hk
    have hcnt : (listed.setIfInBounds i true).toList.count false ≤ fuel := by
      have hli : i < listed.toList.length := by simp [hsz, hin]
      rw [Array.toList_setIfInBounds, List.count_set hli]
      have : listed.toList[i] = false := by
        rw [Array.getD_eq_getD_getElem?, Array.getElem?_eq_getElem (by omega)] at hX
        simpa using hX
      rw [this, if_pos (by rfl), if_neg (by decide)]
      omega
    have next : ∀ (a' : Act) (w' : World), Rel E base M S0 R0 w0 nt (applyD st1 o.dst d) a' w' → wpAny P .any ops Q fuel (listed.setIfInBounds i true) a' w' := fun a' w' h' =>
      ihf _ _ a' w' (by simp [hsz]) hcnt hcl' (by rw [hset]; exact c.step hcl hX p1 hs) h'
    obtain ⟨G, hG⟩ := h
    unfold wpOp
    rw [ho]
    simp only
    rcases e4 with ⟨r, ds, q1, q2, q3, q4, q5, q6, q7⟩ | ⟨q1, q2, gi, want, ti, q3, q4, q5⟩
    · have hw : Region.wanted o (yielded ops a.tmps) = true := by
        rcases q7 with q7 | ⟨gi, want, ti, g1, g2, g3⟩
        · simp only [Region.wanted, q7]
        · have hti : ti ∈ rc.reads := by
            have hg : guardT ops.toList o = [ti] := by simp only [guardT, g1, g2]; rfl
            rw [q5, hg]; simp
          have := yielded_b hG (ops := ops) (i := gi) (ti := ti) (by rw [← hops]; exact g2) (x := want) (by rw [agT ti hti]; exact g3)
          simp only [Region.wanted, g1, this]; simp
      rw [if_pos hw]
      refine .inl ?_
      have hio : iop E call (lookOf st1 o) st1.tm o = some r := by
        rw [iop_local (st := sti) (fun t ht => agT t (by rw [q5]; simp [ht])) (fun k hk => agO k (by rw [q6]; exact hk))]
        exact q1
      have := iop_ok hE hnt hC hG (evs_look _ _) e1 hio q2 q3 (Q := Q)
      rw [q4] at this
      exact Oper.wp_mono next this
    · have hti : ti ∈ rc.reads := by
        have hg : guardT ops.toList o = [ti] := by simp only [guardT, q3, q4]; rfl
        rw [q2, hg]; simp
      have hw : ¬ Region.wanted o (yielded ops a.tmps) = true := by
        rcases q5 with q5 | q5
        · have := yielded_b hG (ops := ops) (i := gi) (ti := ti) (by rw [← hops]; exact q4) (x := !want) (by rw [agT ti hti]; exact q5)
          simp only [Region.wanted, q3, this]
          cases want <;> decide
        · have := yielded_none hG (ops := ops) (i := gi) (ti := ti) (by rw [← hops]; exact q4) (by rw [agT ti hti]; exact q5)
          simp only [Region.wanted, q3, this]; simp
      rw [if_neg hw]
      subst q1
      exact next _ _ ⟨G, hG.done_pure e1 undefR⟩

theorem draw_ok (hE : EnvOk P E) (hnt : nt ≤ 1000000) {call : FuncId → List Dat → Option (List Dat)} (hC : CallR P E base M S0 R0 w0 nt call) {id : Nat} {ops : Array Oper} {st : St} {a : Act} {w : World} {out : List Dat} {K : St → Option (List Dat)} {Q : Exit → Act → World → Prop}
    (h : Rel E base M S0 R0 w0 nt st a w) (hQ : ∀ st' a' w', Rel E base M S0 R0 w0 nt st' a' w' → K st' = some out → Q .normal a' w')
    (hr : runOps E nt call ops.toList (fun rs st' => bif orderOk ops.toList st rs then K st' else none) ops.toList 0 [] st = some out) : (Code.region id ops true).wp P Q a w := by
  obtain ⟨L, rs, stf, hT, hf⟩ := runOps_tr hr
  rw [List.append_nil] at hf
  obtain ⟨hok, hk⟩ := bifT hf
  have hc := hT.chk hok
  refine wp_region_any hE.mixed (any_ok hE hnt hC hT hc (fun a' w' h' => hQ stf a' w' h' hk) ops.size _ st a _ (by simp) ?_ ?_ ?_ h.drew)
  · exact Nat.le_trans List.count_le_length (by simp)
  · intro j hj
    simp only at hj
    rw [Array.getD_eq_getD_getElem?, Array.getElem?_replicate] at hj
    split at hj <;> simp at hj
  · have : (fun k => (Array.replicate ops.size false).getD k false) = fun _ => false := funext fun k => by
      rw [Array.getD_eq_getD_getElem?, Array.getElem?_replicate]
      split <;> rfl
    rw [this]
    exact (fX_none _ _ _).symm
end
end Go.Proofs.Ythjkpphjlmmkdaa.Vai
