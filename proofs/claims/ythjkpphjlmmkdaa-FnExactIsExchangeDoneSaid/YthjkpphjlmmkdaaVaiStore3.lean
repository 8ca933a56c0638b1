/- Stores, as the interpreter tells them; no condition. -/
import Derived.Test.YthjkpphjlmmkdaaVaiStore2
namespace Go.Proofs.Ythjkpphjlmmkdaa.Vai
open Go

section
variable {P : Program} {E : Env} {base : Nat} {M : List Nat} {S0 : Nat → Prop} {R0 : Id → Value} {w0 : World} {nt : Nat} {G : Gh} {st : St} {a : Act} {w : World} {look : Look}

theorem selfOver_some {o : Id} {off ver : Nat} {holes : List (Int × Nat)} {ls : List Leaf} {x : AV} {row' : Int} {d : Dat} (h : selfOver o off ver holes ls x = some (row', d)) :
    ∃ e wh r, ls = [.sl e] ∧ x = .nest o ver row' off e wh r ∧ colIn off 1 holes = false ∧ d = .sl r := by
  unfold selfOver at h
  split at h
  · rename_i e o' ver' row col e' wh r
    obtain ⟨h1, h2⟩ := bifT h
    simp only [Bool.and_eq_true, Bool.not_eq_true'] at h1
    obtain ⟨q1, q2, q3, q4, q5⟩ := h1
    have q1 := idEq_iff.mp q1; subst q1
    have q2 := beqT q2; subst q2
    have q3 := beqT q3; subst q3
    have q4 := beqT q4; subst q4
    simp only [Option.some.injEq, Prod.mk.injEq] at h2
    obtain ⟨rfl, rfl⟩ := h2
    exact ⟨_, _, _, rfl, rfl, q5, rfl⟩
  · cases h

theorem opStore_ok (hE : EnvOk P E) (h : RelG E base M S0 R0 w0 nt G st a w) (hlook : ∀ i x, look i = some x → getO st.ob i = some x) {dst : Option Nat} (hd : inB nt dst = true) {t : TypeId} {x pa : AV} {vx va : Value}
    (hx : VR E w S0 G st.ob x vx) (hpa : VR E w S0 G st.ob pa va) {r : OpRes} (hr : opStore E look t x pa = some r) (hg : r.g = true) :
    r.o = some [] ∧ SteppedU E base M S0 R0 w0 nt st a dst (r.f []) ((Instr.storeAt t va vx).run P w) := by
  cases hpa with
  | ptr o row off va hp h1 =>
    simp only [opStore] at hr
    split at hr
    · cases hr
    · rename_i ti ht
      have hTi := hE.T t ti ht
      split at hr
      · rename_i bt cells hl
        have hgo := hlook _ _ hl
        obtain ⟨hb, hr2⟩ := bifT hr
        simp only [just, Option.some.injEq] at hr2
        subst hr2
        simp only [Bool.and_eq_true] at hb
        obtain ⟨b1, b2, b3⟩ := hb
        exact ⟨rfl, storeBox_ok hE h hd ht hp hgo hx (Nat.le_of_ble_eq_true b1) (beqT b2) b3⟩
      · rename_i e rows dp ver holes hl
        have hgo := hlook _ _ hl
        obtain ⟨te, hte, hlen, hobj⟩ := (h.objs o _ hgo : RowR E w _ e rows dp holes _ _ _)
        obtain ⟨hr0, hrl, gp, op, np, cp, hroot, hva⟩ := hp.2 e rows dp ver holes te hgo hte
        subst hva
        rcases hobj with ⟨b3, _⟩ | ⟨g, offb, c, arr, u, bs, a1, a2, a3, a4, a5, a6, a7, a8, a9, a10⟩
        · rw [b3] at hroot; cases hroot
        rw [a1] at hroot
        injection hroot with e1 e2 e3
        injection e1 with e1
        injection e1 with e1 e4 _
        subst e1; subst e4; subst e2; subst e3
        have hfitc : row.toNat * te.ls.length + te.ls.length ≤ c * te.ls.length := by
          have : (row.toNat + 1) * te.ls.length ≤ c * te.ls.length := Nat.mul_le_mul_right _ (by omega)
          rw [Nat.add_mul] at this; omega
        have hrw : rows[row.toNat]? = some (rows.getD row.toNat []) := by simp [List.getElem?_eq_getElem hrl, List.getD]
        -- where the cells lie
        have hplace : fits E ti.ls off e = true → (∀ (i : Nat) (l : Leaf), ti.ls[i]? = some l → te.ls[off + i]? = some l) ∧ off + ti.ls.length ≤ te.ls.length := fun hf => by
          obtain ⟨te', q1, q2⟩ := fits_get hf
          rw [hte] at q1; cases q1
          refine ⟨q2, ?_⟩
          have hpos := hTi.pos.1
          have := q2 (ti.ls.length - 1) _ (List.getElem?_eq_getElem (by omega))
          have := (List.getElem?_eq_some_iff.mp this).1
          omega
        split at hr
        · -- a part of itself, put back
          rename_i row' d hself
          obtain ⟨hf, hr2⟩ := bifT hr
          obtain ⟨e1, wh, rr, hls, rfl, hcol, rfl⟩ := selfOver_some hself
          simp only [under, Option.some.injEq] at hr2
          subst hr2
          have hrow : row' = row := by simpa using hg
          subst hrow
          obtain ⟨hpl, hn⟩ := hplace hf
          refine ⟨rfl, ?_⟩
          cases hx with
          | nest _ _ _ _ _ _ _ _ hrd hnest =>
            have hone := hrd.one
            have hcells : vx.cells.toList = [vx] := by rw [one_cells hone]
            have hnh : ∀ q, (q, off) ∉ holes := fun q hq => colIn_false hcol _ hq ⟨Nat.le_refl _, by simp⟩
            have hcole : te.ls[off]? = some (.sl e1) := by have := hpl 0 (.sl e1) (by rw [hls]; rfl); simpa using this
            obtain ⟨bsn, hbn⟩ : ∃ bsn : List Nat, (dp = true → OT E w (.sl e1) (.sl rr) vx bsn ∧ ∀ b ∈ bsn, b ∈ bs row'.toNat off) ∧ bsn.Nodup ∧ (dp = false → bsn = []) := by
              cases dp with
              | false => exact ⟨[], (fun h => by cases h), by simp, fun _ => rfl⟩
              | true =>
                obtain ⟨_, _, r1, g', o0, n', cc, xv, n1, n2, n3, _, lo, n'', te1, n5, n6⟩ := hnest.2 e rows ver holes te hgo rfl hnh hte
                rw [hrw] at n1; cases n1
                rw [a1] at n2
                injection n2 with e1 e2 e3
                injection e1 with e1
                injection e1 with e1 e4 _
                subst e1; subst e4
                have hoi := (List.getElem?_eq_some_iff.mp hcole).1
                have hxv : u row'.toNat off = xv := by
                  have := (a6 row'.toNat off hrl hoi).1
                  simp only [World.cell?, a3] at n3
                  simp at n3
                  rw [n3] at this
                  exact (Option.some.inj this).symm
                have hot := a7 row'.toNat off _ _ hrw hcole (fun ⟨q, hq, _⟩ => hnh q hq)
                simp only [if_true] at hot
                rw [hxv] at hot
                have hnd : (bs row'.toNat off).Nodup := by
                  have := (h.ins o _ hgo).2
                  rw [a8 rfl] at this
                  exact (flatB_nodup_inv this).1 _ _ hrl hoi
                obtain ⟨bs', w1, w2, w3⟩ := OT.window n5 (hot.sl_dat (d' := .sl ((rows.getD row'.toNat []).getD off default).rows) rfl) hnd n6
                exact ⟨bs', fun _ => ⟨w1.of_rd hrd, w3⟩, w2, fun h => by cases h⟩
            have hrun := run_storeAt hTi (off := offb + (row'.toNat * te.ls.length + off)) a3 (v := vx) (by rw [one_cells hone, hls]; rfl) (by rw [hcells]; intro u hu; simp at hu; subst hu; exact hone) (by omega)
            rw [hcells] at hrun
            have one1 : ∀ {i : Nat} {l : Leaf}, ti.ls[i]? = some l → i = 0 ∧ l = .sl e1 := fun {i l} hl => by
              rw [hls] at hl
              cases i with
              | zero => simp at hl; exact ⟨rfl, hl.symm⟩
              | succ i => simp at hl
            obtain ⟨G', key⟩ := h.writeRow hd hgo hte hlen a1 a2 a3 a4 a5 a6 a7 a8 a10 hrl (off := off) (ls := ti.ls) hn hpl (ds := [.sl rr]) (vs := [vx]) (by rw [hls]; rfl) (by rw [hls]; rfl) (dl := []) (fun _ h => by cases h) (by simp) (deep' := dp) (fun h => h)
              (bsn := fun i => if i = 0 then bsn else []) (fun i l hl => by
                obtain ⟨rfl, rfl⟩ := one1 hl
                exact hrd.mono fun b hb => hb.imp id .inl) (fun hdp i l hl => by
                obtain ⟨rfl, rfl⟩ := one1 hl
                exact (hbn.1 hdp).1) (fun i hi b hb => by
                split at hb
                · rename_i e0
                  subst e0
                  cases dp with
                  | true => exact .inr ⟨rfl, (hbn.1 rfl).2 b hb⟩
                  | false => rw [hbn.2.2 rfl] at hb; cases hb
                · cases hb) (fun i => by
                show (if i = 0 then bsn else []).Nodup
                split
                · exact hbn.2.1
                · simp) (fun i j hij b hb hb' => by
                split at hb
                · split at hb'
                  · exact hij (by omega)
                  · cases hb'
                · cases hb)
              (holes' := holes) (vr' := ver + 1) (fun _ h => h) (fun _ h => .inl h) (fun p hp hc => colIn_false hcol p hp ⟨hc.2.1, by have := hc.2.2; rw [hls] at this; exact this⟩) (Nat.le_succ _) (fun h => by omega)
            exact ⟨_, hrun, G', key⟩
        · -- values handed over
          rename_i hself
          split at hr
          · cases hr
          · rename_i gv hgv
            rcases Bool.eq_false_or_eq_true (memId o gv.ids || (!nodupId gv.ids || !fits E ti.ls off e)) with hb | hb <;> rw [hb] at hr
            · cases hr
            simp only [cond_false] at hr
            simp only [Bool.or_eq_false_iff, Bool.not_eq_false'] at hb
            obtain ⟨b1, b2, b3⟩ := hb
            have b1 := memId_false.mp b1
            have b2 := nodupId_iff.mp b2
            obtain ⟨hpl, hn⟩ := hplace b3
            have hsol := gives_solid hTi.pos.1 hgv
            have hfr := hx.flatR hsol
            obtain ⟨⟨bsn, q⟩, qlive, qlen⟩ := gives_ok h hlook hTi.elem (us := fun k => vx.cells.toList.getD k undef) (fun k y hy => by
              have hk : k < vx.cells.toList.length := by have := (List.getElem?_eq_some_iff.mp hy).1; rw [hfr.1] at this; exact this
              have hxx : vx.cells.toList[k]? = some (vx.cells.toList.getD k undef) := by simp [List.getElem?_eq_getElem hk, List.getD]
              exact (hfr.2 k y _ hy hxx).1) hgv b2
            have hsz : vx.cells.size = ti.ls.length := by have := hfr.1; simp at this; omega
            have hrun := run_storeAt hTi (off := offb + (row.toNat * te.ls.length + off)) a3 (v := vx) hsz (fun u hu => by
              obtain ⟨i, hi⟩ := List.getElem?_of_mem hu
              have hi' : i < (flat x).length := by rw [hfr.1]; exact (List.getElem?_eq_some_iff.mp hi).1
              exact (hfr.2 i _ u (List.getElem?_eq_getElem hi') hi).2) (by omega)
            have core := fun {holes' : List (Int × Nat)} {vr' : Nat} hh1 hh2 hh3 hvr hvr2 => h.writeRow hd hgo hte hlen a1 a2 a3 a4 a5 a6 a7 a8 a10 hrl (off := off) (ls := ti.ls) hn hpl (ds := gv.ds) (vs := vx.cells.toList) q.len (by simp [hsz]) qlive b1 (deep' := dp && gv.deep)
              (fun h => by simp only [Bool.and_eq_true] at h; exact h.1) q.rd (fun h => by simp only [Bool.and_eq_true] at h; exact q.ot h.2) (fun i _ b hb => .inl (q.sub i b hb)) q.nodup q.disj (holes' := holes') (vr' := vr') hh1 hh2 hh3 hvr hvr2
            cases hc : colIn off ti.ls.length holes <;> rw [hc] at hr
            · simp only [cond_false, just, Option.some.injEq] at hr
              subst hr
              refine ⟨rfl, ?_⟩
              obtain ⟨G', key⟩ := core (holes' := holes) (vr' := bif hasSl ti.ls then ver + 1 else ver) (fun _ h => h) (fun _ h => .inl h) (fun p hp hcc => colIn_false hc p hp hcc.2) (by cases hasSl ti.ls <;> simp) (fun he => by
                cases hs : hasSl ti.ls with
                | true => rw [hs] at he; simp at he
                | false => exact ⟨fun i e' hh => hasSl_false hs i _ hh e' rfl, rfl⟩)
              exact ⟨_, hrun, G', key⟩
            · simp only [cond_true, under, Option.some.injEq] at hr
              subst hr
              refine ⟨rfl, ?_⟩
              have hri : rowIs row holes = true := hg
              obtain ⟨G', key⟩ := core (holes' := holesOut off ti.ls.length holes) (vr' := ver + 1) (fun p hp => (holesOut_mem.mp hp).1) (fun p hp => by
                by_cases hin : off ≤ p.2 ∧ p.2 < off + ti.ls.length
                · exact .inr ⟨by rw [rowIs_mem hri p hp], hin⟩
                · exact .inl (holesOut_mem.mpr ⟨hp, hin⟩)) (fun p hp hcc => (holesOut_mem.mp hp).2 hcc.2) (Nat.le_succ _) (fun h => by omega)
              exact ⟨_, hrun, G', key⟩
      · cases hr
  | _ => simp [opStore] at hr
end
end Go.Proofs.Ythjkpphjlmmkdaa.Vai
