/- append: in place, and into a new block; no condition. -/
import Derived.Test.YthjkpphjlmmkdaaVaiNumb
namespace Go.Proofs.Ythjkpphjlmmkdaa.Vai
open Go

theorem one_cell' {v : Value} (h : oneV v) : v.oneCell' = true := by
  cases v <;> first | rfl | exact absurd rfl (h.1 _) | exact absurd rfl (h.2 _)

section
variable {P : Program} {E : Env} {base : Nat} {M : List Nat} {S0 : Nat → Prop} {R0 : Id → Value} {w0 : World} {nt : Nat} {G : Gh} {st : St} {a : Act} {w : World} {look : Look}

/-! ## the machine -/
theorem run_app_zero {ats : Array TypeId} {ty t t1 e e1 : TypeId} {te : TI} (ha0 : ats[0]? = some t) (ha1 : ats[1]? = some t1) (hu : P.underlying t = some (.slice e)) (hu1 : P.underlying t1 = some (.slice e1)) (hT : TOk P E e te) {B : Option Addr} {c' : Nat} :
    (Builtin.append_ ats ty #[.slice none 0 0, .slice B 0 c']).run P w = .ok (.slice none 0 0) w := by
  cases B <;> simp [Builtin.append_, ha0, ha1, run_underlying hu, run_underlying hu1, hT.size, Builtin.lenOf, Builtin.firstCells, loadCells, loadCellsFrom]
theorem run_app_stay {ats : Array TypeId} {ty t t1 e e1 : TypeId} {te : TI} (ha0 : ats[0]? = some t) (ha1 : ats[1]? = some t1) (hu : P.underlying t = some (.slice e)) (hu1 : P.underlying t1 = some (.slice e1)) (hT : TOk P E e te)
    {g off n c : Nat} {arr : Array Value} {et : TypeId} (hg : w.heap[g]? = some (.cells arr et (0, 0))) {B : Option Addr} {m c' : Nat} {news : List Value} (hl : news.length = m * te.ls.length)
    (hnews : (Builtin.firstCells te.ls.length m (.slice B m c')).run P w = .ok news.toArray w) (h1 : ∀ u ∈ news, oneV u) (hle : n + m ≤ c) (hfit : off + c * te.ls.length ≤ arr.size) :
    (Builtin.append_ ats ty #[.slice (some ⟨g, off, none⟩) n c, .slice B m c']).run P w =
      .ok (.slice (some ⟨g, off, none⟩) (n + m) c) (w.setRow g (arr.toList.take (off + n * te.ls.length) ++ news ++ arr.toList.drop (off + n * te.ls.length + news.length)).toArray) := by
  have hle' : (n + m) * te.ls.length ≤ c * te.ls.length := Nat.mul_le_mul_right _ hle
  rw [Nat.add_mul] at hle'
  have hst := run_storeCells_at P g (off + n * te.ls.length) et news 0 arr w hg (by omega) (fun v hv => one_cell' (h1 v hv))
  simp only [Nat.add_zero] at hst
  simp [Builtin.append_, ha0, ha1, run_underlying hu, run_underlying hu1, hT.size, Builtin.lenOf, hle, hnews, add_at, hst]
theorem run_app_grow {ats : Array TypeId} {ty t t1 e e1 : TypeId} {te : TI} (ha0 : ats[0]? = some t) (ha1 : ats[1]? = some t1) (hu : P.underlying t = some (.slice e)) (hu1 : P.underlying t1 = some (.slice e1)) (hT : TOk P E e te)
    {A : Option Addr} {n c : Nat} {olds : List Value} (holds : (Builtin.firstCells te.ls.length n (.slice A n c)).run P w.drew = .ok olds.toArray w.drew) {B : Option Addr} {m c' : Nat} {news : List Value}
    (hnews : (Builtin.firstCells te.ls.length m (.slice B m c')).run P w.drew = .ok news.toArray w.drew) (hlt : c < n + m) (hby : (n + m) * te.by_ ≤ maxBytes) :
    ∃ c2 rest, n + m ≤ c2 ∧ rest.length = (c2 - (n + m)) * te.ls.length ∧ (Builtin.append_ ats ty #[.slice A n c, .slice B m c']).run P w =
      .ok (.slice (some ⟨w.heap.size, 0, none⟩) (n + m) c2) (w.drew.alloc (.cells (olds ++ (news ++ rest)).toArray e)) := by
  obtain ⟨i, z, hi, hsz, hb, hz1, hz2⟩ := hT.info'
  have hbp := hT.pos.2
  have hby' : (n + m) * te.by_ ≤ 70368744177664 := hby
  have hn63 : n + m ≤ 70368744177664 := Nat.le_trans (Nat.le_mul_of_pos_right _ hbp) hby'
  have hn : ¬ (n + m ≤ c) := by omega
  have h63' : ¬ (9223372036854775807 < ((n : Int) + (m : Int))) := by omega
  have hfit := growslice_fits (old := c) (need := n + m) (bytes := i.bytes) hlt (by rw [hb]; omega)
  have h48' : ¬ (281474976710656 < Builtin.nextslicecap (n + m) c * i.bytes) := by omega
  refine ⟨grownCap w (n + m) c e, (Builtin.zeroCells z.cells (grownCap w (n + m) c e - (n + m))).toList, grownCap_ge _ _ _ _, by simp [size_zeroCells, hz2], ?_⟩
  simp [Builtin.append_, ha0, ha1, run_underlying hu, run_underlying hu1, hT.size, typeInfo, zeroValue, hi, hz1, Builtin.lenOf, hn, h63', h48', Question.forced, holds, hnews, newRow, grownCap]
  congr 2
  apply Array.ext'
  simp

/-! ## the cells of a table, in order -/
def cellsOfTab (n sz : Nat) (u : Nat → Nat → Value) : List Value := (List.range (n * sz)).map fun x => u (x / sz) (x % sz)
theorem cellsOfTab_length {n sz : Nat} {u : Nat → Nat → Value} : (cellsOfTab n sz u).length = n * sz := by simp [cellsOfTab]
theorem div_row {j i sz : Nat} (hi : i < sz) : (j * sz + i) / sz = j := by
  rw [Nat.mul_comm, Nat.mul_add_div (by omega), Nat.div_eq_of_lt hi]; rfl
theorem cellsOfTab_get {n sz : Nat} {u : Nat → Nat → Value} {j i : Nat} (hj : j < n) (hi : i < sz) : (cellsOfTab n sz u)[j * sz + i]? = some (u j i) := by
  obtain ⟨m1, m2⟩ := mod_row hj hi
  simp [cellsOfTab, m1, m2, div_row hi]
theorem run_first {n sz c : Nat} {u : Nat → Nat → Value} {A : Option Addr} (hsz : 0 < sz) (hm : ∀ j i : Nat, j < n → i < sz → ∃ ad : Addr, A = some ad ∧ ad.spot = none ∧ w.cell? ⟨ad.block, ad.off + (j * sz + i), none⟩ = some (u j i)) :
    (Builtin.firstCells sz n (.slice A n c)).run P w = .ok (cellsOfTab n sz u).toArray w := by
  cases A with
  | none =>
    have : n = 0 := by
      cases n with
      | zero => rfl
      | succ n => obtain ⟨ad, h, _⟩ := hm 0 0 (by omega) hsz; cases h
    subst this
    simp [Builtin.firstCells, cellsOfTab]
  | some ad =>
    refine run_firstCells_some w sz n ad n c (cellsOfTab n sz u) cellsOfTab_length (fun x v hx => ?_)
    have hx' : x < n * sz := by have := (List.getElem?_eq_some_iff.mp hx).1; rwa [cellsOfTab_length] at this
    have hj : x / sz < n := Nat.div_lt_of_lt_mul (by rw [Nat.mul_comm]; exact hx')
    have hi : x % sz < sz := Nat.mod_lt _ hsz
    obtain ⟨ad', h1, h2, h3⟩ := hm (x / sz) (x % sz) hj hi
    cases h1
    obtain ⟨g, o, sp⟩ := ad
    simp only at h2; subst h2
    rw [add_at]
    have hx2 : x / sz * sz + x % sz = x := by rw [Nat.mul_comm]; exact Nat.div_add_mod x sz
    have hv : v = u (x / sz) (x % sz) := by
      have := cellsOfTab_get (u := u) hj hi
      rw [hx2, hx] at this
      exact Option.some.inj this
    rw [hv, ← h3, hx2]

/-- two tables, one after the other -/
theorem TabR.append {S D1 D2 : Nat → Prop} {d1 d2 : Bool} {te : TI} {r1 r2 : List (List Dat)} {u1 u2 : Nat → Nat → Value} {b1 b2 : Nat → Nat → List Nat} (h1 : TabR E w S D1 d1 te r1 u1 b1) (h2 : TabR E w S D2 d2 te r2 u2 b2)
    (hx : ∀ b, D1 b → D2 b → False) : TabR E w S (fun b => D1 b ∨ D2 b) (d1 && d2) te (r1 ++ r2) (fun j i => if j < r1.length then u1 j i else u2 (j - r1.length) i) (fun j i => if j < r1.length then b1 j i else b2 (j - r1.length) i) := by
  have hget : ∀ j r, (r1 ++ r2)[j]? = some r → (j < r1.length ∧ r1[j]? = some r) ∨ (¬ j < r1.length ∧ r2[j - r1.length]? = some r) := fun j r hj => by
    by_cases h : j < r1.length
    · rw [List.getElem?_append_left h] at hj; exact .inl ⟨h, hj⟩
    · rw [List.getElem?_append_right (by omega)] at hj; exact .inr ⟨h, hj⟩
  refine ⟨fun j r hj => ?_, fun j i r l hj hl => ?_, fun hd j i r l hj hl => ?_, fun j i b hb => ?_, fun j i => ?_, fun j i j' i' hne b hb hb' => ?_⟩
  · rcases hget j r hj with ⟨_, hj⟩ | ⟨_, hj⟩
    · exact h1.len _ _ hj
    · exact h2.len _ _ hj
  · rcases hget j r hj with ⟨hlt, hj⟩ | ⟨hlt, hj⟩
    · simp only [hlt, if_true]; exact h1.rd _ _ _ _ hj hl
    · simp only [hlt, if_false]; exact h2.rd _ _ _ _ hj hl
  · simp only [Bool.and_eq_true] at hd
    rcases hget j r hj with ⟨hlt, hj⟩ | ⟨hlt, hj⟩
    · simp only [hlt, if_true]; exact h1.ot hd.1 _ _ _ _ hj hl
    · simp only [hlt, if_false]; exact h2.ot hd.2 _ _ _ _ hj hl
  · split at hb
    · exact .inl (h1.sub _ _ b hb)
    · exact .inr (h2.sub _ _ b hb)
  · split
    · exact h1.nodup _ _
    · exact h2.nodup _ _
  · split at hb <;> split at hb'
    · exact h1.disj _ _ _ _ hne b hb hb'
    · exact hx b (h1.sub _ _ b hb) (h2.sub _ _ b hb')
    · exact hx b (h1.sub _ _ b hb') (h2.sub _ _ b hb)
    · refine h2.disj _ _ _ _ (fun ⟨e1, e2⟩ => hne ⟨?_, e2⟩) b hb hb'
      omega

/-- the first argument in memory -/
def DstR (E : Env) (w : World) (S D : Nat → Prop) (T : Nat → Prop) (e : TypeId) (te : TI) (rows : List (List Dat)) (deep : Bool) (v : Value) : Prop :=
  (v = .slice none 0 0 ∧ rows = []) ∨
  ∃ (g off c : Nat) (arr : Array Value) (u : Nat → Nat → Value) (bs : Nat → Nat → List Nat), v = .slice (some ⟨g, off, none⟩) rows.length c ∧ T g ∧ w.heap[g]? = some (.cells arr e (0, 0)) ∧ rows.length ≤ c ∧ off + c * te.ls.length ≤ arr.size ∧
    (∀ j i : Nat, j < rows.length → i < te.ls.length → arr[off + (j * te.ls.length + i)]? = some (u j i)) ∧ TabR E w S D deep te rows u bs
/-- the second argument in memory -/
def SrcR (E : Env) (w : World) (S D : Nat → Prop) (te : TI) (rows : List (List Dat)) (deep : Bool) (v : Value) : Prop :=
  ∃ (B : Option Addr) (c : Nat) (u : Nat → Nat → Value) (bs : Nat → Nat → List Nat), v = .slice B rows.length c ∧ rows.length ≤ c ∧
    (∀ j i : Nat, j < rows.length → i < te.ls.length → ∃ ad : Addr, B = some ad ∧ ad.spot = none ∧ w.cell? ⟨ad.block, ad.off + (j * te.ls.length + i), none⟩ = some (u j i)) ∧ TabR E w S D deep te rows u bs

theorem drew_cell {ad : Addr} : w.drew.cell? ad = w.cell? ad := rfl
/-- append, after what goes has gone: the blocks 'fl' turn into the new row's inside -/
theorem RelG.appendTo (hE : EnvOk P E) (h : RelG E base M S0 R0 w0 nt G st a w) {k : Id} (hno : NoRef k st) {ats : Array TypeId} {ty t t1 e e1 : TypeId} {te : TI} (ha0 : ats[0]? = some t) (ha1 : ats[1]? = some t1) (hu : P.underlying t = some (.slice e))
    (hu1 : P.underlying t1 = some (.slice e1)) (hte : E.T e = some te) {fl : List Nat} {D1 D2 T : Nat → Prop}
    (hfl : ∀ b ∈ fl, ¬ S0 b ∧ (base ≤ b ∨ b ∈ M) ∧ b < w.heap.size ∧ ∀ o x, getO st.ob o = some x → b ∉ G.top o ∧ b ∉ G.ins o)
    (hT : ∀ b, T b → ¬ S0 b ∧ b ∉ G.F ∧ b ∉ fl ∧ (base ≤ b ∨ b ∈ M) ∧ ∀ o x, getO st.ob o = some x → b ∉ G.top o)
    (hD : ∀ b, D1 b ∨ D2 b → (b ∈ G.F ∨ b ∈ fl) ∧ ∀ o x, getO st.ob o = some x → b ∉ G.ins o) (hx : ∀ b, D1 b → D2 b → False) (hDT : ∀ b, D1 b ∨ D2 b → ¬ T b)
    {S : Nat → Prop} (hS : ∀ b, S b → S0 b ∨ b ∈ G.F ∨ b ∈ fl) {r1 r2 : List (List Dat)} {d1 d2 : Bool} {vs vx : Value} (hs : DstR E w S D1 T e te r1 d1 vs) (hsrc : SrcR E w S D2 te r2 d2 vx)
    (hby : (r1.length + r2.length) * te.by_ ≤ maxBytes) :
    ∃ v' w' G', (Builtin.append_ ats ty #[vs, vx]).run P w = .ok v' w' ∧ RelG E base M S0 R0 w0 nt G' { st with ob := setO st.ob k (.row e (r1 ++ r2) (d1 && d2) 0 []) } a w' ∧ VR E w' S0 G' (setO st.ob k (.row e (r1 ++ r2) (d1 && d2) 0 [])) (.own k) v' := by
  have hTy := hE.T e te hte
  obtain ⟨B, c', u2, bs2, rfl, hc', hm2, ht2⟩ := hsrc
  have hSlt : ∀ b, S b → b < w.heap.size := fun b hb => by
    rcases hS b hb with hb | hb | hb
    · exact h.live_lt (.inl hb)
    · exact h.live_lt (.inr (.inl hb))
    · exact (hfl b hb).2.2.1
  have hDlt : ∀ b, D1 b ∨ D2 b → b < w.heap.size := fun b hb => by
    rcases (hD b hb).1 with hb | hb
    · exact h.live_lt (.inr (.inl hb))
    · exact (hfl b hb).2.2.1
  -- the end: a row object stands
  have fin : ∀ (w' : World) (root : Value) (top ins : List Nat), Kept base M w0 w' → w.heap.size ≤ w'.heap.size → (∀ b, Live S0 G st.ob b → w'.heap[b]? = w.heap[b]?) → (∀ b ∈ top, T b ∨ w.heap.size ≤ b) → (∀ b ∈ ins, D1 b ∨ D2 b) → ins.Nodup → oneV root →
      RowR E w' (fun b => S0 b ∨ b ∈ G.F ++ fl) e (r1 ++ r2) (d1 && d2) [] root top ins → ∃ G', RelG E base M S0 R0 w0 nt G' { st with ob := setO st.ob k (.row e (r1 ++ r2) (d1 && d2) 0 []) } a w' ∧ VR E w' S0 G' (setO st.ob k (.row e (r1 ++ r2) (d1 && d2) 0 [])) (.own k) root :=
    fun w' root top ins hk hsz hw htop hins hnd h1 hrow =>
      ⟨_, h.addRow hno e (r1 ++ r2) (d1 && d2) root top ins fl hk hsz hw (fun b hb => by
          obtain ⟨q1, q2, q3, q4⟩ := hfl b hb
          exact ⟨q1, q2, Nat.lt_of_lt_of_le q3 hsz, fun o x hx => (q4 o x hx).1⟩) (fun b hb => by
          rcases htop b hb with hb | hb
          · exact hT b hb
          · obtain ⟨f1, f2, f3, f4⟩ := h.old_lt hb
            exact ⟨f1, f2, fun hb' => by have := (hfl b hb').2.2.1; omega, .inl f3, fun o x hx => (f4 o x hx).1⟩) (fun b hb => hD b (hins b hb)) hnd hrow,
        .own _ _ (fun e' rows' dp vr hh hg => by simp [Gh.set1]) h1⟩
  have one : ∀ A n c, oneV (.slice A n c) := fun A n c => ⟨(fun _ h => by cases h), (fun _ h => by cases h)⟩
  -- a new block
  have grow : ∀ (A : Option Addr) (c : Nat) (u1 : Nat → Nat → Value) (bs1 : Nat → Nat → List Nat), (∀ j i : Nat, j < r1.length → i < te.ls.length → ∃ ad : Addr, A = some ad ∧ ad.spot = none ∧ w.cell? ⟨ad.block, ad.off + (j * te.ls.length + i), none⟩ = some (u1 j i)) →
      TabR E w S D1 d1 te r1 u1 bs1 → c < r1.length + r2.length →
      ∃ v' w' G', (Builtin.append_ ats ty #[.slice A r1.length c, .slice B r2.length c']).run P w = .ok v' w' ∧ RelG E base M S0 R0 w0 nt G' { st with ob := setO st.ob k (.row e (r1 ++ r2) (d1 && d2) 0 []) } a w' ∧ VR E w' S0 G' (setO st.ob k (.row e (r1 ++ r2) (d1 && d2) 0 [])) (.own k) v' :=
    fun A c u1 bs1 hm1 ht1 hlt => by
      obtain ⟨c2, rest, g1, g2, g3⟩ := run_app_grow (P := P) (w := w) (ats := ats) (ty := ty) ha0 ha1 hu hu1 hTy (run_first (w := w.drew) (c := c) hTy.pos.1 hm1) (run_first (w := w.drew) (c := c') hTy.pos.1 hm2) hlt hby
      have hold : ∀ b, b < w.heap.size → (w.drew.alloc (.cells (cellsOfTab r1.length te.ls.length u1 ++ (cellsOfTab r2.length te.ls.length u2 ++ rest)).toArray e)).heap[b]? = w.heap[b]? := fun b hb => heap_alloc_old w.drew _ hb
      have hsz1 : ∀ o : Go.Obj, w.heap.size ≤ (w.drew.alloc o).heap.size := fun o => by
        show w.heap.size ≤ (w.heap.push o).size
        simp
      have htab := ht1.append ht2 hx
      have hrow := htab.rowR hte (w' := w.drew.alloc (.cells (cellsOfTab r1.length te.ls.length u1 ++ (cellsOfTab r2.length te.ls.length u2 ++ rest)).toArray e)) (fun _ b hb => hold b (hDlt b hb)) (fun _ b hb => hold b (hSlt b hb)) (g := w.heap.size) (off := 0) (c := c2)
        (heap_alloc_new w.drew _) (by simpa using g1) (by
          simp only [List.size_toArray, List.length_append, cellsOfTab_length, g2, Nat.zero_add]
          rw [← Nat.add_assoc, ← Nat.add_mul, ← Nat.add_mul]
          exact Nat.mul_le_mul_right _ (by omega)) (fun j i hj hi => by
          simp only [List.length_append] at hj
          simp only [Nat.zero_add, List.getElem?_toArray]
          by_cases hj1 : j < r1.length
          · rw [if_pos hj1, List.getElem?_append_left (by rw [cellsOfTab_length]; exact (mod_row hj1 hi).1)]
            exact cellsOfTab_get hj1 hi
          · rw [if_neg hj1]
            have e1 : j * te.ls.length + i = r1.length * te.ls.length + ((j - r1.length) * te.ls.length + i) := by
              rw [← Nat.add_assoc, ← Nat.add_mul]; congr 2; omega
            rw [e1, List.getElem?_append_right (by rw [cellsOfTab_length]; omega), cellsOfTab_length, Nat.add_sub_cancel_left, List.getElem?_append_left (by rw [cellsOfTab_length]; exact (mod_row (by omega) hi).1)]
            exact cellsOfTab_get (by omega) hi)
      simp only [List.length_append] at hrow
      have hins : ∀ b ∈ (if (d1 && d2) = true then flatB (fun j i => if j < r1.length then bs1 j i else bs2 (j - r1.length) i) (r1.length + r2.length) te.ls.length else []), D1 b ∨ D2 b := fun b hb => by
        split at hb
        · obtain ⟨j, i, _, _, hb⟩ := mem_flatB.mp hb
          exact htab.sub j i b hb
        · cases hb
      have hnd : (if (d1 && d2) = true then flatB (fun j i => if j < r1.length then bs1 j i else bs2 (j - r1.length) i) (r1.length + r2.length) te.ls.length else []).Nodup := by
        split
        · exact flatB_nodup htab.nodup htab.disj
        · simp
      have hmono : ∀ b, S b → S0 b ∨ b ∈ G.F ++ fl := fun b hb => by
        rcases hS b hb with hb | hb | hb
        · exact .inl hb
        · exact .inr (List.mem_append.mpr (.inl hb))
        · exact .inr (List.mem_append.mpr (.inr hb))
      obtain ⟨G', f1, f2⟩ := fin _ (.slice (some ⟨w.heap.size, 0, none⟩) (r1.length + r2.length) c2) [w.heap.size] _ ⟨Nat.le_trans h.kept.size (hsz1 _), fun b hb hm => (hold b (Nat.lt_of_lt_of_le hb h.kept.size)).trans (h.kept.heap b hb hm), h.kept.os, h.kept.tape, h.kept.output⟩
        (hsz1 _) (fun b hb => hold b (h.live_lt hb)) (fun b hb => by simp at hb; exact .inr (by omega)) hins hnd (one _ _ _) (hrow.frame (fun _ _ => rfl) (fun _ _ => rfl) (fun _ _ _ => rfl) hmono)
      exact ⟨_, _, G', g3, f1, f2⟩
  rcases hs with ⟨rfl, rfl⟩ | ⟨g, off, c, arr, u1, bs1, rfl, htg, hg, hc, hfit, hm1, ht1⟩
  · -- onto nil
    by_cases h0 : r2.length = 0
    · have hr2 : r2 = [] := List.length_eq_zero_iff.mp h0
      subst hr2
      obtain ⟨G', f1, f2⟩ := fin w (.slice none 0 0) [] [] h.kept (Nat.le_refl _) (fun _ _ => rfl) (fun b hb => by cases hb) (fun b hb => by cases hb) (by simp) (one _ _ _) ⟨te, hte, (fun j r hj => by simp at hj), .inl ⟨rfl, rfl, rfl, rfl⟩⟩
      exact ⟨_, _, G', run_app_zero ha0 ha1 hu hu1 hTy, f1, f2⟩
    · exact grow none 0 (fun _ _ => undef) (fun _ _ => []) (fun j i hj => by simp at hj) ⟨(fun j r hj => by simp at hj), (fun j i r l hj => by simp at hj), (fun _ j i r l hj => by simp at hj), (fun _ _ _ hb => by cases hb), (fun _ _ => by simp), (fun _ _ _ _ _ _ hb => by cases hb)⟩ (by simp; omega)
  · by_cases hroom : r1.length + r2.length ≤ c
    · -- in place
      have hnews := run_first (P := P) (w := w) (c := c') hTy.pos.1 hm2
      have hone : ∀ u ∈ cellsOfTab r2.length te.ls.length u2, oneV u := fun u hu => by
        obtain ⟨x, hx⟩ := List.getElem?_of_mem hu
        have hx' : x < r2.length * te.ls.length := by have := (List.getElem?_eq_some_iff.mp hx).1; rwa [cellsOfTab_length] at this
        have hj : x / te.ls.length < r2.length := Nat.div_lt_of_lt_mul (by rw [Nat.mul_comm]; exact hx')
        have hi : x % te.ls.length < te.ls.length := Nat.mod_lt _ hTy.pos.1
        have hx2 : x / te.ls.length * te.ls.length + x % te.ls.length = x := by rw [Nat.mul_comm]; exact Nat.div_add_mod x _
        have := cellsOfTab_get (u := u2) hj hi
        rw [hx2, hx] at this
        cases this
        exact ht2.one _ _ hj hi
      have hrun := run_app_stay (P := P) (w := w) (ats := ats) (ty := ty) ha0 ha1 hu hu1 hTy hg cellsOfTab_length hnews hone hroom hfit
      have hle' : (r1.length + r2.length) * te.ls.length ≤ c * te.ls.length := Nat.mul_le_mul_right _ hroom
      rw [Nat.add_mul] at hle'
      have hold : ∀ arr' b, b ≠ g → (w.setRow g arr').heap[b]? = w.heap[b]? := fun arr' b hb => setRow_other w g b arr' hb
      have hnew := fun arr' => setRow_heap w g arr arr' e (0, 0) hg
      have hTg := hT g htg
      have hgS : ∀ b, S b → b ≠ g := fun b hb e => by
        subst e
        rcases hS b hb with hb | hb | hb
        · exact hTg.1 hb
        · exact hTg.2.1 hb
        · exact hTg.2.2.1 hb
      have htab := ht1.append ht2 hx
      have hrow := htab.rowR hte (w' := w.setRow g (arr.toList.take (off + r1.length * te.ls.length) ++ cellsOfTab r2.length te.ls.length u2 ++ arr.toList.drop (off + r1.length * te.ls.length + (cellsOfTab r2.length te.ls.length u2).length)).toArray)
        (fun _ b hb => hold _ b (fun e => hDT b hb (e ▸ htg))) (fun _ b hb => hold _ b (hgS b hb)) (g := g) (off := off) (c := c) (hnew _) (by simpa using hroom) (by
          simp only [List.size_toArray, List.length_append, List.length_take, List.length_drop, cellsOfTab_length, Array.length_toList]
          omega) (fun j i hj hi => by
          simp only [List.length_append] at hj
          simp only [List.getElem?_toArray]
          by_cases hj1 : j < r1.length
          · have := (mod_row hj1 hi).1
            rw [if_pos hj1, List.append_assoc, List.getElem?_append_left (by simp; omega), List.getElem?_take, if_pos (by omega)]
            simpa using hm1 j i hj1 hi
          · rw [if_neg hj1]
            have e1 : j * te.ls.length + i = r1.length * te.ls.length + ((j - r1.length) * te.ls.length + i) := by
              rw [← Nat.add_assoc, ← Nat.add_mul]; congr 2; omega
            have hm := (mod_row (j := j - r1.length) (n := r2.length) (by omega) hi).1
            have hlt : (arr.toList.take (off + r1.length * te.ls.length)).length = off + r1.length * te.ls.length := by simp; omega
            rw [List.append_assoc, List.getElem?_append_right (by rw [hlt]; omega), hlt, List.getElem?_append_left (by rw [cellsOfTab_length]; omega), e1, ← Nat.add_assoc, Nat.add_sub_cancel_left]
            exact cellsOfTab_get (by omega) hi)
      simp only [List.length_append] at hrow
      have hins : ∀ b ∈ (if (d1 && d2) = true then flatB (fun j i => if j < r1.length then bs1 j i else bs2 (j - r1.length) i) (r1.length + r2.length) te.ls.length else []), D1 b ∨ D2 b := fun b hb => by
        split at hb
        · obtain ⟨j, i, _, _, hb⟩ := mem_flatB.mp hb
          exact htab.sub j i b hb
        · cases hb
      have hnd : (if (d1 && d2) = true then flatB (fun j i => if j < r1.length then bs1 j i else bs2 (j - r1.length) i) (r1.length + r2.length) te.ls.length else []).Nodup := by
        split
        · exact flatB_nodup htab.nodup htab.disj
        · simp
      have hmono : ∀ b, S b → S0 b ∨ b ∈ G.F ++ fl := fun b hb => by
        rcases hS b hb with hb | hb | hb
        · exact .inl hb
        · exact .inr (List.mem_append.mpr (.inl hb))
        · exact .inr (List.mem_append.mpr (.inr hb))
      obtain ⟨G', f1, f2⟩ := fin _ (.slice (some ⟨g, off, none⟩) (r1.length + r2.length) c) [g] _ ⟨Nat.le_trans h.kept.size (by simp [World.setRow]), fun b hb hm => (hold _ b (fun e => by
          subst e; exact hTg.2.2.2.1.elim (fun h => by omega) hm)).trans (h.kept.heap b hb hm), h.kept.os, h.kept.tape, h.kept.output⟩
        (by simp [World.setRow]) (fun b hb => hold _ b (fun e => by
          subst e
          rcases hb with hb | hb | ⟨o, x, hx, hb⟩
          · exact hTg.1 hb
          · exact hTg.2.1 hb
          · exact hTg.2.2.2.2 o x hx hb)) (fun b hb => by simp at hb; subst hb; exact .inl htg) hins hnd (one _ _ _) (hrow.frame (fun _ _ => rfl) (fun _ _ => rfl) (fun _ _ _ => rfl) hmono)
      exact ⟨_, _, G', hrun, f1, f2⟩
    · refine grow (some ⟨g, off, none⟩) c u1 bs1 (fun j i hj hi => ⟨_, rfl, rfl, ?_⟩) ht1 (by omega)
      simp only [World.cell?, hg]
      simpa using hm1 j i hj hi

end
end Go.Proofs.Ythjkpphjlmmkdaa.Vai
