/- More words on slices of named data; no condition. -/
import Derived.Test.YtbmafhpbinjgaaaT1
namespace Go.Proofs.Ytbmafhpbinjgaaa.Vai
open Go
set_option linter.unusedSimpArgs false
set_option linter.unusedVariables false
set_option linter.unnecessarySimpa false
theorem in_mid' {p p' : Rows} (h : p.length = p'.length) (q : Rows) (r : List Dat) : inR (p.length : Int) (lenI (p' ++ r :: q)) = true := by rw [h]; exact in_mid p' q r
theorem at_mid' {p p' : Rows} (h : p.length = p'.length) (q : Rows) (r : List Dat) : at' (p' ++ r :: q) p.length = r := by rw [h]; exact at_mid p' q r
theorem upd_mid' {p p' : Rows} (h : p.length = p'.length) (q : Rows) (r : List Dat) (c : Nat) (ds : List Dat) : updR (p' ++ r :: q) p.length c ds = p' ++ setRange r c ds :: q := by rw [h]; exact upd_mid p' q r c ds
theorem lenI_map {α : Type} (e : α → List Dat) (l : List α) : lenI (l.map e) = (l.length : Int) := by show ((l.map e).length : Int) = _; rw [List.length_map]
theorem le0_len (x : Rows) : leI 0 (lenI x) = true := leT (by show (0 : Int) ≤ (x.length : Int); omega)
theorem eq_len {α : Type} {e : α → List Dat} {l l' : List α} (h : l.length = l'.length) : eqI (lenI (l.map e)) (lenI (l'.map e)) = true := eqT (by rw [lenI_map, lenI_map, h])
theorem ne_len {α : Type} {e : α → List Dat} {l l' : List α} (h : ¬ l.length = l'.length) : eqI (lenI (l.map e)) (lenI (l'.map e)) = false := eqF (by rw [lenI_map, lenI_map]; omega)
theorem ltF_nn {n : Int} (h : 0 ≤ n) (m : Nat) : ltI (n + (m : Int)) 0 = false := ltF (by omega)
theorem sz_flat {n : Int} {x : Rows} {m : Nat} (h0 : 0 ≤ n) (h1 : n ≤ 1048576) (hx : x.length = m) (h : m ≤ 1152921504606846976) : (bif ltI (w64 (n - lenI x)) 0 then some [Dat.int (-1)] else some [.int (w64 (n - lenI x))]) = some [.int (szv n m)] := by
  have e : lenI x = (m : Int) := by show (x.length : Int) = _; rw [hx]
  rw [e, w64_id ⟨by omega, by omega⟩]
  unfold szv
  by_cases h2 : (m : Int) ≤ n
  · rw [ltF (by omega), if_pos h2]; rfl
  · rw [ltT (by omega), if_neg h2]; rfl
theorem sz_len {n : Int} {x : Rows} {m b : Nat} (h0 : 0 ≤ n) (h1 : n ≤ 1048576) (hx : x.length = m) (h : m ≤ 1152921504606846976) {X : Int → Option (List Dat)} (hX : (m : Int) ≤ n → X (n - m) = some [.int (szv (n - m) b)]) : (bif ltI (w64 (n - lenI x)) 0 then some [Dat.int (-1)] else X (w64 (n - lenI x))) = some [.int (szv n (m + b))] := by
  have e : lenI x = (m : Int) := by show (x.length : Int) = _; rw [hx]
  rw [e, w64_id ⟨by omega, by omega⟩]
  by_cases h2 : (m : Int) ≤ n
  · have := sz_chain (n := n) (a := m) (b := b) h0 (X := X (n - m)) (fun _ _ => hX h2)
    have e1 : szv n m = n - m := if_pos h2
    rw [e1] at this
    exact this
  · rw [ltT (by omega), cond_true]
    unfold szv
    rw [if_neg (by omega)]
theorem eqS_dec (a b : ByteArray) : eqS a b = decide (a = b) := by
  unfold eqS
  by_cases h : a = b
  · subst h; simp
  · rw [decide_eq_false h]
    have : a.toList ≠ b.toList := fun hh => h (by rw [ByteArray.toList_eq, ByteArray.toList_eq] at hh; exact ByteArray.ext (Array.toList_inj.mp hh))
    simpa using this
theorem eqS_self (a : ByteArray) : eqS a a = true := by simp [eqS]
end Go.Proofs.Ytbmafhpbinjgaaa.Vai
